/- The walk of ClockAgrees. -/
import Derived.Test.YtjldhikadijbiaaD4
namespace Go.Proofs.Ytjldhikadijbiaa
open Go.RowKit

theorem InInts.later {w w' : World} {A : Option Addr} {c : Nat} {l : List Int} (h : InInts w A c l) (hb : Below w.heap.size w w') : InInts w' A c l := ⟨h.1.later hb, h.2⟩

set_option maxRecDepth 100000 in
set_option maxHeartbeats 2000000 in
theorem agrees_law (d first : Int) (A : Option Addr) (cap : Nat) (l : List Ck.Ex) (R : Option Addr) (rcap : Nat) (rs : List Int) (w : World) (hx : InEx w A cap l) (hr : InInts w R rcap rs) :
    Calls Try.prog 7 #[.int .i64 d, .slice A l.length cap, .int .i64 first, .slice R rs.length rcap] w (Told true w) := by
  have HF := Lib.hid (few_any A cap l w hx)
  have hs : (l.take 16).length ≤ 9223372036854775806 := by rw [List.length_take]; omega
  have hrs : (rs.take 60).length ≤ 60 := by rw [List.length_take]; omega
  have HR := Lib.hid hr
  have HI := Lib.hid fun (W : World) (hb : Below w.heap.size w W) => ints_any R rcap rs W (HR.out.later hb)
  generalize l.take 16 = x at *
  generalize rs.take 60 = r at *
  clear hx hr
  go_enter Try.func7, Try.ntmps7
  go_wp2_with fail
  refine HF.out.mono ?_
  rintro e w1 ⟨A1, c1, rfl, hX1, hb1⟩
  have HB1 := Lib.hid hb1
  have HX1 := Lib.hid hX1
  have HI1 := Lib.hid (HI.out w1 hb1)
  clear hb1 hX1 HF
  go_wp2_with fail
  refine HI1.out.mono ?_
  rintro e w2 ⟨R2, c2, rfl, hR2, hb2⟩
  have HB2 := Lib.hid (HB1.out.trans (hb2.mono HB1.out.size))
  have HX2 := Lib.hid (HX1.out.later hb2)
  have HR2 := Lib.hid hR2
  have HI2 := Lib.hid (HI.out w2 HB2.out)
  clear hb2 hR2 HI1 HB1 HX1
  go_wp2_with fail
  refine HI2.out.mono ?_
  rintro e w3 ⟨R3, c3, rfl, hR3, hb3⟩
  have HB3 := Lib.hid (HB2.out.trans (hb3.mono HB2.out.size))
  have HX3 := Lib.hid (HX2.out.later hb3)
  have HR23 := Lib.hid (HR2.out.later hb3)
  have HR3 := Lib.hid hR3
  have HA := Lib.hid (agrees_any d A1 c1 x (by omega) first R2 c2 r (by omega) w3 HX3.out HR23.out)
  have HB := Lib.hid fun (W : World) (hb : Below w3.heap.size w3 W) => ragrees_any d A1 c1 x (by omega) first R3 c3 r (by omega) W (HX3.out.later hb) (HR3.out.later hb)
  clear hb3 hR3 HI2 HI HB2 HX2 HR2
  generalize Ck.agrees d x first r = res at *
  go_wp2_with fail
  refine HA.out.mono ?_
  rintro e w4 ⟨rfl, hb4⟩
  have HB4 := Lib.hid hb4
  have HBB := Lib.hid (HB.out w4 hb4)
  clear hb4 HA HB
  go_wp2_with fail
  refine HBB.out.mono ?_
  rintro e w5 ⟨rfl, hb5⟩
  have HB5 := Lib.hid (HB4.out.trans (hb5.mono HB4.out.size))
  have HS := Lib.hid (sameInts_any R2 R3 c2 c3 r (by omega) w5 (HR23.out.later HB5.out) (HR3.out.later HB5.out))
  clear hb5 HBB HB4
  cases res
  all_goals
    go_wp2_with fail
    refine HS.out.mono ?_
    rintro e w6 ⟨rfl, hb6⟩
    have HB6 := Lib.hid (HB5.out.trans (hb6.mono HB5.out.size))
    clear hb6
    go_wp2_with fail
    refine (lives_any w6).mono ?_
    rintro e w7 ⟨rfl, hb7⟩
    have HB7 := Lib.hid (HB6.out.trans (hb7.mono HB6.out.size))
    clear hb7
    go_wp2_with fail
    go_ret
    exact ⟨rfl, HB3.out.trans (HB7.out.mono HB3.out.size)⟩

end Go.Proofs.Ytjldhikadijbiaa
