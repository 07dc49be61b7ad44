/- The walks of ClockTicks, ClockOffset and ClockValid. -/
import Derived.Test.YtjldhikadijbiaaB5
namespace Go.Proofs.Ytjldhikadijbiaa
open Go.RowKit

theorem take_small (l : List Ck.Ex) (k : Nat) (hk : k ≤ 1000) : (l.take k).length ≤ 9223372036854775806 := by rw [List.length_take]; omega

set_option maxRecDepth 100000 in
set_option maxHeartbeats 1000000 in
theorem ticks_law (d r : Int) (A : Option Addr) (cap : Nat) (l : List Ck.Ex) (w : World) (hx : InEx w A cap l) :
    Calls Try.prog 5 #[.int .i64 d, .slice A l.length cap, .int .i64 r] w (Told true w) := by
  have HF := Lib.hid (few_any A cap l w hx)
  have hs := take_small l 16 (by omega)
  generalize l.take 16 = x at *
  clear hx
  go_enter Try.func5, Try.ntmps5
  go_wp2_with fail
  refine HF.out.mono ?_
  rintro e w1 ⟨A1, c1, rfl, hX1, hb1⟩
  have HB1 := Lib.hid hb1
  have HX1 := Lib.hid hX1
  have HT := Lib.hid (ticks_any d A1 c1 x (by omega) r w1 hX1)
  have HR := Lib.hid fun (W : World) (hb : Below w1.heap.size w1 W) => rticks_any d A1 c1 x (by omega) r W (HX1.out.later hb)
  generalize Ck.ticks d x r = res at *
  obtain ⟨p, q, s⟩ := res
  clear hb1 hX1
  go_wp2_with fail
  refine HT.out.mono ?_
  rintro e w2 ⟨rfl, hb2⟩
  have HB2 := Lib.hid (HB1.out.trans (hb2.mono HB1.out.size))
  have HR2 := Lib.hid (HR.out w2 hb2)
  clear hb2 HR HT
  go_wp2_with fail
  refine HR2.out.mono ?_
  rintro e w3 ⟨rfl, hb3⟩
  have HB3 := Lib.hid (HB2.out.trans (hb3.mono HB2.out.size))
  clear hb3 HR2
  go_wp2_with fail
  refine (lives_any w3).mono ?_
  rintro e w4 ⟨rfl, hb4⟩
  have HB4 := Lib.hid (HB3.out.trans (hb4.mono HB3.out.size))
  clear hb4
  go_wp2_with fail
  go_ret
  exact ⟨rfl, HB4.out⟩

set_option maxRecDepth 100000 in
set_option maxHeartbeats 1000000 in
theorem offset_law (d r : Int) (A : Option Addr) (cap : Nat) (l : List Ck.Ex) (w : World) (hx : InEx w A cap l) :
    Calls Try.prog 6 #[.int .i64 d, .slice A l.length cap, .int .i64 r] w (Told true w) := by
  have HF := Lib.hid (few_any A cap l w hx)
  have hs := take_small l 16 (by omega)
  generalize l.take 16 = x at *
  clear hx
  go_enter Try.func6, Try.ntmps6
  go_wp2_with fail
  refine HF.out.mono ?_
  rintro e w1 ⟨A1, c1, rfl, hX1, hb1⟩
  have HB1 := Lib.hid hb1
  have HX1 := Lib.hid hX1
  have HT := Lib.hid (offset_any d A1 c1 x (by omega) r w1 hX1)
  have HR := Lib.hid fun (W : World) (hb : Below w1.heap.size w1 W) => roffset_any d A1 c1 x (by omega) r W (HX1.out.later hb)
  generalize Ck.offset d x r = res at *
  obtain ⟨p, q, s⟩ := res
  clear hb1 hX1
  go_wp2_with fail
  refine HT.out.mono ?_
  rintro e w2 ⟨rfl, hb2⟩
  have HB2 := Lib.hid (HB1.out.trans (hb2.mono HB1.out.size))
  have HR2 := Lib.hid (HR.out w2 hb2)
  clear hb2 HR HT
  go_wp2_with fail
  refine HR2.out.mono ?_
  rintro e w3 ⟨rfl, hb3⟩
  have HB3 := Lib.hid (HB2.out.trans (hb3.mono HB2.out.size))
  clear hb3 HR2
  go_wp2_with fail
  refine (lives_any w3).mono ?_
  rintro e w4 ⟨rfl, hb4⟩
  have HB4 := Lib.hid (HB3.out.trans (hb4.mono HB3.out.size))
  clear hb4
  go_wp2_with fail
  go_ret
  exact ⟨rfl, HB4.out⟩

end Go.Proofs.Ytjldhikadijbiaa
