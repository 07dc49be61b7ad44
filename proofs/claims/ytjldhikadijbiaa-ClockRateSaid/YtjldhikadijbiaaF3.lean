/- The walk of clockOf: a clock within its drift, and exchanges that agree with it. -/
import Derived.Test.YtjldhikadijbiaaF2
import Derived.Test.YtjldhikadijbiaaD4
namespace Go.Proofs.Ytjldhikadijbiaa
open Go.RowKit

/-- a made clock in memory -/
structure Has (w : World) (d : Int) (A : Option Addr) (rs : List Int) (X : Option Addr) (xs : List Ck.Ex) : Prop where
  made : Ck.Made d rs 43 xs
  rd : Ints w w.heap.size A rs
  ex : Exs w w.heap.size X xs
theorem Has.later {w w' : World} {d : Int} {A X : Option Addr} {rs : List Int} {xs : List Ck.Ex} (h : Has w d A rs X xs) (hb : Below w.heap.size w w') : Has w' d A rs X xs := ⟨h.made, h.rd.later hb, h.ex.later hb⟩

def ClockOf (w : World) (e : Ending) (w' : World) : Prop :=
  ∃ d A c rs X cx xs, e = .returned (.tuple #[.int .i64 d, .slice A 40 c, .slice X xs.length cx]) ∧ Has w' d A rs X xs ∧ Below w.heap.size w w'

def ClockOfC (w : World) (e : Ending) (w' : World) : Prop :=
  ∃ d A c rs X cx xs, e = .returned (.tuple #[.int .i64 d, .slice A 40 c, .slice X xs.length cx]) ∧ xs.length ≤ cx ∧ Has w' d A rs X xs ∧ Below w.heap.size w w'

theorem pick_at (A : Option Addr) (cap : Nat) (l : List Int) (hl : l.length ≤ 9223372036854775807) (k : Nat) (kI : Int) (hkI : (k : Int) = kI) (hk : k ≤ 10) (m : Int) (hm : 0 < m) (hm2 : m ≤ 10000) (w : World) (hx : Ints w w.heap.size A l) :
    Calls Try.prog 33 #[.slice A l.length cap, .int .i64 kI, .int .i64 m] w fun e w' => e = .returned (.int .i64 (pick l k m)) ∧ w' = w := by
  subst hkI
  exact pick_any A cap l hl k hk m hm hm2 w hx

set_option maxRecDepth 100000 in
set_option maxHeartbeats 1000000 in
theorem clockOf_more (A : Option Addr) (cap : Nat) (l : List Int) (hl : l.length ≤ 9223372036854775807) (B : Option Addr) (bcap : Nat) (m : List Int) (hm : m.length ≤ 9223372036854775807) (w : World) (hA : Ints w w.heap.size A l) (hB : Ints w w.heap.size B m) :
    Calls Try.prog 12 #[.slice A l.length cap, .slice B m.length bcap] w (ClockOfC w) := by
  have HP0 := Lib.hid (pick_at A cap l (by omega) 0 0 rfl (by omega) 513 (by omega) (by omega) w hA)
  have HP1 := Lib.hid (pick_at A cap l (by omega) 1 1 rfl (by omega) 2001 (by omega) (by omega) w hA)
  obtain ⟨d0, d1⟩ := pick_in l 0 513 (by omega)
  obtain ⟨b0, b1⟩ := pick_in l 1 2001 (by omega)
  generalize pick l 0 513 = d at *
  generalize pick l 1 2001 = p at *
  have HR := Lib.hid (readings_any d (p - 1000) d0 (by omega) (by omega) (by omega) A cap l (by omega) w hA)
  have HM := Lib.hid hB
  clear hA hB
  go_enter Try.func12, Try.ntmps12
  go_wp2_with fail
  refine HP0.out.mono ?_
  rintro e w' ⟨rfl, hw⟩
  obtain rfl := hw.symm
  clear hw
  go_wp2_with fail
  refine HP1.out.mono ?_
  rintro e w' ⟨rfl, hw⟩
  obtain rfl := hw.symm
  clear hw
  go_wp2_with fail
  refine HR.out.mono ?_
  rintro e w1 ⟨R, rc, rs, a, rfl, hrs, hruns, hR, hb1⟩
  have HB1 := Lib.hid hb1
  have HR1 := Lib.hid hR
  have HM1 := Lib.hid (HM.out.later hb1)
  have HX := Lib.hid (exchanges_any R rc rs hrs B bcap m hm w1 hR HM1.out)
  have HG := Lib.hid (hruns.good d0 (by omega) (by omega) (by omega) hrs)
  have HRL := Lib.hid hrs
  rw [hrs]
  clear hb1 hR hruns hrs HP0 HP1 HR HM
  go_wp2_with fail
  refine HX.out.mono ?_
  rintro e w2 ⟨X, cx, xs, rfl, hcx, hx1, hx16, hgx, hX, hb2⟩
  have HB2 := Lib.hid (HB1.out.trans (hb2.mono HB1.out.size))
  have HH : Hid (Has w2 d R rs X xs) := Lib.hid ⟨⟨d0, by omega, HRL.out, HG.out.2, HG.out.1, hx1, hx16, hgx, by omega⟩, HR1.out.later hb2, hX⟩
  clear hb2 hX hgx
  go_wp2_with fail
  go_ret3
  exact ⟨d, R, rc, rs, X, cx, xs, rfl, hcx, HH.out, HB2.out⟩

theorem clockOf_any (A : Option Addr) (cap : Nat) (l : List Int) (hl : l.length ≤ 9223372036854775807) (B : Option Addr) (bcap : Nat) (m : List Int) (hm : m.length ≤ 9223372036854775807) (w : World) (hA : Ints w w.heap.size A l) (hB : Ints w w.heap.size B m) :
    Calls Try.prog 12 #[.slice A l.length cap, .slice B m.length bcap] w (ClockOf w) := by
  refine (clockOf_more A cap l hl B bcap m hm w hA hB).mono ?_
  rintro e w' ⟨d, R, rc, rs, X, cx, xs, rfl, _, hH, hb⟩
  exact ⟨d, R, rc, rs, X, cx, xs, rfl, hH, hb⟩

end Go.Proofs.Ytjldhikadijbiaa
