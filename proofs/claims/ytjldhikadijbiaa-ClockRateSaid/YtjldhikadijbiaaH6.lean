/- The walk of frac's Compare. -/
import Derived.Test.YtjldhikadijbiaaH5
namespace Go.Proofs.Ytjldhikadijbiaa
open Go.RowKit

theorem Blk.below {w w' : World} {g : Nat} {t : TypeId} {cs : Array Value} {B : Nat} (h : Blk w g t cs) (hb : Below B w w') (hg : g < B) : Blk w' g t cs := (hb.block g hg).trans h
theorem Blk.later {w w' : World} {g : Nat} {t : TypeId} {cs : Array Value} (h : Blk w g t cs) (hb : Below w.heap.size w w') : Blk w' g t cs := h.below hb h.lt

def sgn (D : Int) : Int := if D = 0 then 0 else if D < 0 then -1 else 1
def GivesI (k : Int) (w : World) (e : Ending) (w' : World) : Prop := e = .returned (.int .i64 k) ∧ Below w.heap.size w w'

set_option maxRecDepth 100000 in
set_option maxHeartbeats 2000000 in
theorem compare_any (na nb : Int) (da db : Nat) (ha : Rd na da) (hb : Rd nb db) (w : World) :
    Calls Try.prog 47 #[fr na da, fr nb db] w (GivesI (sgn (na * db - nb * da)) w) := by
  have HVa := fun W => Lib.hid (fvalid_any na da ha W)
  have HVb := fun W => Lib.hid (fvalid_any nb db hb W)
  obtain ⟨a1, a2, a3, a4, _⟩ := ha
  obtain ⟨b1, b2, b3, b4, _⟩ := hb
  have HS := fun W => Lib.hid (sum_any na (db : Int) (-nb) (da : Int) (by omega) (by omega) (by omega) (by omega) W)
  have e : na * (db : Int) + -nb * (da : Int) = na * db - nb * da := by rw [Int.neg_mul]; omega
  rw [e] at HS
  generalize na * (db : Int) - nb * (da : Int) = D at *
  clear e
  obtain ⟨w0, hw0⟩ : ∃ w0, w0 = (w.alloc (.cells #[.int .i64 na, .int .i64 (da : Int)] 28)).alloc (.cells #[.int .i64 nb, .int .i64 (db : Int)] 28) := ⟨_, rfl⟩
  have HA : Hid (Blk w0 w.heap.size 28 #[.int .i64 na, .int .i64 (da : Int)]) := Lib.hid (by rw [hw0]; exact (Blk.new w 28 _).alloc _)
  have HBb : Hid (Blk w0 (w.heap.size + 1) 28 #[.int .i64 nb, .int .i64 (db : Int)]) := Lib.hid (by
    rw [hw0]
    have := Blk.new (w.alloc (.cells #[.int .i64 na, .int .i64 (da : Int)] 28)) 28 #[.int .i64 nb, .int .i64 (db : Int)]
    rw [World.size_alloc] at this
    exact this)
  have HB0 : Hid (Below w.heap.size w w0) := Lib.hid (by rw [hw0]; exact ((Below.refl _ w).alloc (Nat.le_refl _) _).alloc (by simp) _)
  have HW0 := Lib.hid hw0
  clear hw0
  unfold fr at HVa HVb ⊢
  go_enter Try.func47, Try.ntmps47
  go_wp2_with fail
  rw [← HW0.out]
  have c0 := HA.out.cell 0
  have c1 := HA.out.cell 1
  go_wp2_with fail
  refine (HVa _).out.mono ?_
  rintro e w1 ⟨rfl, hb1⟩
  have HA1 := Lib.hid (HA.out.later hb1)
  have HBb1 := Lib.hid (HBb.out.later hb1)
  have HB1 := Lib.hid (HB0.out.trans (hb1.mono HB0.out.size))
  clear hb1 c0 c1 HA HBb HB0 HW0
  have c0 := HBb1.out.cell 0
  have c1 := HBb1.out.cell 1
  go_wp2_with fail
  refine (HVb _).out.mono ?_
  rintro e w2 ⟨rfl, hb2⟩
  have HA2 := Lib.hid (HA1.out.later hb2)
  have HBb2 := Lib.hid (HBb1.out.later hb2)
  have HB2 := Lib.hid (HB1.out.trans (hb2.mono HB1.out.size))
  clear hb2 c0 c1 HA1 HBb1 HB1
  have c0 := HA2.out.cell 0
  have c1 := HA2.out.cell 1
  have d0 := HBb2.out.cell 0
  have d1 := HBb2.out.cell 1
  go_wp2_with fail
  refine (HS _).out.mono ?_
  rintro e w3 ⟨rfl, hb3⟩
  have HB3 := Lib.hid (HB2.out.trans (hb3.mono HB2.out.size))
  clear hb3 c0 c1 d0 d1 HA2 HBb2 HB2
  unfold wd
  obtain ⟨p, hp⟩ : ∃ p, p = D.natAbs := ⟨_, rfl⟩
  rw [← hp]
  by_cases h0 : D = 0
  · have hx : decide (D < 0) = false := by simp; omega
    have HR : Hid (sgn D = 0) := Lib.hid (by unfold sgn; rw [if_pos h0])
    have e0 : ((p : Int) == 0) = true := by rw [beq_iff_eq]; omega
    rw [hx]
    clear hx h0 hp
    go_wp2_with fail
    go_ret
    exact ⟨by rw [HR.out]; rfl, HB3.out.alloc HB3.out.size _⟩
  · have e0 : ((p : Int) == 0) = false := by rw [beq_eq_false_iff_ne]; omega
    by_cases h1 : D < 0
    · have HR : Hid (sgn D = -1) := Lib.hid (by unfold sgn; rw [if_neg h0, if_pos h1])
      rw [decide_eq_true h1]
      clear h0 h1 hp
      go_wp2_with fail
      go_ret
      exact ⟨by rw [HR.out]; rfl, HB3.out.alloc HB3.out.size _⟩
    · have HR : Hid (sgn D = 1) := Lib.hid (by unfold sgn; rw [if_neg h0, if_neg h1])
      rw [decide_eq_false h1]
      clear h0 h1 hp
      go_wp2_with fail
      go_ret
      exact ⟨by rw [HR.out]; rfl, HB3.out.alloc HB3.out.size _⟩

end Go.Proofs.Ytjldhikadijbiaa
