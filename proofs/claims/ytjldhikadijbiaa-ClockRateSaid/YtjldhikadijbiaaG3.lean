/- The walk of ClockDual. -/
import Derived.Test.YtjldhikadijbiaaG2
namespace Go.Proofs.Ytjldhikadijbiaa
open Go.RowKit

/-- the tests that ClockDual makes, decided -/
theorem dual_tests (p1 p2 p3 q1 q2 t r : Int) (h : Ck.Among (p1, p2, p3) t ↔ Ck.Among (q1, q2, 0) (r - t)) :
    ((p3 == 0) = true ∧ decide (p1 ≤ t) = true ∧ decide (t ≤ p2) = true ∧ decide (q1 ≤ r - t) = true ∧ decide (r - t ≤ q2) = true) ∨
    (((p3 == 0) = false ∨ ((p3 == 0) = true ∧ decide (p1 ≤ t) = false) ∨ ((p3 == 0) = true ∧ decide (p1 ≤ t) = true ∧ decide (t ≤ p2) = false)) ∧
      (decide (q1 ≤ r - t) = false ∨ (decide (q1 ≤ r - t) = true ∧ decide (r - t ≤ q2) = false))) := by
  unfold Ck.Among at h
  dsimp only at h
  simp only [beq_iff_eq, beq_eq_false_iff_ne, decide_eq_true_eq, decide_eq_false_iff_not]
  by_cases ha : p3 = 0 ∧ p1 ≤ t ∧ t ≤ p2
  · have := h.1 ha
    exact Or.inl ⟨ha.1, ha.2.1, ha.2.2, this.2.1, this.2.2⟩
  · have hb : ¬ (q1 ≤ r - t ∧ r - t ≤ q2) := fun hq => ha (h.2 ⟨rfl, hq⟩)
    refine Or.inr ⟨?_, ?_⟩ <;> omega

set_option maxRecDepth 100000 in
set_option maxHeartbeats 4000000 in
theorem dual_law (A : Option Addr) (cap : Nat) (l : List Int) (B : Option Addr) (bcap : Nat) (m : List Int) (tick by' : Int) (ht : i64 tick) (hy : i64 by') (w : World) (hA : InInts w A cap l) (hB : InInts w B bcap m) :
    Calls Try.prog 9 #[.slice A l.length cap, .slice B m.length bcap, .int .i64 tick, .int .i64 by'] w (Told true w) := by
  have HC := Lib.hid (clockOf_any A cap l hA.len B bcap m hB.len w hA.1 hB.1)
  have HT := fun W => Lib.hid (around_any tick 60 ht (by omega) (by omega) W)
  have HY := fun W => Lib.hid (bound_any by' 40 hy (by omega) (by omega) W)
  have t0 := Ck.around_ge tick 60 (by omega)
  have t1 := Ck.around_lt tick 60 (by omega)
  obtain ⟨y0, y1⟩ := Ck.bound_in by' 40 (by omega)
  obtain ⟨tn, htn⟩ : ∃ tn : Nat, Ck.around tick 60 = (tn : Int) := ⟨(Ck.around tick 60).toNat, by omega⟩
  rw [htn] at HT t0 t1
  generalize Ck.bound by' 40 = bd at *
  clear hA hB ht hy htn
  go_enter Try.func9, Try.ntmps9
  go_wp2_with fail
  refine HC.out.mono ?_
  rintro e w1 ⟨d, R, rc, rs, X, cx, xs, rfl, hH, hb1⟩
  have HB1 := Lib.hid hb1
  have HH := Lib.hid hH
  have hx16 := hH.made.le
  have HL := Lib.hid hH.made.len
  obtain ⟨un, hun⟩ : ∃ un : Nat, un = min tn 39 := ⟨_, rfl⟩
  have hur : un < rs.length := by rw [HL.out]; omega
  obtain ⟨b, off, rfl, hbl, hcell⟩ := hH.rd.2 (by omega)
  have c0 := hcell un hur
  have hsm := hH.made.small un (by omega)
  rw [getD_at rs un hur] at hsm
  obtain ⟨s1, s2⟩ := hsm
  generalize rs[un] = z at *
  have hdual := hH.made.dual tn (by omega) (z + bd) (by omega) (by omega)
  have hhas := hH.made.offset_has tn (by omega)
  have HTk := fun (W : World) (h : Has W d (some ⟨b, off, none⟩) rs X xs) => Lib.hid (ticks_any d X cx xs (by omega) (z + bd) W h.ex)
  have HOf := fun (W : World) (h : Has W d (some ⟨b, off, none⟩) rs X xs) => Lib.hid (offset_any d X cx xs (by omega) (tn : Int) W h.ex)
  generalize Ck.ticks d xs (z + bd) = p at *
  generalize Ck.offset d xs (tn : Int) = q at *
  obtain ⟨p1, p2, p3⟩ := p
  obtain ⟨q1, q2, q3⟩ := q
  have hq : q3 = 0 := hhas.1
  subst hq
  have HD := Lib.hid (dual_tests p1 p2 p3 q1 q2 tn (z + bd) hdual)
  clear hb1 hH HC hcell hdual hhas hur
  go_wp2_with fail
  refine (HT _).out.mono ?_
  rintro e w' ⟨rfl, hw⟩
  obtain rfl := hw.symm
  clear hw
  go_wp2_with fail
  have wr1 : IntKind.i64.wrap (z + bd) = z + bd := IntWalk.i64_in _ (by omega)
  by_cases h39 : 39 < tn
  · obtain rfl : un = 39 := by omega
    have h39I : (39 : Int) < (tn : Int) := by omega
    have h39J : True := trivial
    clear hun
    go_quiet ((go_at_call 32; exact Calls.quiet_of_same (HY _).out))
    clear wr1 h39 h39I h39J c0
    have hbq : Below w1.heap.size w1 (w1.drewN nq) := below_drewN (Below.refl _ _) _
    have HHq := Lib.hid (HH.out.later hbq)
    have HBq := Lib.hid (HB1.out.trans (hbq.mono HB1.out.size))
    have HT1 := HTk _ HHq.out
    clear hbq HH HB1
    generalize w1.drewN nq = w2 at *
    go_wp2_with fail
    refine HT1.out.mono ?_
    rintro e w3 ⟨rfl, hb3⟩
    have HH3 := Lib.hid (HHq.out.later hb3)
    have HB3 := Lib.hid (HBq.out.trans (hb3.mono HBq.out.size))
    have HO3 := HOf _ HH3.out
    clear hb3 HT1 HHq HBq
    go_wp2_with fail
    refine HO3.out.mono ?_
    rintro e w4 ⟨rfl, hb4⟩
    have HB4 := Lib.hid (HB3.out.trans (hb4.mono HB3.out.size))
    clear hb4 HO3 HB3 HH3 HTk HOf
    have wr1 : -100000 ≤ z + bd - tn := by omega
    have wr2 : z + bd - tn ≤ 100000 := by omega
    rcases HD.out with ⟨e1, e2, e3, e4, e5⟩ | ⟨e1 | ⟨e1, e2⟩ | ⟨e1, e2, e3⟩, e4 | ⟨e4, e5⟩⟩
    all_goals
      go_wp2_with fail
      refine (lives_any w4).mono ?_
      rintro e w6 ⟨rfl, hb6⟩
      have HB6 := Lib.hid (HB4.out.trans (hb6.mono HB4.out.size))
      clear hb6
      go_wp2_with fail
      go_ret
      exact ⟨rfl, HB6.out⟩
  · obtain rfl : tn = un := by omega
    have h39I : ¬ (39 : Int) < (tn : Int) := by omega
    have h39J : (tn : Int) < 40 := by omega
    clear hun
    go_quiet ((go_at_call 32; exact Calls.quiet_of_same (HY _).out))
    clear wr1 h39 h39I h39J c0
    have hbq : Below w1.heap.size w1 (w1.drewN nq) := below_drewN (Below.refl _ _) _
    have HHq := Lib.hid (HH.out.later hbq)
    have HBq := Lib.hid (HB1.out.trans (hbq.mono HB1.out.size))
    have HT1 := HTk _ HHq.out
    clear hbq HH HB1
    generalize w1.drewN nq = w2 at *
    go_wp2_with fail
    refine HT1.out.mono ?_
    rintro e w3 ⟨rfl, hb3⟩
    have HH3 := Lib.hid (HHq.out.later hb3)
    have HB3 := Lib.hid (HBq.out.trans (hb3.mono HBq.out.size))
    have HO3 := HOf _ HH3.out
    clear hb3 HT1 HHq HBq
    go_wp2_with fail
    refine HO3.out.mono ?_
    rintro e w4 ⟨rfl, hb4⟩
    have HB4 := Lib.hid (HB3.out.trans (hb4.mono HB3.out.size))
    clear hb4 HO3 HB3 HH3 HTk HOf
    have wr1 : -100000 ≤ z + bd - tn := by omega
    have wr2 : z + bd - tn ≤ 100000 := by omega
    rcases HD.out with ⟨e1, e2, e3, e4, e5⟩ | ⟨e1 | ⟨e1, e2⟩ | ⟨e1, e2, e3⟩, e4 | ⟨e4, e5⟩⟩
    all_goals
      go_wp2_with fail
      refine (lives_any w4).mono ?_
      rintro e w6 ⟨rfl, hb6⟩
      have HB6 := Lib.hid (HB4.out.trans (hb6.mono HB4.out.size))
      clear hb6
      go_wp2_with fail
      go_ret
      exact ⟨rfl, HB6.out⟩

end Go.Proofs.Ytjldhikadijbiaa
