/- The walks of frac's New and Valid, at small numbers. -/
import Derived.Test.YtjldhikadijbiaaH1
namespace Go.Proofs.Ytjldhikadijbiaa
open Go.RowKit

/-- a fraction as a value -/
def fr (n : Int) (d : Nat) : Value := .agg #[.int .i64 n, .int .i64 (d : Int)]
def redN (n : Int) (d : Nat) : Int := n / (Nat.gcd n.natAbs d : Nat)
def redD (n : Int) (d : Nat) : Nat := d / Nat.gcd n.natAbs d

theorem gcd_dvd_int (n : Int) (d : Nat) : ((Nat.gcd n.natAbs d : Nat) : Int) ∣ n := Int.ofNat_dvd_left.2 (Nat.gcd_dvd_left _ _)
theorem red_facts (n : Int) (d : Nat) (hd : 1 ≤ d) : ∃ g : Nat, g = Nat.gcd n.natAbs d ∧ 1 ≤ g ∧ n = redN n d * g ∧ d = redD n d * g ∧ n.tdiv g = redN n d ∧ (d : Int).tdiv g = (redD n d : Int) ∧ 1 ≤ redD n d ∧ redD n d ≤ d ∧ (redN n d).natAbs ≤ n.natAbs ∧ Nat.gcd (redN n d).natAbs (redD n d) = 1 := by
  obtain ⟨g, hg⟩ : ∃ g, g = Nat.gcd n.natAbs d := ⟨_, rfl⟩
  have g1 : 1 ≤ g := by rw [hg]; exact Nat.gcd_pos_of_pos_right _ hd
  have h1 : (g : Int) ∣ n := by rw [hg]; exact gcd_dvd_int n d
  have h2 : g ∣ d := by rw [hg]; exact Nat.gcd_dvd_right _ _
  have e1 : n = redN n d * g := by unfold redN; rw [← hg]; exact (Int.ediv_mul_cancel h1).symm
  have e2 : d = redD n d * g := by unfold redD; rw [← hg]; exact (Nat.div_mul_cancel h2).symm
  have hD : 1 ≤ redD n d := by
    rcases Nat.eq_zero_or_pos (redD n d) with h | h
    · rw [h] at e2; omega
    · exact h
  refine ⟨g, hg, g1, e1, e2, ?_, ?_, hD, ?_, ?_, ?_⟩
  · unfold redN; rw [← hg]; exact Int.tdiv_eq_ediv_of_dvd h1
  · rw [show ((redD n d : Nat) : Int) = (d : Int) / (g : Int) by unfold redD; rw [← hg]; rfl]
    exact Int.tdiv_eq_ediv_of_nonneg (by omega)
  · have := Nat.le_mul_of_pos_right (redD n d) g1; omega
  · have h3 : n.natAbs = (redN n d).natAbs * g := by conv => lhs; rw [e1]
                                                     rw [Int.natAbs_mul, Int.natAbs_natCast]
    have := Nat.le_mul_of_pos_right (redN n d).natAbs g1; omega
  · have h3 : n.natAbs = (redN n d).natAbs * g := by conv => lhs; rw [e1]
                                                     rw [Int.natAbs_mul, Int.natAbs_natCast]
    have h4 : Nat.gcd ((redN n d).natAbs * g) (redD n d * g) = g := by rw [← h3, ← e2, ← hg]
    rw [Nat.gcd_mul_right] at h4
    exact Nat.eq_of_mul_eq_mul_right g1 (by rw [h4, Nat.one_mul])

theorem Blk.set_ {w : World} {g : Nat} {t : TypeId} {cs : Array Value} (h : Blk w g t cs) (i : Nat) (u : Value) : Blk (w.setCell ⟨g, i, none⟩ u) g t (cs.setIfInBounds i u) := by
  unfold Blk at h ⊢
  simp [World.setCell, Array.getElem?_modify, h]

/-- a fraction and an error -/
def GivesF (n : Int) (d : Nat) (w : World) (e : Ending) (w' : World) : Prop := e = .returned (.tuple #[fr n d, .int .i64 0]) ∧ Below w.heap.size w w'

set_option maxRecDepth 100000 in
set_option maxHeartbeats 1000000 in
theorem fnew_any (n : Int) (d : Nat) (n1 : -1099511627776 ≤ n) (n2 : n ≤ 1099511627776) (d1 : 1 ≤ d) (d2 : d ≤ 1099511627776) (w : World) :
    Calls Try.prog 14 #[.int .i64 n, .int .i64 (d : Int)] w (GivesF (redN n d) (redD n d) w) := by
  obtain ⟨g, hg, g1, e1, e2, t1, t2, D1, D2, N1, _⟩ := red_facts n d d1
  obtain ⟨m, hm⟩ : ∃ m, m = n.natAbs := ⟨_, rfl⟩
  have HA := fun W => Lib.hid (fabs_any n m hm.symm (by omega) (by omega) W)
  have HGc := fun W => Lib.hid (gcd_any m d (by omega) (by omega) W)
  rw [hm, ← hg] at HGc
  rw [← hm] at HGc N1
  have m2 : m ≤ 1099511627776 := by omega
  obtain ⟨k, hk⟩ : ∃ k, k = (redN n d).natAbs := ⟨_, rfl⟩
  have k2 : k ≤ 1099511627776 := by omega
  have hkb : -1099511627776 ≤ redN n d ∧ redN n d ≤ 1099511627776 := by omega
  have HA2 := fun W => Lib.hid (fabs_any (redN n d) k hk.symm (by omega) (by omega) W)
  have hb0 : ((d : Int) == 0) = false := by rw [beq_eq_false_iff_ne]; omega
  have hb1 : (n == -9223372036854775808) = false := by rw [beq_eq_false_iff_ne]; omega
  have hb2 : ((d : Int) == -9223372036854775808) = false := by rw [beq_eq_false_iff_ne]; omega
  have hbg : ((g : Int) == 0) = false := by rw [beq_eq_false_iff_ne]; omega
  have hq1 : decide (4611686018427387904 < (k : Int)) = false := by simp; omega
  have HBl : Hid (Blk (w.alloc (.cells #[.int .i64 0, .int .i64 0] 28)) w.heap.size 28 #[.int .i64 0, .int .i64 0]) := Lib.hid (Blk.new w 28 _)
  have HB0 : Hid (Below w.heap.size w (w.alloc (.cells #[.int .i64 0, .int .i64 0] 28))) := Lib.hid ((Below.refl _ w).alloc (Nat.le_refl _) _)
  have HT1 := Lib.hid t1
  have HT2 := Lib.hid t2
  obtain ⟨kb1, kb2⟩ := hkb
  generalize redN n d = P at *
  generalize redD n d = Q at *
  clear hm hg e1 e2 hk t1 t2
  go_enter Try.func14, Try.ntmps14
  go_wp2_with fail
  refine (HA _).out.mono ?_
  rintro e w' ⟨rfl, hw⟩
  obtain rfl := hw.symm
  clear hw
  go_wp2_with fail
  refine (HGc _).out.mono ?_
  rintro e w1 ⟨rfl, m1, hw1⟩
  have HB1 : Hid (Below w.heap.size w w1) := Lib.hid (by rw [hw1]; exact below_drewN HB0.out _)
  have HBl1 : Hid (Blk w1 w.heap.size 28 #[.int .i64 0, .int .i64 0]) := Lib.hid (by rw [hw1]; exact HBl.out)
  clear hw1
  go_wp2_with fail
  have t1 := HT1.out
  have t2 := HT2.out
  have wr1 : IntKind.i64.wrap P = P := IntWalk.i64_in _ (by omega)
  have wr2 : IntKind.i64.wrap (Q : Int) = (Q : Int) := IntWalk.i64_in _ (by omega)
  go_quiet (fail)
  clear t1 t2 wr1 wr2
  have HB2 : Hid (Below w.heap.size w (w1.drewN nq)) := Lib.hid (below_drewN HB1.out _)
  have HBl2 : Hid (Blk (w1.drewN nq) w.heap.size 28 #[.int .i64 0, .int .i64 0]) := Lib.hid HBl1.out
  generalize w1.drewN nq = w2 at *
  go_wp2_with fail
  refine (HA2 _).out.mono ?_
  rintro e w' ⟨rfl, hw⟩
  obtain rfl := hw.symm
  clear hw
  have hq2 : decide (4611686018427387904 < (Q : Int)) = false := by simp; omega
  have c0 := HBl2.out.cell 0
  have c1 := HBl2.out.cell 1
  have f0 := HBl2.out.frozen 0
  have f1 := HBl2.out.frozen 1
  go_wp2_with fail
  obtain ⟨w9, hw9⟩ : ∃ w9, w9 = (w2.setCell ⟨w.heap.size, 0, none⟩ (.int .i64 P)).setCell ⟨w.heap.size, 1, none⟩ (.int .i64 (Q : Int)) := ⟨_, rfl⟩
  have hb9 : Blk w9 w.heap.size 28 #[.int .i64 P, .int .i64 (Q : Int)] := by rw [hw9]; exact (HBl2.out.set_ 0 _).set_ 1 _
  have HB9 : Hid (Below w.heap.size w w9) := Lib.hid (by rw [hw9]; exact (HB2.out.setCell (Nat.le_refl _) _).setCell (Nat.le_refl _) _)
  have d0 := hb9.cell 0
  have d1' := hb9.cell 1
  rw [← hw9]
  clear hw9 hb9 c0 c1 f0 f1
  exact bodyPost_ret (v := .tuple #[fr P Q, .int .i64 0]) (by simp [results, Try.results14, go_sem, d0, d1', fr]) rfl ⟨rfl, HB9.out⟩

end Go.Proofs.Ytjldhikadijbiaa
