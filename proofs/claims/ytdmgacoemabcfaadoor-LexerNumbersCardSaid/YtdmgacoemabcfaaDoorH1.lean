/- The walks of frac's gcd, abs, New, Valid at the Door seat (printed by door_h.py from the clock seat's H1, H2, H3). -/
import Derived.Test.YtdmgacoemabcfaaDoorA4
import Derived.Deep.DeepCutAuto
import Derived.Deep.CutBlock
namespace Go.Proofs.YtdmgacoemabcfaaDoor
open Go.RowKit

def Told (b : Bool) (w : World) (e : Ending) (w' : World) : Prop := e = .returned (.bool b) ∧ Below w.heap.size w w'
theorem below_drewN {B : Nat} {a w : World} (h : Below B a w) (n : Nat) : Below B a (w.drewN n) := ⟨h.os, h.tape, h.output, h.size, h.block⟩
theorem Blk.later {w w' : World} {g : Nat} {t : TypeId} {cs : Array Value} (h : Blk w g t cs) (hb : Below w.heap.size w w') : Blk w' g t cs := (hb.block g h.lt).trans h

theorem gcd_next (x y : Nat) : Nat.gcd y (x % y) = Nat.gcd x y := by
  rw [Nat.gcd_comm x y, Nat.gcd_rec y x, Nat.gcd_comm]

set_option maxHeartbeats 1000000 in
theorem gcd_any (a b : Nat) (ha : a ≤ 4611686018427387904) (hb : b ≤ 4611686018427387904) (w : World) :
    Calls Tryd.prog 9 #[.int .i64 (a : Int), .int .i64 (b : Int)] w fun e w' => e = .returned (.int .i64 ((Nat.gcd a b : Nat) : Int)) ∧ ∃ m, w' = w.drewN m := by
  obtain ⟨G, hG⟩ : ∃ G, G = Nat.gcd a b := ⟨_, rfl⟩
  rw [← hG]
  have HG := Lib.hid hG
  clear hG
  go_enter Tryd.func9, Tryd.ntmps9
  go_wp2_with fail
  go_loopw [0, 1] (fun u v wr => ∃ x y m : Nat, u = .int .i64 (x : Int) ∧ v = .int .i64 (y : Int) ∧ x ≤ 4611686018427387904 ∧ y ≤ 4611686018427387904 ∧ Hid (G = Nat.gcd x y) ∧ wr = w.drewN m) (fun _ v _ => (intOf v).toNat)
  case atStart => exact ⟨a, b, 0, rfl, rfl, ha, hb, HG, rfl⟩
  case round =>
    obtain ⟨x, y, m, rfl, rfl, hx, hy, HX, rfl⟩ := hrel
    by_cases h0 : y = 0
    · subst h0
      have hb0 : (((0 : Nat) : Int) != 0) = false := rfl
      have HR : Hid (G = x) := Lib.hid (by rw [HX.out, Nat.gcd_zero_right])
      go_wp2_with fail
      go_ret
      exact ⟨ret_int (by rw [HR.out]), m, rfl⟩
    · have hb0 : ((y : Int) != 0) = true := by rw [bne_iff_ne]; omega
      have hb1 : ((y : Int) == 0) = false := by rw [beq_eq_false_iff_ne]; omega
      have HR : Hid (G = Nat.gcd y (x % y)) := Lib.hid (by rw [HX.out, gcd_next x y])
      have hlt : x % y < y := Nat.mod_lt _ (by omega)
      obtain ⟨r, hr⟩ : ∃ r, r = x % y := ⟨_, rfl⟩
      rw [← hr] at HR hlt
      have hmod : Int.tmod (x : Int) (y : Int) = (r : Int) := by rw [hr]; rfl
      have hwr : IntKind.i64.wrap (r : Int) = (r : Int) := IntWalk.i64_in _ (by omega)
      clear hr
      obtain ⟨w3, hw3⟩ : ∃ w3, w3 = w.drewN m := ⟨_, rfl⟩
      rw [← hw3]
      have HW3 := Lib.hid hw3
      clear hw3
      go_wp2_with fail
      go_quiet (fail)
      clear hmod hwr
      go_wp2_with fail
      go_roundw
      case rel => exact ⟨y, r, m + nq, rfl, rfl, hy, by omega, HR, by rw [HW3.out]; simp⟩
      case measure => simp [intOf]; omega

theorem fabs_any (n : Int) (m : Nat) (hm : n.natAbs = m) (n1 : -9223372036854775807 ≤ n) (n2 : n ≤ 9223372036854775807) (w : World) :
    Calls Tryd.prog 10 #[.int .i64 n] w fun e w' => e = .returned (.int .i64 (m : Int)) ∧ w' = w := by
  by_cases hn : n < 0
  · obtain rfl : n = -(m : Int) := by omega
    clear hm
    go_enter Tryd.func10, Tryd.ntmps10
    go_wp2
    go_ret
    exact ⟨ret_int (by omega), rfl⟩
  · obtain rfl : n = (m : Int) := by omega
    clear hm
    go_enter Tryd.func10, Tryd.ntmps10
    go_wp2
    go_ret
    exact ⟨rfl, rfl⟩


/-- a fraction as a value -/
def fr (n : Int) (d : Nat) : Value := .agg #[.int .i64 n, .int .i64 (d : Int)]
def redN (n : Int) (d : Nat) : Int := n / (Nat.gcd n.natAbs d : Nat)
def redD (n : Int) (d : Nat) : Nat := d / Nat.gcd n.natAbs d

theorem gcd_dvd_int (n : Int) (d : Nat) : ((Nat.gcd n.natAbs d : Nat) : Int) ∣ n := Int.ofNat_dvd_left.2 (Nat.gcd_dvd_left _ _)
theorem red_facts (n : Int) (d : Nat) (hd : 1 ≤ d) : ∃ g : Nat, g = Nat.gcd n.natAbs d ∧ 1 ≤ g ∧ n = redN n d * g ∧ d = redD n d * g ∧ n.tdiv g = redN n d ∧ (d : Int).tdiv g = (redD n d : Int) ∧ 1 ≤ redD n d ∧ redD n d ≤ d ∧ (redN n d).natAbs ≤ n.natAbs ∧ Nat.gcd (redN n d).natAbs (redD n d) = 1 := by
  obtain ⟨g, hg⟩ : ∃ g, g = Nat.gcd n.natAbs d := ⟨_, rfl⟩
  have g1 : 1 ≤ g := by rw [hg]; exact Nat.gcd_pos_of_pos_right _ hd
  have h1 : (g : Int) ∣ n := by rw [hg]; exact gcd_dvd_int n d
  have h2 : g ∣ d := by rw [hg]; exact Nat.gcd_dvd_right _ _
  have e1 : n = redN n d * g := by unfold redN; rw [← hg]; exact (Int.ediv_mul_cancel h1).symm
  have e2 : d = redD n d * g := by unfold redD; rw [← hg]; exact (Nat.div_mul_cancel h2).symm
  have hD : 1 ≤ redD n d := by
    rcases Nat.eq_zero_or_pos (redD n d) with h | h
    · rw [h] at e2; omega
    · exact h
  refine ⟨g, hg, g1, e1, e2, ?_, ?_, hD, ?_, ?_, ?_⟩
  · unfold redN; rw [← hg]; exact Int.tdiv_eq_ediv_of_dvd h1
  · rw [show ((redD n d : Nat) : Int) = (d : Int) / (g : Int) by unfold redD; rw [← hg]; rfl]
    exact Int.tdiv_eq_ediv_of_nonneg (by omega)
  · have := Nat.le_mul_of_pos_right (redD n d) g1; omega
  · have h3 : n.natAbs = (redN n d).natAbs * g := by conv => lhs; rw [e1]
                                                     rw [Int.natAbs_mul, Int.natAbs_natCast]
    have := Nat.le_mul_of_pos_right (redN n d).natAbs g1; omega
  · have h3 : n.natAbs = (redN n d).natAbs * g := by conv => lhs; rw [e1]
                                                     rw [Int.natAbs_mul, Int.natAbs_natCast]
    have h4 : Nat.gcd ((redN n d).natAbs * g) (redD n d * g) = g := by rw [← h3, ← e2, ← hg]
    rw [Nat.gcd_mul_right] at h4
    exact Nat.eq_of_mul_eq_mul_right g1 (by rw [h4, Nat.one_mul])

/-- a fraction and an error -/
def GivesF (n : Int) (d : Nat) (w : World) (e : Ending) (w' : World) : Prop := e = .returned (.tuple #[fr n d, .int .i64 0]) ∧ Below w.heap.size w w'

set_option maxRecDepth 100000 in
set_option maxHeartbeats 1000000 in
theorem fnew_any (n : Int) (d : Nat) (n1 : -1099511627776 ≤ n) (n2 : n ≤ 1099511627776) (d1 : 1 ≤ d) (d2 : d ≤ 1099511627776) (w : World) :
    Calls Tryd.prog 5 #[.int .i64 n, .int .i64 (d : Int)] w (GivesF (redN n d) (redD n d) w) := by
  obtain ⟨g, hg, g1, e1, e2, t1, t2, D1, D2, N1, _⟩ := red_facts n d d1
  obtain ⟨m, hm⟩ : ∃ m, m = n.natAbs := ⟨_, rfl⟩
  have HA := fun W => Lib.hid (fabs_any n m hm.symm (by omega) (by omega) W)
  have HGc := fun W => Lib.hid (gcd_any m d (by omega) (by omega) W)
  rw [hm, ← hg] at HGc
  rw [← hm] at HGc N1
  have m2 : m ≤ 1099511627776 := by omega
  obtain ⟨k, hk⟩ : ∃ k, k = (redN n d).natAbs := ⟨_, rfl⟩
  have k2 : k ≤ 1099511627776 := by omega
  have hkb : -1099511627776 ≤ redN n d ∧ redN n d ≤ 1099511627776 := by omega
  have HA2 := fun W => Lib.hid (fabs_any (redN n d) k hk.symm (by omega) (by omega) W)
  have hb0 : ((d : Int) == 0) = false := by rw [beq_eq_false_iff_ne]; omega
  have hb1 : (n == -9223372036854775808) = false := by rw [beq_eq_false_iff_ne]; omega
  have hb2 : ((d : Int) == -9223372036854775808) = false := by rw [beq_eq_false_iff_ne]; omega
  have hbg : ((g : Int) == 0) = false := by rw [beq_eq_false_iff_ne]; omega
  have hq1 : decide (4611686018427387904 < (k : Int)) = false := by simp; omega
  have HBl : Hid (Blk (w.alloc (.cells #[.int .i64 0, .int .i64 0] 24)) w.heap.size 24 #[.int .i64 0, .int .i64 0]) := Lib.hid (Blk.new w 24 _)
  have HB0 : Hid (Below w.heap.size w (w.alloc (.cells #[.int .i64 0, .int .i64 0] 24))) := Lib.hid ((Below.refl _ w).alloc (Nat.le_refl _) _)
  have HT1 := Lib.hid t1
  have HT2 := Lib.hid t2
  obtain ⟨kb1, kb2⟩ := hkb
  generalize redN n d = P at *
  generalize redD n d = Q at *
  clear hm hg e1 e2 hk t1 t2
  go_enter Tryd.func5, Tryd.ntmps5
  go_wp2_with fail
  refine (HA _).out.mono ?_
  rintro e w' ⟨rfl, hw⟩
  obtain rfl := hw.symm
  clear hw
  go_wp2_with fail
  refine (HGc _).out.mono ?_
  rintro e w1 ⟨rfl, m1, hw1⟩
  have HB1 : Hid (Below w.heap.size w w1) := Lib.hid (by rw [hw1]; exact below_drewN HB0.out _)
  have HBl1 : Hid (Blk w1 w.heap.size 24 #[.int .i64 0, .int .i64 0]) := Lib.hid (by rw [hw1]; exact HBl.out)
  clear hw1
  go_wp2_with fail
  have t1 := HT1.out
  have t2 := HT2.out
  have wr1 : IntKind.i64.wrap P = P := IntWalk.i64_in _ (by omega)
  have wr2 : IntKind.i64.wrap (Q : Int) = (Q : Int) := IntWalk.i64_in _ (by omega)
  go_quiet (fail)
  clear t1 t2 wr1 wr2
  have HB2 : Hid (Below w.heap.size w (w1.drewN nq)) := Lib.hid (below_drewN HB1.out _)
  have HBl2 : Hid (Blk (w1.drewN nq) w.heap.size 24 #[.int .i64 0, .int .i64 0]) := Lib.hid HBl1.out
  generalize w1.drewN nq = w2 at *
  go_wp2_with fail
  refine (HA2 _).out.mono ?_
  rintro e w' ⟨rfl, hw⟩
  obtain rfl := hw.symm
  clear hw
  have hq2 : decide (4611686018427387904 < (Q : Int)) = false := by simp; omega
  have c0 := HBl2.out.cell 0
  have c1 := HBl2.out.cell 1
  have f0 := HBl2.out.frozen 0
  have f1 := HBl2.out.frozen 1
  go_wp2_with fail
  obtain ⟨w9, hw9⟩ : ∃ w9, w9 = (w2.setCell ⟨w.heap.size, 0, none⟩ (.int .i64 P)).setCell ⟨w.heap.size, 1, none⟩ (.int .i64 (Q : Int)) := ⟨_, rfl⟩
  have hb9 : Blk w9 w.heap.size 24 #[.int .i64 P, .int .i64 (Q : Int)] := by rw [hw9]; exact (HBl2.out.set_ 0 _).set_ 1 _
  have HB9 : Hid (Below w.heap.size w w9) := Lib.hid (by rw [hw9]; exact (HB2.out.setCell (Nat.le_refl _) _).setCell (Nat.le_refl _) _)
  have d0 := hb9.cell 0
  have d1' := hb9.cell 1
  rw [← hw9]
  clear hw9 hb9 c0 c1 f0 f1
  exact bodyPost_ret (v := .tuple #[fr P Q, .int .i64 0]) (by simp [results, Tryd.results5, go_sem, d0, d1', fr]) rfl ⟨rfl, HB9.out⟩


/-- a small reduced fraction -/
structure Rd (n : Int) (d : Nat) : Prop where
  n1 : -1073741824 ≤ n
  n2 : n ≤ 1073741824
  d1 : 1 ≤ d
  d2 : d ≤ 1073741824
  red : Nat.gcd n.natAbs d = 1

set_option maxRecDepth 100000 in
set_option maxHeartbeats 1000000 in
theorem fvalid_any (n : Int) (d : Nat) (h : Rd n d) (w : World) : Calls Tryd.prog 11 #[fr n d] w (Told true w) := by
  obtain ⟨n1, n2, d1, d2, hr⟩ := h
  obtain ⟨m, hm⟩ : ∃ m, m = n.natAbs := ⟨_, rfl⟩
  have HA := fun W => Lib.hid (fabs_any n m hm.symm (by omega) (by omega) W)
  have HGc := fun W => Lib.hid (gcd_any m d (by omega) (by omega) W)
  rw [hm, hr] at HGc
  rw [← hm] at HGc
  have hb0 : decide ((d : Int) < 1) = false := by simp; omega
  have hb1 : decide (4611686018427387904 < (d : Int)) = false := by simp; omega
  have hb2 : decide (n < -4611686018427387904) = false := by simp; omega
  have hb3 : decide (4611686018427387904 < n) = false := by simp; omega
  unfold fr
  obtain ⟨wb, hwb⟩ : ∃ wb, wb = w.alloc (.cells #[.int .i64 n, .int .i64 (d : Int)] 24) := ⟨_, rfl⟩
  have hbl : Blk wb w.heap.size 24 #[.int .i64 n, .int .i64 (d : Int)] := by rw [hwb]; exact Blk.new w 24 _
  have HB : Hid (Below w.heap.size w wb) := Lib.hid (by rw [hwb]; exact (Below.refl _ w).alloc (Nat.le_refl _) _)
  have HWB := Lib.hid hwb
  clear hwb hm hr
  go_enter Tryd.func11, Tryd.ntmps11
  go_wp2_with fail
  rw [← HWB.out]
  have c0 := hbl.cell 0
  have c1 := hbl.cell 1
  clear hbl
  go_wp2_with fail
  go_quiet (first | (go_at_call 10; exact Calls.quiet_of_same (HA _).out) | (go_at_call 9; exact Calls.quiet_of (HGc _).out))
  go_wp2_with fail
  go_ret
  exact ⟨rfl, below_drewN HB.out _⟩


end Go.Proofs.YtdmgacoemabcfaaDoor
