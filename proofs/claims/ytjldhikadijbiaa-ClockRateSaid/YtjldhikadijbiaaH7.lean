/- The walk of frac's Add. -/
import Derived.Test.YtjldhikadijbiaaH6
import Derived.Deep.RegionHeld3
namespace Go.Proofs.Ytjldhikadijbiaa
open Go.RowKit

/-- what Add computes: u, v the denominators over their gcd, S the numerator, h what is still common -/
structure Sum (na nb : Int) (da db g u v h k : Nat) (S : Int) : Prop where
  hg : g = Nat.gcd da db
  g1 : 1 ≤ g
  hu : (da : Int).tdiv (g : Int) = (u : Int)
  hv : (db : Int).tdiv (g : Int) = (v : Int)
  u2 : u ≤ 1073741824
  v2 : v ≤ 1073741824
  g2 : g ≤ 1073741824
  hS : S = na * v + nb * u
  hh : h = Nat.gcd (S.natAbs % g) g
  h1 : 1 ≤ h
  hk : (db : Int).tdiv (h : Int) = (k : Int)
  k2 : k ≤ 1073741824
  h2 : h ≤ 1073741824
theorem sum_parts (na nb : Int) (da db : Nat) (a3 : 1 ≤ da) (a4 : da ≤ 1073741824) (b4 : db ≤ 1073741824) :
    ∃ g u v h k S, Sum na nb da db g u v h k S ∧ da = u * g ∧ db = v * g ∧ (u : Nat) = da / g ∧ v = db / g ∧ k = db / h := by
  obtain ⟨g, hg⟩ : ∃ g, g = Nat.gcd da db := ⟨_, rfl⟩
  have g1 : 1 ≤ g := by rw [hg]; exact Nat.gcd_pos_of_pos_left _ a3
  have d1 : g ∣ da := by rw [hg]; exact Nat.gcd_dvd_left _ _
  have d2 : g ∣ db := by rw [hg]; exact Nat.gcd_dvd_right _ _
  have gl : g ≤ da := Nat.le_of_dvd a3 d1
  have h1 : 1 ≤ Nat.gcd ((na * ((db / g : Nat) : Int) + nb * ((da / g : Nat) : Int)).natAbs % g) g := Nat.gcd_pos_of_pos_right _ g1
  have hle : Nat.gcd ((na * ((db / g : Nat) : Int) + nb * ((da / g : Nat) : Int)).natAbs % g) g ≤ g := Nat.gcd_le_right _ g1
  refine ⟨g, da / g, db / g, _, _, _, ⟨hg, g1, rfl, rfl, ?_, ?_, by omega, rfl, rfl, h1, rfl, ?_, by omega⟩, (Nat.div_mul_cancel d1).symm, (Nat.div_mul_cancel d2).symm, rfl, rfl, rfl⟩
  · exact Nat.le_trans (Nat.div_le_self _ _) a4
  · exact Nat.le_trans (Nat.div_le_self _ _) b4
  · exact Nat.le_trans (Nat.div_le_self _ _) b4

set_option maxRecDepth 100000 in
set_option maxHeartbeats 4000000 in
theorem fadd_core (na nb : Int) (da db g u v h k : Nat) (S : Int) (ha : Rd na da) (hb : Rd nb db) (hs : Sum na nb da db g u v h k S) (w : World) :
    Calls Try.prog 15 #[fr na da, fr nb db] w (GivesF (if S = 0 then 0 else if S < 0 then -((S.natAbs / h : Nat) : Int) else ((S.natAbs / h : Nat) : Int)) (if S = 0 then 1 else u * k) w) := by
  have HVa := fun W => Lib.hid (fvalid_any na da ha W)
  have HVb := fun W => Lib.hid (fvalid_any nb db hb W)
  obtain ⟨a1, a2, a3, a4, _⟩ := ha
  obtain ⟨b1, b2, b3, b4, _⟩ := hb
  obtain ⟨hg, g1, hu, hv, u2, v2, g2, hS, hh, h1, hk, k2, h2⟩ := hs
  have HGc := fun W => Lib.hid (gcd_any da db (by omega) (by omega) W)
  rw [← hg] at HGc
  have HSm := fun W => Lib.hid (sum_any na (v : Int) nb (u : Int) (by omega) (by omega) (by omega) (by omega) W)
  rw [← hS] at HSm
  have hSb : S.natAbs ≤ 2 * (1073741824 * 1073741824) := by
    have m1 : (na * (v : Int)).natAbs ≤ 1073741824 * 1073741824 := by rw [Int.natAbs_mul]; exact Nat.mul_le_mul (by omega) (by omega)
    have m2 : (nb * (u : Int)).natAbs ≤ 1073741824 * 1073741824 := by rw [Int.natAbs_mul]; exact Nat.mul_le_mul (by omega) (by omega)
    rw [hS]; omega
  have huk : u * k ≤ 1073741824 * 1073741824 := Nat.mul_le_mul u2 k2
  obtain ⟨s, hs⟩ : ∃ s, s = S.natAbs := ⟨_, rfl⟩
  rw [← hs] at hh hSb ⊢
  have HSm' : ∀ W : World, Hid (Calls Try.prog 39 #[.int .i64 na, .int .i64 (v : Int), .int .i64 nb, .int .i64 (u : Int)] W fun e w' => e = .returned (.agg #[.int .u64 0, .int .u64 (s : Int), .bool (decide (S < 0))]) ∧ Below W.heap.size W w') := fun W => Lib.hid (by have := (HSm W).out; unfold GivesW wd at this; rw [← hs] at this; exact this)
  have hrl : s % g < g := Nat.mod_lt _ g1
  have hsh : s / h ≤ s := Nat.div_le_self _ _
  have HRem := fun W => Lib.hid (rem64_any s g (by omega) g1 (by omega) W)
  have HGu := fun W => Lib.hid (gcdU_any (s % g) g (by omega) (by omega) W)
  rw [← hh] at HGu
  have HDv := fun W => Lib.hid (div64_any s h (by omega) h1 (by omega) W)
  have HMu := fun W => Lib.hid (mul64_any u k (by omega) (by omega) (by omega) W)
  generalize s % g = r at *
  generalize s / h = lo at *
  generalize s % h = re at *
  obtain ⟨M, hM⟩ : ∃ M, M = u * k := ⟨_, rfl⟩
  rw [← hM] at HMu huk ⊢
  have hbg : ((g : Int) == 0) = false := by rw [beq_eq_false_iff_ne]; omega
  have hbh : ((h : Int) == 0) = false := by rw [beq_eq_false_iff_ne]; omega
  have HU := Lib.hid hu
  have HV := Lib.hid hv
  have HK := Lib.hid hk
  have HSs := Lib.hid hs
  clear hg hu hv hS hh hk hM hs
  obtain ⟨w0, hw0⟩ : ∃ w0, w0 = ((w.alloc (.cells #[.int .i64 na, .int .i64 (da : Int)] 28)).alloc (.cells #[.int .i64 nb, .int .i64 (db : Int)] 28)).alloc (.cells #[.int .i64 0, .int .i64 0] 28) := ⟨_, rfl⟩
  have HA : Hid (Blk w0 w.heap.size 28 #[.int .i64 na, .int .i64 (da : Int)]) := Lib.hid (by rw [hw0]; exact ((Blk.new w 28 _).alloc _).alloc _)
  have HBb : Hid (Blk w0 (w.heap.size + 1) 28 #[.int .i64 nb, .int .i64 (db : Int)]) := Lib.hid (by
    rw [hw0]
    have := Blk.new (w.alloc (.cells #[.int .i64 na, .int .i64 (da : Int)] 28)) 28 #[.int .i64 nb, .int .i64 (db : Int)]
    rw [World.size_alloc] at this
    exact this.alloc _)
  have HRs : Hid (Blk w0 (w.heap.size + 2) 28 #[.int .i64 0, .int .i64 0]) := Lib.hid (by
    rw [hw0]
    have := Blk.new ((w.alloc (.cells #[.int .i64 na, .int .i64 (da : Int)] 28)).alloc (.cells #[.int .i64 nb, .int .i64 (db : Int)] 28)) 28 #[.int .i64 0, .int .i64 0]
    rw [World.size_alloc, World.size_alloc] at this
    exact this)
  have HB0 : Hid (Below w.heap.size w w0) := Lib.hid (by rw [hw0]; exact (((Below.refl _ w).alloc (Nat.le_refl _) _).alloc (by simp) _).alloc (by simp; omega) _)
  have HW0 := Lib.hid hw0
  clear hw0
  obtain ⟨PN, hPN⟩ : ∃ PN, PN = (if S = 0 then 0 else if S < 0 then -(lo : Int) else (lo : Int)) := ⟨_, rfl⟩
  obtain ⟨PD, hPD⟩ : ∃ PD, PD = (if S = 0 then 1 else M) := ⟨_, rfl⟩
  rw [← hPN, ← hPD]
  have HPN := Lib.hid hPN
  have HPD := Lib.hid hPD
  clear hPN hPD
  unfold fr at HVa HVb ⊢
  go_enter Try.func15, Try.ntmps15
  go_wp2_with fail
  rw [← HW0.out]
  have c0 := HA.out.cell 0
  have c1 := HA.out.cell 1
  go_wp2_with fail
  refine (HVa _).out.mono ?_
  rintro e w1 ⟨rfl, hb1⟩
  have HA1 := Lib.hid (HA.out.later hb1)
  have HBb1 := Lib.hid (HBb.out.later hb1)
  have HR1 := Lib.hid (HRs.out.later hb1)
  have HB1 := Lib.hid (HB0.out.trans (hb1.mono HB0.out.size))
  clear hb1 c0 c1 HA HBb HB0 HW0 HRs
  have c0 := HBb1.out.cell 0
  have c1 := HBb1.out.cell 1
  go_wp2_with fail
  refine (HVb _).out.mono ?_
  rintro e w2 ⟨rfl, hb2⟩
  have HA2 := Lib.hid (HA1.out.later hb2)
  have HBb2 := Lib.hid (HBb1.out.later hb2)
  have HR2 := Lib.hid (HR1.out.later hb2)
  have HB2 := Lib.hid (HB1.out.trans (hb2.mono HB1.out.size))
  clear hb2 c0 c1 HA1 HBb1 HB1 HR1
  have c0 := HA2.out.cell 0
  have c1 := HA2.out.cell 1
  have d0 := HBb2.out.cell 0
  have d1 := HBb2.out.cell 1
  go_wp2_with fail
  refine (HGc _).out.mono ?_
  rintro e w' ⟨rfl, m, hw'⟩
  have c0' : w'.cell? ⟨w.heap.size, 0, none⟩ = some (.int .i64 na) := by rw [hw']; exact c0
  have c1' : w'.cell? ⟨w.heap.size, 1, none⟩ = some (.int .i64 (da : Int)) := by rw [hw']; exact c1
  have d0' : w'.cell? ⟨w.heap.size + 1, 0, none⟩ = some (.int .i64 nb) := by rw [hw']; exact d0
  have d1' : w'.cell? ⟨w.heap.size + 1, 1, none⟩ = some (.int .i64 (db : Int)) := by rw [hw']; exact d1
  have HA3 : Hid (Blk w' w.heap.size 28 #[.int .i64 na, .int .i64 (da : Int)]) := Lib.hid (by rw [hw']; exact HA2.out)
  have HBb3 : Hid (Blk w' (w.heap.size + 1) 28 #[.int .i64 nb, .int .i64 (db : Int)]) := Lib.hid (by rw [hw']; exact HBb2.out)
  have HR3 : Hid (Blk w' (w.heap.size + 2) 28 #[.int .i64 0, .int .i64 0]) := Lib.hid (by rw [hw']; exact HR2.out)
  have HB3 : Hid (Below w.heap.size w w') := Lib.hid (by rw [hw']; exact below_drewN HB2.out _)
  clear hw' c0 c1 d0 d1 HA2 HBb2 HR2 HB2
  go_upto_region 4 with fail
  go_cut [7] (fun v7 W => ∃ g7, v7 = .pointer (some ⟨g7, 0, none⟩) ∧ Blk W g7 60 #[.int .u64 0, .int .u64 (s : Int), .bool (decide (S < 0))] ∧ Blk W w.heap.size 28 #[.int .i64 na, .int .i64 (da : Int)] ∧ Blk W (w.heap.size + 1) 28 #[.int .i64 nb, .int .i64 (db : Int)] ∧ Blk W (w.heap.size + 2) 28 #[.int .i64 0, .int .i64 0] ∧ Below w.heap.size w W)
  case first =>
    have hu := HU.out
    have hv := HV.out
    have hgn : ¬ g = 0 := by omega
    have hz' : w.heap.size + 2 < w'.heap.size := HR3.out.lt
    have wu : IntKind.i64.wrap (u : Int) = (u : Int) := IntWalk.i64_in _ (by omega)
    have wv : IntKind.i64.wrap (v : Int) = (v : Int) := IntWalk.i64_in _ (by omega)
    go_region_held3 (fun W => W.cell? ⟨w.heap.size, 0, none⟩ = some (.int .i64 na) ∧ W.cell? ⟨w.heap.size, 1, none⟩ = some (.int .i64 (da : Int)) ∧ W.cell? ⟨w.heap.size + 1, 0, none⟩ = some (.int .i64 nb) ∧ W.cell? ⟨w.heap.size + 1, 1, none⟩ = some (.int .i64 (db : Int)))
      (first
        | go_keep
        | (go_split_ands
           refine ⟨?_, ?_, ?_, ?_⟩
           all_goals (rw [World.cell?_setCell_other _ _ _ _ (by intro e; injection e; omega), World.cell?_setCell_other _ _ _ _ (by intro e; injection e; omega), World.cell?_setCell_other _ _ _ _ (by intro e; injection e; omega)]; assumption))
        | (go_split_ands
           refine ⟨?_, ?_, ?_, ?_⟩
           · (rw [World.cell?_alloc_lt _ _ _ (by simp; omega), hb3.cell (p := ⟨w.heap.size, 0, none⟩) (by simp; omega)]; exact c0')
           · (rw [World.cell?_alloc_lt _ _ _ (by simp; omega), hb3.cell (p := ⟨w.heap.size, 1, none⟩) (by simp; omega)]; exact c1')
           · (rw [World.cell?_alloc_lt _ _ _ (by simp; omega), hb3.cell (p := ⟨w.heap.size + 1, 0, none⟩) (by simp; omega)]; exact d0')
           · (rw [World.cell?_alloc_lt _ _ _ (by simp; omega), hb3.cell (p := ⟨w.heap.size + 1, 1, none⟩) (by simp; omega)]; exact d1'))
        | (go_split_ands
           refine ⟨?_, ?_, ?_, ?_⟩
           · (rw [hb3.cell (p := ⟨w.heap.size, 0, none⟩) (by simp; omega)]; assumption)
           · (rw [hb3.cell (p := ⟨w.heap.size, 1, none⟩) (by simp; omega)]; assumption)
           · (rw [hb3.cell (p := ⟨w.heap.size + 1, 0, none⟩) (by simp; omega)]; assumption)
           · (rw [hb3.cell (p := ⟨w.heap.size + 1, 1, none⟩) (by simp; omega)]; assumption)))
      ((go_at_call 39; refine (HSm' _).out.mono ?_; rintro e w3 ⟨rfl, hb3⟩; have hz3 : w'.heap.size ≤ w3.heap.size := (by have := hb3.size; simp at this; omega); (try (have q := Blk.later (w := (w'.alloc (.cells #[.int .u64 0, .int .u64 0, .bool false] 60)).drew) (g := w'.heap.size) (Blk.new w' 60 #[.int .u64 0, .int .u64 0, .bool false]) hb3; have q0 := q.cell 0; have q1 := q.cell 1; have q2 := q.cell 2; have q3 := q.frozen 0; have q4 := q.frozen 1; have q5 := q.frozen 2))))
    · have F1 := Lib.hid (Blk.new w3 60 #[.int .u64 0, .int .u64 (s : Int), .bool (decide (S < 0))])
      have F2 := Lib.hid ((Blk.later (w := w'.drew) HA3.out hb3).alloc (.cells #[.int .u64 0, .int .u64 (s : Int), .bool (decide (S < 0))] 60))
      have F3 := Lib.hid ((Blk.later (w := w'.drew) HBb3.out hb3).alloc (.cells #[.int .u64 0, .int .u64 (s : Int), .bool (decide (S < 0))] 60))
      have F4 := Lib.hid ((Blk.later (w := w'.drew) HR3.out hb3).alloc (.cells #[.int .u64 0, .int .u64 (s : Int), .bool (decide (S < 0))] 60))
      have hb3' := hb3.mono (B' := w.heap.size) (by simp; omega)
      have F5 := Lib.hid ((HB3.out.drew.trans hb3').alloc (by omega) (.cells #[.int .u64 0, .int .u64 (s : Int), .bool (decide (S < 0))] 60))
      clear hb3' hb3
      go_wp2_with fail
      go_meet
      exact ⟨_, rfl, F1.out, F2.out, F3.out, F4.out, F5.out⟩
    · have hne0 : ∀ j, (w.heap.size ≠ (⟨w'.heap.size, j, none⟩ : Addr).block) := fun j => by simp; omega
      have hne1 : ∀ j, (w.heap.size + 1 ≠ (⟨w'.heap.size, j, none⟩ : Addr).block) := fun j => by simp; omega
      have hne2 : ∀ j, (w.heap.size + 2 ≠ (⟨w'.heap.size, j, none⟩ : Addr).block) := fun j => by simp; omega
      have hle : ∀ j, (w.heap.size ≤ (⟨w'.heap.size, j, none⟩ : Addr).block) := fun j => by simp; omega
      have F1 := Lib.hid (((q.set_ 0 (.int .u64 0)).set_ 1 (.int .u64 (s : Int))).set_ 2 (.bool (decide (S < 0))))
      have F2 := Lib.hid ((((Blk.later (w := (w'.alloc (.cells #[.int .u64 0, .int .u64 0, .bool false] 60)).drew) (HA3.out.alloc (.cells #[.int .u64 0, .int .u64 0, .bool false] 60)) hb3).far (hne0 0) (.int .u64 0)).far (hne0 1) (.int .u64 (s : Int))).far (hne0 2) (.bool (decide (S < 0))))
      have F3 := Lib.hid ((((Blk.later (w := (w'.alloc (.cells #[.int .u64 0, .int .u64 0, .bool false] 60)).drew) (HBb3.out.alloc (.cells #[.int .u64 0, .int .u64 0, .bool false] 60)) hb3).far (hne1 0) (.int .u64 0)).far (hne1 1) (.int .u64 (s : Int))).far (hne1 2) (.bool (decide (S < 0))))
      have F4 := Lib.hid ((((Blk.later (w := (w'.alloc (.cells #[.int .u64 0, .int .u64 0, .bool false] 60)).drew) (HR3.out.alloc (.cells #[.int .u64 0, .int .u64 0, .bool false] 60)) hb3).far (hne2 0) (.int .u64 0)).far (hne2 1) (.int .u64 (s : Int))).far (hne2 2) (.bool (decide (S < 0))))
      have hb3' := hb3.mono (B' := w.heap.size) (by simp; omega)
      have F5 := Lib.hid ((((((HB3.out.alloc HB3.out.size (.cells #[.int .u64 0, .int .u64 0, .bool false] 60)).drew).trans hb3').setCell (hle 0) (.int .u64 0)).setCell (hle 1) (.int .u64 (s : Int))).setCell (hle 2) (.bool (decide (S < 0))))
      clear q q0 q1 q2 q3 q4 q5 hb3' hb3
      go_wp2_with fail
      go_meet
      exact ⟨_, rfl, F1.out, F2.out, F3.out, F4.out, F5.out⟩
  case rest =>
    obtain ⟨g7, rfl, hQ, hA4, hB4, hR4, hBel⟩ := hcut
    have HQ := Lib.hid hQ
    have HA4 := Lib.hid hA4
    have HB4 := Lib.hid hB4
    have HR4 := Lib.hid hR4
    have HBel := Lib.hid hBel
    have q0 := hQ.cell 0
    have q1 := hQ.cell 1
    have q2 := hQ.cell 2
    clear hQ hA4 hB4 hR4 hBel
    have wn1 : (w.heap.size : Nat) ≤ w.heap.size + 1 + 1 := by omega
    by_cases hS0 : S = 0
    · have es : ((s : Int) == 0) = true := by rw [beq_iff_eq]; have := HSs.out; omega
      have es2 : decide (S < 0) = false := by simp; omega
      have hp1 : PN = 0 := by rw [HPN.out, if_pos hS0]
      have hp2 : PD = 1 := by rw [HPD.out, if_pos hS0]
      have HP1 := Lib.hid hp1
      have HP2 := Lib.hid hp2
      clear hp1 hp2 hS0
      rw [es2] at q2
      have c0 : wc.cell? ⟨w.heap.size + 1 + 1, 0, none⟩ = some (.int .i64 0) := HR4.out.cell 0
      have c1 : wc.cell? ⟨w.heap.size + 1 + 1, 1, none⟩ = some (.int .i64 0) := HR4.out.cell 1
      have f0 : wc.frozen? ⟨w.heap.size + 1 + 1, 0, none⟩ = false := HR4.out.frozen 0
      have f1 : wc.frozen? ⟨w.heap.size + 1 + 1, 1, none⟩ = false := HR4.out.frozen 1
      go_wp2_with fail
      obtain ⟨w9, hw9⟩ : ∃ w9, w9 = (wc.setCell ⟨w.heap.size + 1 + 1, 0, none⟩ (.int .i64 0)).setCell ⟨w.heap.size + 1 + 1, 1, none⟩ (.int .i64 1) := ⟨_, rfl⟩
      have hb9 : Blk w9 (w.heap.size + 1 + 1) 28 #[.int .i64 0, .int .i64 1] := by rw [hw9]; exact ((HR4.out.set_ 0 _).set_ 1 _)
      have HB9 : Hid (Below w.heap.size w w9) := Lib.hid (by rw [hw9]; exact (HBel.out.setCell (by simp; omega) _).setCell (by simp; omega) _)
      have d0 := hb9.cell 0
      have d1' := hb9.cell 1
      rw [← hw9]
      clear hw9 hb9 c0 c1 f0 f1
      exact bodyPost_ret (v := .tuple #[fr 0 1, .int .i64 0]) (by simp [results, Try.results15, go_sem, d0, d1', fr]) rfl ⟨by rw [HP1.out, HP2.out], HB9.out⟩
    · have es : ((s : Int) == 0) = false := by rw [beq_eq_false_iff_ne]; have := HSs.out; omega
      have HS0 := Lib.hid hS0
      clear hS0
      go_wp2_with fail
      refine (HRem _).out.mono ?_
      rintro e w4 ⟨rfl, m1, hw4⟩
      have q0' : w4.cell? ⟨g7, 0, none⟩ = some (.int .u64 0) := by rw [hw4]; exact q0
      have q1' : w4.cell? ⟨g7, 1, none⟩ = some (.int .u64 (s : Int)) := by rw [hw4]; exact q1
      have HQ1 : Hid (Blk w4 g7 60 #[.int .u64 0, .int .u64 (s : Int), .bool (decide (S < 0))]) := Lib.hid (by rw [hw4]; exact HQ.out)
      have HA5 : Hid (Blk w4 w.heap.size 28 #[.int .i64 na, .int .i64 (da : Int)]) := Lib.hid (by rw [hw4]; exact HA4.out)
      have HB5 : Hid (Blk w4 (w.heap.size + 1) 28 #[.int .i64 nb, .int .i64 (db : Int)]) := Lib.hid (by rw [hw4]; exact HB4.out)
      have HR5 : Hid (Blk w4 (w.heap.size + 2) 28 #[.int .i64 0, .int .i64 0]) := Lib.hid (by rw [hw4]; exact HR4.out)
      have HBl5 : Hid (Below w.heap.size w w4) := Lib.hid (by rw [hw4]; exact below_drewN HBel.out _)
      clear hw4 q0 q1 q2 HQ HA4 HB4 HR4 HBel
      go_wp2_with fail
      refine (HGu _).out.mono ?_
      rintro e w5 ⟨rfl, m2, hw5⟩
      have q0 : w5.cell? ⟨g7, 0, none⟩ = some (.int .u64 0) := by rw [hw5]; exact q0'
      have q1 : w5.cell? ⟨g7, 1, none⟩ = some (.int .u64 (s : Int)) := by rw [hw5]; exact q1'
      have HQ2 : Hid (Blk w5 g7 60 #[.int .u64 0, .int .u64 (s : Int), .bool (decide (S < 0))]) := Lib.hid (by rw [hw5]; exact HQ1.out)
      have HA6 : Hid (Blk w5 w.heap.size 28 #[.int .i64 na, .int .i64 (da : Int)]) := Lib.hid (by rw [hw5]; exact HA5.out)
      have HB6 : Hid (Blk w5 (w.heap.size + 1) 28 #[.int .i64 nb, .int .i64 (db : Int)]) := Lib.hid (by rw [hw5]; exact HB5.out)
      have HR6 : Hid (Blk w5 (w.heap.size + 2) 28 #[.int .i64 0, .int .i64 0]) := Lib.hid (by rw [hw5]; exact HR5.out)
      have HBl6 : Hid (Below w.heap.size w w5) := Lib.hid (by rw [hw5]; exact below_drewN HBl5.out _)
      clear hw5 q0' q1' HQ1 HA5 HB5 HR5 HBl5
      have hhn : ¬ h = 0 := by omega
      have z1 : (0 : Int).tdiv (h : Int) = 0 := Int.zero_tdiv _
      have z2 : (0 : Int).tmod (h : Int) = 0 := Int.zero_tmod _
      have hu := HU.out
      have hk := HK.out
      have hgn : ¬ g = 0 := by omega
      have wu : IntKind.i64.wrap (u : Int) = (u : Int) := IntWalk.i64_in _ (by omega)
      have wk : IntKind.i64.wrap (k : Int) = (k : Int) := IntWalk.i64_in _ (by omega)
      have wu' : IntKind.u64.wrap (u : Int) = (u : Int) := IntWalk.u64_in _ (by omega)
      have wk' : IntKind.u64.wrap (k : Int) = (k : Int) := IntWalk.u64_in _ (by omega)
      have wd' : IntKind.u64.wrap (db : Int) = (db : Int) := IntWalk.u64_in _ (by omega)
      go_upto_region 11 with fail
      go_quiet ((go_at_call 42; exact Calls.quiet_of (HDv _).out))
      have HQ3 := Lib.hid (HQ2.out.drewN nq)
      have HA7 := Lib.hid (HA6.out.drewN nq)
      have HB7 := Lib.hid (HB6.out.drewN nq)
      have HR7 := Lib.hid (HR6.out.drewN nq)
      have HBl7 := Lib.hid (below_drewN HBl6.out nq)
      clear q0 q1 HQ2 HA6 HB6 HR6 HBl6
      generalize w5.drewN nq = w6 at *
      have c1 := HA7.out.cell 1
      have d1 := HB7.out.cell 1
      go_upto_region 12 with fail
      go_quiet ((go_at_call 43; exact Calls.quiet_of_same (HMu _).out))
      have HQ4 := Lib.hid (HQ3.out.drewN nq)
      have HR8 := Lib.hid (HR7.out.drewN nq)
      have HBl8 := Lib.hid (below_drewN HBl7.out nq)
      clear c1 d1 HQ3 HR7 HBl7 HA7 HB7
      generalize w6.drewN nq = w7 at *
      have hpd : PD = M := by rw [HPD.out, if_neg HS0.out]
      have HPD2 := Lib.hid hpd
      clear hpd
      have c0 : w7.cell? ⟨w.heap.size + 1 + 1, 0, none⟩ = some (.int .i64 0) := HR8.out.cell 0
      have c1 : w7.cell? ⟨w.heap.size + 1 + 1, 1, none⟩ = some (.int .i64 0) := HR8.out.cell 1
      have f0 : w7.frozen? ⟨w.heap.size + 1 + 1, 0, none⟩ = false := HR8.out.frozen 0
      have f1 : w7.frozen? ⟨w.heap.size + 1 + 1, 1, none⟩ = false := HR8.out.frozen 1
      have wl : IntKind.i64.wrap (lo : Int) = (lo : Int) := IntWalk.i64_in _ (by omega)
      have wln : IntKind.i64.wrap (-(lo : Int)) = -(lo : Int) := IntWalk.i64_in _ (by omega)
      have wM : IntKind.i64.wrap (M : Int) = (M : Int) := IntWalk.i64_in _ (by omega)
      have t1 : decide ((4611686018427387904 : Int) < (lo : Int)) = false := by simp; omega
      have t2 : decide ((4611686018427387904 : Int) < (M : Int)) = false := by simp; omega
      by_cases hneg : S < 0
      · have hpn : PN = -(lo : Int) := by rw [HPN.out, if_neg HS0.out, if_pos hneg]
        have HPN2 := Lib.hid hpn
        have q2 : w7.cell? ⟨g7, 2, none⟩ = some (.bool true) := by have := HQ4.out.cell 2; rw [decide_eq_true hneg] at this; exact this
        clear hpn hneg
        go_wp2_with fail
        obtain ⟨w9, hw9⟩ : ∃ w9, w9 = (w7.setCell ⟨w.heap.size + 1 + 1, 0, none⟩ (.int .i64 (-(lo : Int)))).setCell ⟨w.heap.size + 1 + 1, 1, none⟩ (.int .i64 (M : Int)) := ⟨_, rfl⟩
        have hb9 : Blk w9 (w.heap.size + 1 + 1) 28 #[.int .i64 (-(lo : Int)), .int .i64 (M : Int)] := by rw [hw9]; exact ((HR8.out.set_ 0 _).set_ 1 _)
        have HB9 : Hid (Below w.heap.size w w9) := Lib.hid (by rw [hw9]; exact (HBl8.out.setCell (by simp; omega) _).setCell (by simp; omega) _)
        have d0 := hb9.cell 0
        have d1' := hb9.cell 1
        rw [← hw9]
        clear hw9 hb9 c0 c1 f0 f1
        exact bodyPost_ret (v := .tuple #[fr (-(lo : Int)) M, .int .i64 0]) (by simp [results, Try.results15, go_sem, d0, d1', fr]) rfl ⟨by rw [HPN2.out, HPD2.out], HB9.out⟩
      · have hpn : PN = (lo : Int) := by rw [HPN.out, if_neg HS0.out, if_neg hneg]
        have HPN2 := Lib.hid hpn
        have q2 : w7.cell? ⟨g7, 2, none⟩ = some (.bool false) := by have := HQ4.out.cell 2; rw [decide_eq_false hneg] at this; exact this
        clear hpn hneg
        go_wp2_with fail
        obtain ⟨w9, hw9⟩ : ∃ w9, w9 = (w7.setCell ⟨w.heap.size + 1 + 1, 0, none⟩ (.int .i64 (lo : Int))).setCell ⟨w.heap.size + 1 + 1, 1, none⟩ (.int .i64 (M : Int)) := ⟨_, rfl⟩
        have hb9 : Blk w9 (w.heap.size + 1 + 1) 28 #[.int .i64 (lo : Int), .int .i64 (M : Int)] := by rw [hw9]; exact ((HR8.out.set_ 0 _).set_ 1 _)
        have HB9 : Hid (Below w.heap.size w w9) := Lib.hid (by rw [hw9]; exact (HBl8.out.setCell (by simp; omega) _).setCell (by simp; omega) _)
        have d0 := hb9.cell 0
        have d1' := hb9.cell 1
        rw [← hw9]
        clear hw9 hb9 c0 c1 f0 f1
        exact bodyPost_ret (v := .tuple #[fr (lo : Int) M, .int .i64 0]) (by simp [results, Try.results15, go_sem, d0, d1', fr]) rfl ⟨by rw [HPN2.out, HPD2.out], HB9.out⟩

end Go.Proofs.Ytjldhikadijbiaa
