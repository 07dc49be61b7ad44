/- What ClockRate's calls hand back, in one statement. -/
import Derived.Test.YtjldhikadijbiaaI1
import Derived.Test.YtjldhikadijbiaaG5
namespace Go.Proofs.Ytjldhikadijbiaa
open Go.RowKit

/-- fractions of one denominator compare as their numerators -/
theorem cross_le (n1 n2 P1 P2 Q d1 d2 : Int) (hQ : 0 < Q) (h1 : 0 ≤ d1) (h2 : 0 ≤ d2) (e1 : n1 * Q = P1 * d1) (e2 : n2 * Q = P2 * d2) (h : P1 ≤ P2) : n1 * d2 ≤ n2 * d1 := by
  refine Int.le_of_mul_le_mul_right (a := Q) ?_ hQ
  have a1 : n1 * d2 * Q = P1 * (d1 * d2) := by rw [Int.mul_right_comm, e1, Int.mul_assoc]
  have a2 : n2 * d1 * Q = P2 * (d1 * d2) := by rw [Int.mul_right_comm, e2, Int.mul_assoc, Int.mul_comm d2 d1]
  rw [a1, a2]
  exact Int.mul_le_mul_of_nonneg_right h (Int.mul_nonneg h1 h2)

theorem new_any (n : Int) (d : Nat) (n1 : -1000000 ≤ n) (n2 : n ≤ 1000000) (d1 : 1 ≤ d) (d2 : d ≤ 1000000) :
    ∃ p q, Rd p q ∧ p * d = n * q ∧ q ≤ d ∧ p.natAbs ≤ n.natAbs ∧ ∀ w, Calls Try.prog 14 #[.int .i64 n, .int .i64 (d : Int)] w (GivesF p q w) := by
  obtain ⟨g, hg, g1, e1, e2, _, _, D1, D2, N1, hr⟩ := red_facts n d d1
  have hn := fun w => fnew_any n d (by omega) (by omega) d1 (by omega) w
  generalize redN n d = p at *
  generalize redD n d = q at *
  refine ⟨p, q, ⟨by omega, by omega, D1, by omega, hr⟩, ?_, D2, N1, hn⟩
  rw [e1, e2, Int.natCast_mul]
  ac_rfl

theorem rate_parts (d R : Int) (D : Nat) (d0 : 0 ≤ d) (d1 : d ≤ 512) (D1 : 1 ≤ D) (D2 : D ≤ 39) (r1 : -4000 ≤ R) (r2 : R ≤ 4000)
    (hlo : 1024 * (D : Int) - (d * D + 1024) ≤ 1024 * R) (hhi : 1024 * R ≤ 1024 * (D : Int) + (d * D + 1024)) :
    ∃ (rn : Int) (rd : Nat) (an : Int) (ad : Nat) (bn : Int) (bd : Nat) (wn : Int) (wd : Nat) (ln : Int) (ld : Nat) (hn : Int) (hd : Nat),
      (∀ w, Calls Try.prog 14 #[.int .i64 R, .int .i64 (D : Int)] w (GivesF rn rd w)) ∧
      (∀ w, Calls Try.prog 14 #[.int .i64 d, .int .i64 1024] w (GivesF an ad w)) ∧
      (∀ w, Calls Try.prog 14 #[.int .i64 1, .int .i64 (D : Int)] w (GivesF bn bd w)) ∧
      (∀ w, Calls Try.prog 15 #[fr an ad, fr bn bd] w (GivesF wn wd w)) ∧
      (∀ w, Calls Try.prog 17 #[fr (-wn) wd, fr wn wd] w (GivesV (-wn) wd wn wd w)) ∧
      (∀ w, Calls Try.prog 18 #[iv 1 1 1 1, iv (-wn) wd wn wd] w (GivesV ln ld hn hd w)) ∧
      (∀ w, Calls Try.prog 20 #[iv ln ld hn hd, fr rn rd] w (Told true w)) ∧
      -1073741824 ≤ wn ∧ wn ≤ 1073741824 := by
  obtain ⟨rn, rd, Rr, re, rl, rm, cr⟩ := new_any R D (by omega) (by omega) D1 (by omega)
  obtain ⟨an, ad, Ra, ae, al, am, ca⟩ := new_any d 1024 (by omega) (by omega) (by omega) (by omega)
  obtain ⟨bn, bd, Rb, be, bl, bm, cb⟩ := new_any 1 D (by omega) (by omega) D1 (by omega)
  have had := Ra.d1
  have hbd := Rb.d1
  have q1 : ad * bd ≤ 1024 * 39 := Nat.mul_le_mul al (by omega)
  have q2 : (an * bd + bn * ad).natAbs ≤ 1073741824 := by
    have m1 : (an * (bd : Int)).natAbs ≤ 512 * 39 := by rw [Int.natAbs_mul, Int.natAbs_natCast]; exact Nat.mul_le_mul (by omega) (by omega)
    have m2 : (bn * (ad : Int)).natAbs ≤ 1 * 1024 := by rw [Int.natAbs_mul, Int.natAbs_natCast]; exact Nat.mul_le_mul (by omega) (by omega)
    omega
  obtain ⟨wn, wd, Rw, we, wl, cw⟩ := fadd_any an bn ad bd Ra Rb (by omega) q2
  -- the common denominator
  obtain ⟨T, hT⟩ : ∃ T, T = d * (D : Int) + 1024 := ⟨_, rfl⟩
  obtain ⟨Q, hQ⟩ : ∃ Q, Q = 1024 * (D : Int) := ⟨_, rfl⟩
  have dD0 : 0 ≤ d * (D : Int) := Int.mul_nonneg d0 (by omega)
  have dD1 : d * (D : Int) ≤ 512 * 39 := by
    have := Int.mul_le_mul d1 (show (D : Int) ≤ 39 by omega) (by omega) (by omega)
    exact this
  have hQ0 : 0 < Q := by omega
  have wv : wn * Q = T * wd := by
    have hpos : (0 : Int) < (ad : Int) * (bd : Int) := Int.mul_pos (by omega) (by omega)
    refine Int.eq_of_mul_eq_mul_right (a := (ad : Int) * (bd : Int)) (by omega) ?_
    have e1 : an * 1024 = d * (ad : Int) := ae
    have e2 : bn * (D : Int) = (bd : Int) := by rw [be, Int.one_mul]
    have s1 : wn * Q * ((ad : Int) * (bd : Int)) = wn * ((ad : Int) * (bd : Int)) * Q := Int.mul_right_comm _ _ _
    rw [s1, we, hQ, hT]
    have s2 : (an * (bd : Int) + bn * (ad : Int)) * (wd : Int) * (1024 * (D : Int)) = (an * 1024 * ((bd : Int) * D) + bn * D * ((ad : Int) * 1024)) * (wd : Int) := by
      simp only [Int.add_mul]
      congr 1 <;> ac_rfl
    rw [s2, e1, e2]
    simp only [Int.add_mul]
    congr 1 <;> ac_rfl
  have hwd := Rw.d1
  have wn0 : 0 ≤ wn := by
    have : 0 ≤ wn * Q := by rw [wv]; exact Int.mul_nonneg (by omega) (by omega)
    exact Int.nonneg_of_mul_nonneg_left this hQ0
  have wn1 : wn ≤ 20992 * 39936 := by
    have h1 : wn ≤ wn * Q := by
      have := Int.mul_le_mul_of_nonneg_left (show (1 : Int) ≤ Q by omega) wn0
      rwa [Int.mul_one] at this
    have h2 : T * (wd : Int) ≤ 20992 * 39936 := Int.mul_le_mul (by omega) (by omega) (by omega) (by omega)
    omega
  have Rw' : Rd (-wn) wd := ⟨by have := Rw.n2; omega, by have := Rw.n2; omega, Rw.d1, Rw.d2, by rw [Int.natAbs_neg]; exact Rw.red⟩
  have R1 : Rd 1 1 := ⟨by omega, by omega, by omega, by omega, rfl⟩
  have I1 : Iv 1 1 1 1 := ⟨R1, R1, by omega⟩
  have wv' : -wn * Q = -T * wd := by rw [Int.neg_mul, Int.neg_mul, wv]
  have Iw : Iv (-wn) wd wn wd := ⟨Rw', Rw, cross_le _ _ _ _ Q _ _ hQ0 (by omega) (by omega) wv' wv (by omega)⟩
  obtain ⟨ln, ld, Rl, le, _, cl⟩ := fadd_any 1 (-wn) 1 wd R1 Rw' (by omega) (by omega)
  obtain ⟨hn, hd, Rh, he, _, ch⟩ := fadd_any 1 wn 1 wd R1 Rw (by omega) (by omega)
  have lift : ∀ (n x U : Int) (q : Nat), n * ((1 : Nat) * (wd : Int)) = (1 * (wd : Int) + x * (1 : Nat)) * q → x * Q = U * wd → n * Q = (Q + U) * q := by
    intro n x U q e f
    refine Int.eq_of_mul_eq_mul_right (a := (wd : Int)) (by omega) ?_
    have e' : n * (wd : Int) = ((wd : Int) + x) * q := by
      have a1 : n * ((1 : Nat) * (wd : Int)) = n * (wd : Int) := by rw [Int.natCast_one, Int.one_mul]
      have a2 : (1 * (wd : Int) + x * ((1 : Nat) : Int)) = (wd : Int) + x := by rw [Int.natCast_one, Int.one_mul, Int.mul_one]
      rw [a1, a2] at e
      exact e
    rw [Int.mul_right_comm, e', Int.mul_right_comm, Int.add_mul, f, Int.mul_right_comm (Q + U), Int.add_mul Q U, Int.mul_comm Q]
  have lv : ln * Q = (Q + -T) * ld := lift ln (-wn) (-T) ld le wv'
  have hv : hn * Q = (Q + T) * hd := lift hn wn T hd he wv
  have rv : rn * Q = 1024 * R * rd := by
    rw [hQ]
    have : rn * (1024 * (D : Int)) = 1024 * (rn * D) := by ac_rfl
    rw [this, re, Int.mul_assoc]
  have hld := Rl.d1
  have hhd := Rh.d1
  have hrd := Rr.d1
  have Iz : Iv ln ld hn hd := ⟨Rl, Rh, cross_le _ _ _ _ Q _ _ hQ0 (by omega) (by omega) lv hv (by omega)⟩
  refine ⟨rn, rd, an, ad, bn, bd, wn, wd, ln, ld, hn, hd, cr, ca, cb, cw, fun w => inew_any _ _ _ _ Iw w, fun w => iadd_core 1 1 1 1 (-wn) wd wn wd ln ld hn hd I1 Iw cl ch w, fun w => icontains_any ln ld hn hd rn rd Iz Rr ?_ ?_ w, Rw.n1, Rw.n2⟩
  · exact cross_le _ _ _ _ Q _ _ hQ0 (by omega) (by omega) lv rv (by omega)
  · exact cross_le _ _ _ _ Q _ _ hQ0 (by omega) (by omega) rv hv (by omega)

end Go.Proofs.Ytjldhikadijbiaa
