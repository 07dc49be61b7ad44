/- What frac's Add hands back: a reduced fraction of the right value. -/
import Derived.Test.YtjldhikadijbiaaH7
namespace Go.Proofs.Ytjldhikadijbiaa
open Go.RowKit

theorem coprime_part (a b : Int) (u v : Nat) (hau : Nat.gcd a.natAbs u = 1) (huv : Nat.gcd u v = 1) : Nat.gcd (a * v + b * u).natAbs u = 1 := by
  have h1 : Nat.gcd (a * v + b * u).natAbs u ∣ (a * v + b * u).natAbs := Nat.gcd_dvd_left _ _
  have h2 : Nat.gcd (a * v + b * u).natAbs u ∣ u := Nat.gcd_dvd_right _ _
  generalize Nat.gcd (a * v + b * u).natAbs u = c at *
  have h3 : (c : Int) ∣ a * v + b * u := Int.ofNat_dvd_left.2 h1
  have h4 : (c : Int) ∣ (u : Int) := Int.natCast_dvd_natCast.2 h2
  have h5 : (c : Int) ∣ a * v := by
    have := Int.dvd_sub h3 (Int.dvd_trans h4 (Int.dvd_mul_left b u))
    rwa [Int.add_sub_cancel] at this
  have h6 : c ∣ a.natAbs * v := by
    have := Int.ofNat_dvd_left.1 h5
    rwa [Int.natAbs_mul, Int.natAbs_natCast] at this
  have hcv : Nat.Coprime c v := by
    have : Nat.gcd c v ∣ Nat.gcd u v := Nat.dvd_gcd (Nat.dvd_trans (Nat.gcd_dvd_left _ _) h2) (Nat.gcd_dvd_right _ _)
    rw [huv] at this
    exact Nat.dvd_one.1 this
  have h7 : c ∣ a.natAbs := Nat.Coprime.dvd_of_dvd_mul_right hcv h6
  have h8 : c ∣ Nat.gcd a.natAbs u := Nat.dvd_gcd h7 h2
  rw [hau] at h8
  exact Nat.dvd_one.1 h8

theorem coprime_sub (a b c : Nat) (h : Nat.gcd a b = 1) (hc : c ∣ a) : Nat.gcd c b = 1 := by
  have : Nat.gcd c b ∣ Nat.gcd a b := Nat.dvd_gcd (Nat.dvd_trans (Nat.gcd_dvd_left _ _) hc) (Nat.gcd_dvd_right _ _)
  rw [h] at this
  exact Nat.dvd_one.1 this

/-- the value and the form of the sum's parts -/
theorem sum_form (na nb : Int) (da db g u v h k : Nat) (S : Int) (ha : Rd na da) (hb : Rd nb db) (hs : Sum na nb da db g u v h k S)
    (eu : da = u * g) (ev : db = v * g) (fk : k = db / h) :
    S.natAbs = (S.natAbs / h) * h ∧ db = k * h ∧ Nat.gcd (S.natAbs / h) (u * k) = 1 ∧ na * db + nb * da = S * g := by
  have hg1 := hs.g1
  have hh : h = Nat.gcd S.natAbs g := by rw [hs.hh, ← Nat.gcd_rec, Nat.gcd_comm]
  have d1 : h ∣ S.natAbs := by rw [hh]; exact Nat.gcd_dvd_left _ _
  have d2 : h ∣ g := by rw [hh]; exact Nat.gcd_dvd_right _ _
  have d3 : h ∣ db := by rw [ev]; exact Nat.dvd_trans d2 (Nat.dvd_mul_left _ _)
  have huv : Nat.gcd u v = 1 := by
    have h1 : Nat.gcd (u * g) (v * g) = g := by rw [← eu, ← ev]; exact hs.hg.symm
    rw [Nat.gcd_mul_right] at h1
    have h2 : Nat.gcd u v * g = 1 * g := by omega
    exact Nat.eq_of_mul_eq_mul_right hg1 h2
  have hau : Nat.gcd na.natAbs u = 1 := by
    rw [Nat.gcd_comm]
    exact coprime_sub da na.natAbs u (by rw [Nat.gcd_comm]; exact ha.red) (by rw [eu]; exact Nat.dvd_mul_right _ _)
  have hbv : Nat.gcd nb.natAbs v = 1 := by
    rw [Nat.gcd_comm]
    exact coprime_sub db nb.natAbs v (by rw [Nat.gcd_comm]; exact hb.red) (by rw [ev]; exact Nat.dvd_mul_right _ _)
  have c1 : Nat.gcd S.natAbs u = 1 := by rw [hs.hS]; exact coprime_part na nb u v hau huv
  have c2 : Nat.gcd S.natAbs v = 1 := by
    rw [hs.hS, Int.add_comm]; exact coprime_part nb na v u hbv (by rw [Nat.gcd_comm]; exact huv)
  have d4 : S.natAbs / h ∣ S.natAbs := Nat.div_dvd_of_dvd d1
  have e1 := coprime_sub _ _ _ c1 d4
  have e2 := coprime_sub _ _ _ c2 d4
  have h0 : 0 < h := hs.h1
  have e3 : Nat.gcd (S.natAbs / h) (g / h) = 1 := by
    have := Nat.coprime_div_gcd_div_gcd (m := S.natAbs) (n := g) (by rw [← hh]; exact h0)
    rw [← hh] at this
    exact this
  have ek : k = v * (g / h) := by rw [fk, ev, Nat.mul_div_assoc _ d2]
  refine ⟨(Nat.div_mul_cancel d1).symm, ?_, ?_, ?_⟩
  · rw [fk, Nat.div_mul_cancel d3]
  · rw [ek]
    exact Nat.Coprime.mul_right e1 (Nat.Coprime.mul_right e2 e3)
  · rw [hs.hS, ev, eu, Int.add_mul, Int.natCast_mul, Int.natCast_mul]
    simp only [Int.mul_assoc]

theorem fadd_any (na nb : Int) (da db : Nat) (ha : Rd na da) (hb : Rd nb db) (h1 : da * db ≤ 1073741824) (h2 : (na * db + nb * da).natAbs ≤ 1073741824) :
    ∃ n d, Rd n d ∧ n * (da * db) = (na * db + nb * da) * d ∧ d ≤ da * db ∧ ∀ w, Calls Try.prog 15 #[fr na da, fr nb db] w (GivesF n d w) := by
  obtain ⟨g, u, v, h, k, S, hs, eu, ev, fu, fv, fk⟩ := sum_parts na nb da db ha.d1 ha.d2 hb.d2
  obtain ⟨f1, f2, f3, f4⟩ := sum_form na nb da db g u v h k S ha hb hs eu ev fk
  have hda := ha.d1
  have hdb := hb.d1
  have hpos : 1 ≤ da * db := Nat.mul_le_mul hda hdb
  have hg1 := hs.g1
  have hh1 := hs.h1
  have hul : u ≤ da := by rw [eu]; exact Nat.le_mul_of_pos_right _ hg1
  have hkl : k ≤ db := by rw [f2]; exact Nat.le_mul_of_pos_right _ hh1
  have hukl : u * k ≤ da * db := Nat.mul_le_mul hul hkl
  have hSl : S.natAbs ≤ (na * db + nb * da).natAbs := by
    rw [f4, Int.natAbs_mul, Int.natAbs_natCast]; exact Nat.le_mul_of_pos_right _ hg1
  have hdl : S.natAbs / h ≤ S.natAbs := Nat.div_le_self _ _
  have hu1 : 1 ≤ u := by
    rcases Nat.eq_zero_or_pos u with h' | h'
    · rw [h', Nat.zero_mul] at eu; omega
    · exact h'
  have hk1 : 1 ≤ k := by
    rcases Nat.eq_zero_or_pos k with h' | h'
    · rw [h', Nat.zero_mul] at f2; omega
    · exact h'
  have huk1 : 1 ≤ u * k := Nat.mul_le_mul hu1 hk1
  refine ⟨_, _, ?_, ?_, ?_, fun w => fadd_core na nb da db g u v h k S ha hb hs w⟩
  · generalize S.natAbs / h = lo at *
    by_cases h0 : S = 0
    · rw [if_pos h0, if_pos h0]
      exact ⟨by omega, by omega, by omega, by omega, rfl⟩
    · rw [if_neg h0, if_neg h0]
      by_cases hn : S < 0
      · rw [if_pos hn]
        exact ⟨by omega, by omega, huk1, by omega, by rw [Int.natAbs_neg, Int.natAbs_natCast]; exact f3⟩
      · rw [if_neg hn]
        exact ⟨by omega, by omega, huk1, by omega, by rw [Int.natAbs_natCast]; exact f3⟩
  · by_cases h0 : S = 0
    · rw [if_pos h0, if_pos h0, f4, h0]; simp
    · rw [if_neg h0, if_neg h0, f4]
      have key : ∀ n : Int, n * (h : Int) = S → n * ((da : Int) * (db : Int)) = S * g * ((u * k : Nat) : Int) := by
        intro n hn
        rw [← hn, eu, f2, Int.natCast_mul, Int.natCast_mul, Int.natCast_mul]
        ac_rfl
      apply key
      by_cases hn : S < 0
      · rw [if_pos hn, Int.neg_mul, ← Int.natCast_mul, ← f1]; omega
      · rw [if_neg hn, ← Int.natCast_mul, ← f1]; omega
  · by_cases h0 : S = 0
    · rw [if_pos h0]; exact hpos
    · rw [if_neg h0]; exact hukl
end Go.Proofs.Ytjldhikadijbiaa
