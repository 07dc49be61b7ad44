/- The plain law of numbers: the decimal digits of a number up to MaxValue, with leading zeros, are one number token with this value. -/
import Derived.Test.YtdmgacoemabcfaaDoorLy
import Derived.Lib.ItoaNum
namespace Lx

theorem getD_lt (l : List UInt8) (i : Nat) (h : i < l.length) : l.getD i 0 = l[i] := by simp [List.getD, List.getElem?_eq_getElem h]

theorem stop_upto (p : UInt8 → Bool) (l : List UInt8) (e : Nat) (he : e ≤ l.length) : ∀ n i : Nat, n = e - i → i ≤ e → (∀ j, i ≤ j → j < e → p (l.getD j 0) = true) → (∀ h : e < l.length, p l[e] = false) → stop p l i = e := by
  intro n
  induction n with
  | zero =>
    intro i hn hi _ hf
    obtain rfl : i = e := by omega
    rcases Nat.lt_or_ge i l.length with h | h
    · exact stop_no p l i h (hf h)
    · exact stop_end p l i h
  | succ n ih =>
    intro i hn hi ha hf
    have hlt : i < l.length := by omega
    rw [stop_yes p l i hlt (by rw [← getD_lt l i hlt]; exact ha i (Nat.le_refl _) (by omega))]
    exact ih (i + 1) (by omega) (by omega) (fun j h1 h2 => ha j (by omega) h2) hf

theorem single_of {l : List UInt8} {t : Tk} (hl : 0 < l.length) (h2000 : l.length ≤ 2000) (hw : white l[0] = false) (hs : stepAt l 0 = .ok t) (he : t.ends = l.length) : tokErr l = 0 ∧ toks l = [t] := by
  have h := lex_tok l 0 hl hw t hs
  rw [he, lex_end l _ (Nat.le_refl _)] at h
  unfold tokErr toks
  rw [if_neg (by omega), if_neg (by omega), h]
  exact ⟨rfl, rfl⟩

theorem digit_not_white {c : UInt8} (h : digit c = true) : white c = false := by
  unfold digit at h
  unfold white
  simp [UInt8.le_iff_toNat_le] at h
  simp [← UInt8.toNat_inj]
  omega
theorem digit_not_letter {c : UInt8} (h : digit c = true) : letter c = false := by
  unfold digit at h
  unfold letter
  simp [UInt8.le_iff_toNat_le] at h
  simp [UInt8.le_iff_toNat_le]
  omega

/-- digits whose value is at most MaxValue are one token -/
theorem digits_one {l : List UInt8} (hl : 0 < l.length) (h2000 : l.length ≤ 2000) (hd : ∀ c ∈ l, digit c = true) (hv : numv l ≤ 1073741824) :
    tokErr l = 0 ∧ toks l = [⟨1, l, numv l, 0, l.length⟩] := by
  have hdj : ∀ j, j < l.length → digit (l.getD j 0) = true := fun j hj => by
    rw [getD_lt l j hj]; exact hd _ (List.getElem_mem hj)
  have he : stop digit l 0 = l.length := stop_upto digit l l.length (Nat.le_refl _) _ 0 rfl (by omega) (fun j _ hj => hdj j hj) (fun h => by omega)
  have h0 := hdj 0 hl
  have hsub : sub l 0 l.length = l := by simp [sub]
  have hs : stepAt l 0 = .ok ⟨1, l, numv l, 0, l.length⟩ := by
    unfold stepAt
    simp only
    rw [if_neg (by rw [digit_not_letter h0]; decide), if_pos h0, he, hsub, if_neg (by omega)]
  have hw : white l[0] = false := digit_not_white (by rw [← getD_lt l 0 hl]; exact h0)
  exact single_of hl h2000 hw hs rfl

theorem digit_of (d : Nat) (h : d < 10) : digit (UInt8.ofNat (48 + d)) = true ∧ (UInt8.ofNat (48 + d)).toNat - 48 = d := by
  have e : (UInt8.ofNat (48 + d)).toNat = 48 + d := by
    rw [UInt8.toNat_ofNat']
    omega
  refine ⟨?_, by omega⟩
  unfold digit
  simp only [Bool.and_eq_true, decide_eq_true_eq, UInt8.le_iff_toNat_le, e]
  exact ⟨by show 48 ≤ 48 + d; omega, by show 48 + d ≤ 57; omega⟩

theorem dec_digit (u : Nat) : ∀ c ∈ Go.Lib.decDigits u, digit c = true := by
  induction u using Nat.strongRecOn with
  | _ u ih =>
    intro c hc
    rw [Go.Lib.decDigits] at hc
    split at hc
    · rename_i h
      simp only [List.mem_singleton] at hc
      rw [hc]
      exact (digit_of u h).1
    · rename_i h
      rcases List.mem_append.1 hc with hc | hc
      · exact ih (u / 10) (by omega) c hc
      · simp only [List.mem_singleton] at hc
        rw [hc]
        exact (digit_of (u % 10) (by omega)).1

/-- z zeros and the digits of k -/
def zs (z k : Nat) : List UInt8 := List.replicate z 48 ++ Go.Lib.decDigits k

theorem numv_zero (z : Nat) : numv (List.replicate z 48) = 0 := by
  induction z with
  | zero => rfl
  | succ z ih => rw [List.replicate_succ', numv_snoc, ih]; rfl

theorem numv_zs (z k : Nat) (hk : k ≤ 1073741824) : numv (zs z k) = k := by
  induction k using Nat.strongRecOn with
  | _ k ih =>
    unfold zs
    rw [Go.Lib.decDigits]
    split
    · rename_i h
      rw [numv_snoc, numv_zero]
      unfold addDigit
      rw [if_pos (by omega), (digit_of k h).2]
      omega
    · rename_i h
      have := ih (k / 10) (by omega) (by omega)
      unfold zs at this
      rw [← List.append_assoc, numv_snoc, this]
      unfold addDigit
      rw [if_pos (by omega), (digit_of (k % 10) (by omega)).2]
      omega

theorem dec_len (k : Nat) (hk : k ≤ 1073741824) : 0 < (Go.Lib.decDigits k).length ∧ (Go.Lib.decDigits k).length ≤ 10 := by
  rw [Go.Lib.decDigits_length]
  refine ⟨Go.Lib.nDigits_pos k, ?_⟩
  by_cases h : k < 1000000000
  · suffices h' : ∀ n u : Nat, u < 10 ^ (n + 1) → Go.Lib.nDigits u ≤ n + 1 from h' 9 k (by omega)
    intro n
    induction n with
    | zero => intro u hu; rw [Go.Lib.nDigits_small (by omega)]; omega
    | succ n ih =>
      intro u hu
      by_cases h10 : u < 10
      · rw [Go.Lib.nDigits_small h10]; omega
      · rw [Go.Lib.nDigits_big h10]
        have := ih (u / 10) (by rw [Nat.pow_succ] at hu; omega)
        omega
  · rw [Go.Lib.nDigits_unique 9 k (by omega) (by omega)]
    omega

theorem zs_len (z k : Nat) (hz : z ≤ 6) (hk : k ≤ 1073741824) : 0 < (zs z k).length ∧ (zs z k).length ≤ 16 := by
  have := dec_len k hk
  unfold zs
  simp only [List.length_append, List.length_replicate]
  omega

theorem zs_digit (z k : Nat) : ∀ c ∈ zs z k, digit c = true := by
  intro c hc
  rcases List.mem_append.1 hc with hc | hc
  · rw [(List.mem_replicate.1 hc).2]; decide
  · exact dec_digit k c hc

theorem zs_succ (z k : Nat) : zs (z + 1) k = 48 :: zs z k := by simp [zs, List.replicate_succ]
theorem zs_zero (k : Nat) : zs 0 k = Go.Lib.decDigits k := by simp [zs]

theorem zs_one (z k : Nat) (hz : z ≤ 6) (hk : k ≤ 1073741824) : tokErr (zs z k) = 0 ∧ toks (zs z k) = [⟨1, zs z k, k, 0, (zs z k).length⟩] := by
  have hl := zs_len z k hz hk
  have hn := numv_zs z k hk
  have h := digits_one hl.1 (by omega) (zs_digit z k) (by omega)
  rw [hn] at h
  exact h

end Lx
