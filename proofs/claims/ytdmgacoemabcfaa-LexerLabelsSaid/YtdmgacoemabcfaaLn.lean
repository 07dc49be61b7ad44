/- The plain law of names: a text is a name exactly if it is a single word, and a value exactly if it is, in quotes, a single string. -/
import Derived.Test.YtdmgacoemabcfaaLz
namespace Lx

def IsName (l : List UInt8) : Prop := 1 ≤ l.length ∧ l.length ≤ 16 ∧ letter (l.getD 0 0) = true ∧ ∀ j, j < l.length → wordc (l.getD j 0) = true
def IsValue (l : List UInt8) : Prop := l.length ≤ 16 ∧ ∀ j, j < l.length → valc (l.getD j 0) = true

theorem getD_lt (l : List UInt8) (i : Nat) (h : i < l.length) : l.getD i 0 = l[i] := by simp [List.getD, List.getElem?_eq_getElem h]

theorem stop_upto (p : UInt8 → Bool) (l : List UInt8) (e : Nat) (he : e ≤ l.length) : ∀ n i : Nat, n = e - i → i ≤ e → (∀ j, i ≤ j → j < e → p (l.getD j 0) = true) → (∀ h : e < l.length, p l[e] = false) → stop p l i = e := by
  intro n
  induction n with
  | zero =>
    intro i hn hi _ hf
    obtain rfl : i = e := by omega
    rcases Nat.lt_or_ge i l.length with h | h
    · exact stop_no p l i h (hf h)
    · exact stop_end p l i h
  | succ n ih =>
    intro i hn hi ha hf
    have hlt : i < l.length := by omega
    rw [stop_yes p l i hlt (by rw [← getD_lt l i hlt]; exact ha i (Nat.le_refl _) (by omega))]
    exact ih (i + 1) (by omega) (by omega) (fun j h1 h2 => ha j (by omega) h2) hf

/-- a single token that begins at 0 -/
theorem single_step {l : List UInt8} {t : Tk} (h : tokErr l = 0) (ht : toks l = [t]) (h0 : t.at_ = 0) : 0 < l.length ∧ stepAt l 0 = .ok t := by
  obtain ⟨_, _, h3, h4⟩ := toks_of_ok l h
  rw [ht] at h3
  have hch := toks_chain l h
  rw [ht] at hch
  obtain ⟨_, _, _, he, hlt, _, _⟩ := hch
  have hl : 0 < l.length := by omega
  refine ⟨hl, ?_⟩
  cases hw : white l[0] with
  | true =>
    rw [lex_white l 0 hl hw] at h3 h4
    have := lex_chain l 1 h4
    rw [← h3] at this
    have := this.1
    omega
  | false =>
    cases hs : stepAt l 0 with
    | error e => rw [lex_err l 0 hl hw e hs] at h3; cases h3
    | ok t' =>
      rw [lex_tok l 0 hl hw t' hs] at h3
      injection h3 with h3
      rw [h3]

theorem single_of {l : List UInt8} {t : Tk} (hl : 0 < l.length) (h2000 : l.length ≤ 2000) (hw : white l[0] = false) (hs : stepAt l 0 = .ok t) (he : t.ends = l.length) : tokErr l = 0 ∧ toks l = [t] := by
  have h := lex_tok l 0 hl hw t hs
  rw [he, lex_end l _ (Nat.le_refl _)] at h
  unfold tokErr toks
  rw [if_neg (by omega), if_neg (by omega), h]
  exact ⟨rfl, rfl⟩

theorem letter_not_white {c : UInt8} (h : letter c = true) : white c = false := by
  unfold letter at h
  unfold white
  simp [UInt8.le_iff_toNat_le] at h
  simp [← UInt8.toNat_inj]
  omega

/-- the tokens are one word, all of the text -/
def OneWord (l : List UInt8) : Prop := tokErr l = 0 ∧ ∃ t, toks l = [t] ∧ t.kind = 0 ∧ t.text = l
theorem word_iff (l : List UInt8) (h20 : l.length ≤ 2000) : OneWord l ↔ IsName l := by
  constructor
  · rintro ⟨h, t, ht, hk, hx⟩
    have hch := toks_chain l h
    rw [ht] at hch
    obtain ⟨_, _, a1, a2, a3, _, _⟩ := hch
    have hf : full t = t.text := by unfold full; rw [if_neg (by omega)]
    rw [hf, hx] at a1
    have h0 : t.at_ = 0 := by omega
    obtain ⟨hl, hs⟩ := single_step h ht h0
    unfold stepAt at hs
    simp only at hs
    by_cases h1 : letter (l.getD 0 0) = true
    · rw [if_pos h1] at hs
      split at hs
      · cases hs
      · rename_i h16
        cases hs
        dsimp only at a1 hx hk h0 a2 a3
        refine ⟨by omega, by omega, h1, fun j hj => ?_⟩
        rw [getD_lt l j hj]
        exact stop_all wordc l 0 j (by omega) (by omega) hj
    · rw [if_neg h1] at hs
      repeat' (split at hs)
      all_goals first | (cases hs; done) | (cases hs; dsimp only at hk; omega)
  · rintro ⟨h1, h2, h3, h4⟩
    have hl : 0 < l.length := by omega
    have he : stop wordc l 0 = l.length := stop_upto wordc l l.length (Nat.le_refl _) _ 0 rfl (by omega) (fun j _ hj => h4 j hj) (fun h => by omega)
    have hs : stepAt l 0 = .ok ⟨0, l, 0, 0, l.length⟩ := by
      unfold stepAt
      simp only
      rw [if_pos h3, he, if_neg (by omega)]
      congr 2
      simp [sub]
    have hw : white l[0] = false := letter_not_white (by rw [← getD_lt l 0 hl]; exact h3)
    obtain ⟨e1, e2⟩ := single_of hl h20 hw hs rfl
    exact ⟨e1, _, e2, rfl, rfl⟩

theorem quoted_at (l : List UInt8) (j : Nat) (h : j < l.length) : (34 :: (l ++ [34]))[j + 1]? = some l[j] := by
  simp [List.getElem?_append_left h]

def OneText (q l : List UInt8) : Prop := tokErr q = 0 ∧ ∃ t, toks q = [t] ∧ t.kind = 2 ∧ t.text = l
theorem text_iff (l : List UInt8) (h20 : l.length ≤ 1000) : OneText (34 :: (l ++ [34])) l ↔ IsValue l := by
  obtain ⟨q, hq⟩ : ∃ q, q = 34 :: (l ++ [34]) := ⟨_, rfl⟩
  have hql : q.length = l.length + 2 := by rw [hq]; simp
  have hq0 : q.getD 0 0 = 34 := by rw [hq]; rfl
  have hqj : ∀ j, j < l.length → q.getD (j + 1) 0 = l.getD j 0 := fun j hj => by
    rw [hq, getD_lt l j hj, List.getD, quoted_at l j hj]; rfl
  have hqe : q.getD (l.length + 1) 0 = 34 := by rw [hq]; simp [List.getD]
  have hsub : sub q 1 (l.length + 1) = l := by rw [hq]; simp [sub]
  rw [← hq]
  have h0 : 0 < q.length := by omega
  have hw : white q[0] = false := by rw [← getD_lt q 0 h0, hq0]; decide
  have hstep : stepAt q 0 = if q.length ≤ stop noq q 1 then .error 2 else if (sub q 1 (stop noq q 1)).all valc then (if 16 < stop noq q 1 - 1 then .error 4 else .ok ⟨2, sub q 1 (stop noq q 1), 0, 0, stop noq q 1 + 1⟩) else .error 2 := by
    unfold stepAt
    simp only [hq0]
    rw [if_neg (by decide), if_neg (by decide), if_pos (by decide)]
  constructor
  · rintro ⟨h, t, ht, hk, hx⟩
    have hch := toks_chain q h
    rw [ht] at hch
    obtain ⟨_, _, a1, a2, a3, _, _⟩ := hch
    have hf : (full t).length = l.length + 2 := by unfold full; rw [if_pos hk, hx]; simp
    rw [hf] at a1
    have hat : t.at_ = 0 := by omega
    obtain ⟨_, hs⟩ := single_step h ht hat
    rw [hstep] at hs
    split at hs
    · cases hs
    · split at hs
      · split at hs
        · cases hs
        · rename_i hv h16
          cases hs
          dsimp only at a1 hx a2 a3
          rw [hx] at hv
          refine ⟨by omega, fun j hj => ?_⟩
          rw [getD_lt l j hj]
          exact List.all_eq_true.1 hv _ (List.getElem_mem hj)
      · cases hs
  · rintro ⟨h1, h2⟩
    have he : stop noq q 1 = l.length + 1 := stop_upto noq q (l.length + 1) (by omega) _ 1 rfl (by omega) (fun j hj1 hj2 => by
      obtain ⟨i, rfl⟩ : ∃ i, j = i + 1 := ⟨j - 1, by omega⟩
      rw [hqj i (by omega)]
      have := h2 i (by omega)
      unfold valc at this
      unfold noq
      simp only [Bool.and_eq_true] at this
      exact this.1.1.1.1.2) (fun h => by rw [← getD_lt q _ h, hqe]; decide)
    have hs : stepAt q 0 = .ok ⟨2, l, 0, 0, q.length⟩ := by
      rw [hstep, he, hsub, if_neg (by omega), if_pos (List.all_eq_true.2 fun c hc => by
        obtain ⟨j, hj, rfl⟩ := List.getElem_of_mem hc
        rw [← getD_lt l j hj]
        exact h2 j hj), if_neg (by omega)]
      congr 2
      omega
    obtain ⟨e1, e2⟩ := single_of h0 (by omega) hw hs rfl
    exact ⟨e1, _, e2, rfl, rfl⟩

end Lx
