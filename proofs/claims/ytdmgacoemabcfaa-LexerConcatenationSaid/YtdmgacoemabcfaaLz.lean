/- The plain law of coverage: tokens are written at their offsets, with white space between them. -/
import Derived.Test.YtdmgacoemabcfaaLy
namespace Lx

/-- a token as it is written -/
def full (t : Tk) : List UInt8 := if t.kind = 2 then 34 :: (t.text ++ [34]) else t.text

/-- tokens from i on: white gaps, each token written at its offset -/
def Chain (l : List UInt8) : Nat → List Tk → Prop
  | i, [] => ∀ c ∈ l.drop i, white c = true
  | i, t :: r => i ≤ t.at_ ∧ (∀ c ∈ sub l i t.at_, white c = true) ∧ t.at_ + (full t).length = t.ends ∧ t.ends ≤ l.length ∧ t.at_ < t.ends ∧ sub l t.at_ t.ends = full t ∧ Chain l t.ends r

theorem sub_len (l : List UInt8) (a b : Nat) (h1 : a ≤ b) (h2 : b ≤ l.length) : (sub l a b).length = b - a := by
  unfold sub
  simp
  omega
theorem sub_cons (l : List UInt8) (a b : Nat) (h1 : a < b) (h2 : a < l.length) : sub l a b = l[a] :: sub l (a + 1) b := by
  unfold sub
  rw [List.drop_eq_getElem_cons h2]
  have : b - a = (b - (a + 1)) + 1 := by omega
  rw [this, List.take_succ_cons]

theorem stop_stops (p : UInt8 → Bool) (l : List UInt8) (i : Nat) (h : stop p l i < l.length) : p l[stop p l i] = false := by
  induction hn : l.length - i generalizing i with
  | zero =>
    have := stop_end p l i (by omega)
    omega
  | succ n ih =>
    have hi : i < l.length := by omega
    cases hp : p l[i] with
    | false =>
      have e := stop_no p l i hi hp
      have : l[stop p l i]'h = l[i] := by congr 1
      rw [this]
      exact hp
    | true =>
      have e := stop_yes p l i hi hp
      have hnext : stop p l (i + 1) < l.length := by omega
      have := ih (i + 1) hnext (by omega)
      have e2 : l[stop p l i]'h = l[stop p l (i + 1)]'hnext := by congr 1
      rw [e2]
      exact this

theorem stepAt_full {l : List UInt8} {i : Nat} {t : Tk} (hi : i < l.length) (h : stepAt l i = .ok t) :
    t.at_ = i ∧ t.at_ + (full t).length = t.ends ∧ t.ends ≤ l.length ∧ t.at_ < t.ends ∧ sub l t.at_ t.ends = full t := by
  have he := stepAt_ends hi h
  have hc : l.getD i 0 = l[i] := by simp [List.getD, List.getElem?_eq_getElem hi]
  obtain ⟨e1, e2, e3⟩ := he
  refine ⟨e3, ?_⟩
  suffices hs : sub l t.at_ t.ends = full t by
    refine ⟨?_, e2, by omega, hs⟩
    rw [← hs, sub_len l _ _ (by omega) e2]
    omega
  unfold stepAt at h
  simp only [hc] at h
  by_cases h1 : letter l[i] = true
  · rw [if_pos h1] at h
    split at h
    · cases h
    · cases h; rfl
  · rw [if_neg h1] at h
    by_cases h2 : digit l[i] = true
    · rw [if_pos h2] at h
      split at h
      · cases h
      · cases h; rfl
    · rw [if_neg h2] at h
      by_cases h3 : (l[i] == 34) = true
      · rw [if_pos h3] at h
        split at h
        · cases h
        · rename_i hq
          split at h
          · split at h
            · cases h
            · cases h
              have hlt : stop noq l (i + 1) < l.length := by omega
              have hge := stop_ge noq l (i + 1)
              have hqs := stop_stops noq l (i + 1) hlt
              have hqc : l[stop noq l (i + 1)] = 34 := by simpa [noq] using hqs
              have hic : l[i] = 34 := by simpa using h3
              show sub l i (stop noq l (i + 1) + 1) = 34 :: (sub l (i + 1) (stop noq l (i + 1)) ++ [34])
              rw [sub_cons l i _ (by omega) hi, hic, sub_snoc l (i + 1) _ hge hlt, hqc]
          · cases h
      · rw [if_neg h3] at h
        split at h
        · cases h
        · cases h; rfl

theorem chain_white (l : List UInt8) (i : Nat) (ts : List Tk) (hi : i < l.length) (hw : white l[i] = true) (h : Chain l (i + 1) ts) : Chain l i ts := by
  cases ts with
  | nil =>
    intro c hc
    rw [List.drop_eq_getElem_cons hi] at hc
    rcases List.mem_cons.1 hc with rfl | hc
    · exact hw
    · exact h c hc
  | cons t r =>
    obtain ⟨h1, h2, h3⟩ := h
    refine ⟨by omega, fun c hc => ?_, h3⟩
    rw [sub_cons l i _ (by omega) hi] at hc
    rcases List.mem_cons.1 hc with rfl | hc
    · exact hw
    · exact h2 c hc

theorem lex_chain (l : List UInt8) (i : Nat) (h : (lex l i).2 = none) : Chain l i (lex l i).1 := by
  induction hn : l.length - i using Nat.strongRecOn generalizing i with
  | _ n ih =>
    by_cases hi : i < l.length
    · cases hw : white l[i] with
      | true =>
        rw [lex_white l i hi hw] at h ⊢
        exact chain_white l i _ hi hw (ih (l.length - (i + 1)) (by omega) (i + 1) h rfl)
      | false =>
        cases hs : stepAt l i with
        | error e => rw [lex_err l i hi hw e hs] at h; cases h
        | ok t =>
          have ht := stepAt_ends hi hs
          have hf := stepAt_full hi hs
          rw [lex_tok l i hi hw t hs] at h ⊢
          refine ⟨by omega, fun c hc => ?_, hf.2.1, hf.2.2.1, hf.2.2.2.1, hf.2.2.2.2, ih (l.length - t.ends) (by omega) t.ends h rfl⟩
          rw [hf.1, sub_self] at hc
          cases hc
    · rw [lex_end l i (by omega)]
      intro c hc
      rw [List.drop_eq_nil_of_le (by omega)] at hc
      cases hc

theorem lex_err_lt (l : List UInt8) (i : Nat) (x : Nat × Nat) (h : (lex l i).2 = some x) : x.1 < l.length := by
  induction hn : l.length - i using Nat.strongRecOn generalizing i with
  | _ n ih =>
    by_cases hi : i < l.length
    · cases hw : white l[i] with
      | true => rw [lex_white l i hi hw] at h; exact ih (l.length - (i + 1)) (by omega) (i + 1) h rfl
      | false =>
        cases hs : stepAt l i with
        | error e => rw [lex_err l i hi hw e hs] at h; cases h; exact hi
        | ok t =>
          have ht := stepAt_ends hi hs
          rw [lex_tok l i hi hw t hs] at h
          exact ih (l.length - t.ends) (by omega) t.ends h rfl
    · rw [lex_end l i (by omega)] at h; cases h

theorem tokAt_le (l : List UInt8) : tokAt l ≤ l.length := by
  unfold tokAt
  split
  · omega
  · split
    · omega
    · rename_i x hx
      have := lex_err_lt l 0 x hx
      omega

theorem toks_of_err (l : List UInt8) (h : tokErr l ≠ 0) : toks l = [] := by
  unfold tokErr at h
  unfold toks
  split
  · rfl
  · rename_i hl
    rw [if_neg hl] at h
    split at h
    · exact absurd rfl h
    · rfl
theorem toks_of_ok (l : List UInt8) (h : tokErr l = 0) : l.length ≤ 2000 ∧ tokAt l = 0 ∧ toks l = (lex l 0).1 ∧ (lex l 0).2 = none := by
  unfold tokErr at h
  split at h
  · cases h
  · rename_i hl
    split at h
    · rename_i hx
      refine ⟨by omega, ?_, ?_, hx⟩
      · unfold tokAt; rw [if_neg hl, hx]
      · unfold toks; rw [if_neg hl, hx]
    · rename_i x hx
      have := lex_err_pos l 0 x hx
      omega

theorem toks_chain (l : List UInt8) (h : tokErr l = 0) : Chain l 0 (toks l) := by
  obtain ⟨_, _, h3, h4⟩ := toks_of_ok l h
  rw [h3]
  exact lex_chain l 0 h4

end Lx
