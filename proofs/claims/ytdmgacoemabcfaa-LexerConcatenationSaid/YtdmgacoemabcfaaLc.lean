/- The plain law of concatenation: the tokens of a, a byte of white space and b. -/
import Derived.Test.YtdmgacoemabcfaaLz
namespace Lx

theorem get_app (a r : List UInt8) (i : Nat) (h : i < a.length) : (a ++ r).getD i 0 = a.getD i 0 := by
  simp [List.getD, List.getElem?_append_left h]
theorem get_app_at (a r : List UInt8) (c : UInt8) : (a ++ c :: r).getD a.length 0 = c := by
  simp [List.getD]

theorem stop_app_in (p : UInt8 → Bool) (a r : List UInt8) (i : Nat) (hi : i ≤ a.length) (h : stop p a i < a.length) : stop p (a ++ r) i = stop p a i := by
  induction hn : a.length - i generalizing i with
  | zero => have := stop_end p a i (by omega); omega
  | succ n ih =>
    have hlt : i < a.length := by omega
    have hl : i < (a ++ r).length := by simp; omega
    have hg : (a ++ r)[i] = a[i] := List.getElem_append_left hlt
    cases hp : p a[i] with
    | false => rw [stop_no p _ i hl (by rw [hg]; exact hp), stop_no p a i hlt hp]
    | true =>
      have e := stop_yes p a i hlt hp
      rw [stop_yes p _ i hl (by rw [hg]; exact hp), e]
      exact ih (i + 1) (by omega) (by omega) (by omega)
theorem stop_app_out (p : UInt8 → Bool) (a r : List UInt8) (i : Nat) (hi : i ≤ a.length) (h : a.length ≤ stop p a i) : stop p (a ++ r) i = stop p (a ++ r) a.length := by
  induction hn : a.length - i generalizing i with
  | zero =>
    have : i = a.length := by omega
    rw [this]
  | succ n ih =>
    have hlt : i < a.length := by omega
    have hl : i < (a ++ r).length := by simp; omega
    have hg : (a ++ r)[i] = a[i] := List.getElem_append_left hlt
    cases hp : p a[i] with
    | false => have := stop_no p a i hlt hp; omega
    | true =>
      have e := stop_yes p a i hlt hp
      rw [stop_yes p _ i hl (by rw [hg]; exact hp)]
      exact ih (i + 1) (by omega) (by omega) (by omega)

/-- a run that white space ends -/
theorem stop_app (p : UInt8 → Bool) (a b : List UInt8) (c : UInt8) (hc : p c = false) (i : Nat) (hi : i ≤ a.length) : stop p (a ++ c :: b) i = stop p a i := by
  have hle := stop_le p a i hi
  rcases Nat.lt_or_ge (stop p a i) a.length with h | h
  · exact stop_app_in p a _ i hi h
  · rw [stop_app_out p a _ i hi h]
    have : a.length < (a ++ c :: b).length := by simp
    rw [stop_no p _ a.length this (by simpa using hc)]
    omega

theorem sub_app_in (a r : List UInt8) (i e : Nat) (he : e ≤ a.length) : sub (a ++ r) i e = sub a i e := by
  unfold sub
  rcases Nat.lt_or_ge a.length i with h | h
  · rw [show e - i = 0 by omega]; simp
  · rw [List.drop_append_of_le_length h, List.take_append_of_le_length (by simp; omega)]

theorem white_not_word {c : UInt8} (h : white c = true) : wordc c = false ∧ digit c = false ∧ noq c = true ∧ valc c = false ∧ c ≠ 61 := by
  unfold white at h
  simp only [Bool.or_eq_true, beq_iff_eq] at h
  rcases h with ((h | h) | h) | h <;> subst h <;> decide

theorem symLen_app (a b : List UInt8) (c : UInt8) (hc : white c = true) (i : Nat) (hi : i < a.length) : symLen (a ++ c :: b) i = symLen a i := by
  unfold symLen
  rw [get_app a _ i hi]
  rcases Nat.lt_or_ge (i + 1) a.length with h | h
  · rw [get_app a _ (i + 1) h]
    simp [show i + 1 < a.length from h, show i + 1 < a.length + (b.length + 1) by omega]
  · have e : i + 1 = a.length := by omega
    have hne := (white_not_word hc).2.2.2.2
    rw [e, get_app_at]
    simp [hne]

theorem stepAt_app (a b : List UInt8) (c : UInt8) (hc : white c = true) (i : Nat) (hi : i < a.length) : stepAt (a ++ c :: b) i = stepAt a i := by
  obtain ⟨w1, w2, w3, w4, _⟩ := white_not_word hc
  have hs := stop_le wordc a i (by omega)
  have hd := stop_le digit a i (by omega)
  unfold stepAt
  simp only [get_app a _ i hi, stop_app wordc a b c w1 i (by omega), stop_app digit a b c w2 i (by omega), symLen_app a b c hc i hi, sub_app_in a _ i _ hs, sub_app_in a _ i _ hd]
  split
  · rfl
  · split
    · rfl
    · split
      · rcases Nat.lt_or_ge (stop noq a (i + 1)) a.length with h | h
        · rw [stop_app_in noq a _ (i + 1) (by omega) h, sub_app_in a _ _ _ (by omega), if_neg (show ¬ a.length ≤ stop noq a (i + 1) by omega), if_neg (by simp; omega)]
        · rw [if_pos h]
          have hge : a.length + 1 ≤ stop noq (a ++ c :: b) (i + 1) := by
            rw [stop_app_out noq a _ (i + 1) (by omega) h]
            have hl : a.length < (a ++ c :: b).length := by simp
            rw [stop_yes noq _ a.length hl (by simpa using w3)]
            exact stop_ge _ _ _
          split
          · rfl
          · rw [if_neg]
            intro hall
            have hlt : a.length < (a ++ c :: b).length := by simp
            have hmem : c ∈ sub (a ++ c :: b) (i + 1) (stop noq (a ++ c :: b) (i + 1)) := by
              rw [sub_app (a ++ c :: b) (i + 1) a.length _ (by omega) (by omega)]
              refine List.mem_append_right _ ?_
              rw [sub_cons _ _ _ (by omega) hlt]
              simp
            have := List.all_eq_true.1 hall c hmem
            rw [w4] at this
            cases this
      · have h3 : symLen a i ≤ 2 := by unfold symLen; split <;> (try split) <;> omega
        split
        · rfl
        · rename_i hne
          have hin : i + symLen a i ≤ a.length := by
            unfold symLen at hne ⊢
            split
            · omega
            · split
              · rename_i h5; simp at h5; omega
              · omega
          rw [sub_app_in a _ i _ hin]

theorem lex_app (a b : List UInt8) (c : UInt8) (hc : white c = true) (i : Nat) (hi : i ≤ a.length) :
    lex (a ++ c :: b) i = match (lex a i).2 with
      | none => ((lex a i).1 ++ (lex (a ++ c :: b) (a.length + 1)).1, (lex (a ++ c :: b) (a.length + 1)).2)
      | some x => ((lex a i).1, some x) := by
  induction hn : a.length - i using Nat.strongRecOn generalizing i with
  | _ n ih =>
    rcases Nat.lt_or_ge i a.length with h | h
    · have hl : i < (a ++ c :: b).length := by simp; omega
      have hg : (a ++ c :: b)[i] = a[i] := List.getElem_append_left h
      cases hw : white a[i] with
      | true =>
        rw [lex_white a i h hw, lex_white _ i hl (by rw [hg]; exact hw)]
        exact ih (a.length - (i + 1)) (by omega) (i + 1) (by omega) rfl
      | false =>
        cases hs : stepAt a i with
        | error e => rw [lex_err a i h hw e hs, lex_err _ i hl (by rw [hg]; exact hw) e (by rw [stepAt_app a b c hc i h]; exact hs)]
        | ok t =>
          have ht := stepAt_ends h hs
          rw [lex_tok a i h hw t hs, lex_tok _ i hl (by rw [hg]; exact hw) t (by rw [stepAt_app a b c hc i h]; exact hs)]
          have := ih (a.length - t.ends) (by omega) t.ends (by omega) rfl
          rw [this]
          cases (lex a t.ends).2 <;> rfl
    · have e : i = a.length := by omega
      have hl : a.length < (a ++ c :: b).length := by simp
      rw [lex_end a i (by omega), e, lex_white _ a.length hl (by simpa using hc)]
      simp

/-! the shift -/
def shTk (n : Nat) (t : Tk) : Tk := { t with at_ := t.at_ + n, ends := t.ends + n }

theorem drop_sh (p b : List UInt8) (j : Nat) : (p ++ b).drop (j + p.length) = b.drop j := by
  rw [Nat.add_comm, ← List.drop_drop, List.drop_left]
theorem stop_sh (q : UInt8 → Bool) (p b : List UInt8) (j : Nat) : stop q (p ++ b) (j + p.length) = stop q b j + p.length := by
  unfold stop
  rw [drop_sh]
  omega
theorem sub_sh (p b : List UInt8) (i e : Nat) : sub (p ++ b) (i + p.length) (e + p.length) = sub b i e := by
  unfold sub
  rw [drop_sh, show e + p.length - (i + p.length) = e - i by omega]
theorem get_sh (p b : List UInt8) (j : Nat) : (p ++ b).getD (j + p.length) 0 = b.getD j 0 := by
  simp only [List.getD]
  rw [List.getElem?_append_right (by omega), show j + p.length - p.length = j by omega]
theorem symLen_sh (p b : List UInt8) (j : Nat) : symLen (p ++ b) (j + p.length) = symLen b j := by
  unfold symLen
  rw [get_sh, show j + p.length + 1 = (j + 1) + p.length by omega, get_sh]
  have : decide (j + 1 + p.length < (p ++ b).length) = decide (j + 1 < b.length) := by simp; omega
  rw [this]

def shStep (n : Nat) : Except Nat Tk → Except Nat Tk
  | .error e => .error e
  | .ok t => .ok (shTk n t)

theorem stepAt_sh (p b : List UInt8) (j : Nat) : stepAt (p ++ b) (j + p.length) = shStep p.length (stepAt b j) := by
  unfold stepAt
  simp only [get_sh, stop_sh, symLen_sh, sub_sh, show j + p.length + 1 = (j + 1) + p.length by omega]
  split
  · rw [show stop wordc b j + p.length - (j + p.length) = stop wordc b j - j by omega]
    split <;> rfl
  · split
    · split <;> rfl
    · split
      · have e1 : ((p ++ b).length ≤ stop noq b (j + 1) + p.length) ↔ (b.length ≤ stop noq b (j + 1)) := by simp; omega
        rw [show stop noq b (j + 1) + p.length - (j + 1 + p.length) = stop noq b (j + 1) - (j + 1) by omega]
        by_cases h : b.length ≤ stop noq b (j + 1)
        · rw [if_pos h, if_pos (e1.2 h)]; rfl
        · rw [if_neg h, if_neg (fun h' => h (e1.1 h'))]
          split
          · split
            · rfl
            · simp only [shStep, shTk]
              congr 2
              omega
          · rfl
      · split
        · rfl
        · rw [show j + p.length + symLen b j = (j + symLen b j) + p.length by omega, sub_sh]
          rfl

def shRes (n : Nat) (r : List Tk × Option (Nat × Nat)) : List Tk × Option (Nat × Nat) := (r.1.map (shTk n), r.2.map fun x => (x.1 + n, x.2))

theorem lexF_sh (p b : List UInt8) : ∀ (f j : Nat), lexF f (p ++ b) (j + p.length) = shRes p.length (lexF f b j) := by
  intro f
  induction f with
  | zero => intro j; rfl
  | succ f ih =>
    intro j
    simp only [lexF]
    have e1 : (j + p.length < (p ++ b).length) ↔ (j < b.length) := by simp; omega
    by_cases h : j < b.length
    · rw [if_pos h, if_pos (e1.2 h), get_sh, stepAt_sh]
      by_cases hw : white (b.getD j 0) = true
      · rw [if_pos hw, if_pos hw, show j + p.length + 1 = (j + 1) + p.length by omega]
        exact ih (j + 1)
      · rw [if_neg hw, if_neg hw]
        cases stepAt b j with
        | error e => rfl
        | ok t =>
          simp only [shStep]
          have := ih t.ends
          show (shTk p.length t :: (lexF f (p ++ b) (t.ends + p.length)).1, (lexF f (p ++ b) (t.ends + p.length)).2) = _
          rw [this]
          rfl
    · rw [if_neg h, if_neg (fun h' => h (e1.1 h'))]
      rfl

theorem lex_sh (p b : List UInt8) : lex (p ++ b) p.length = shRes p.length (lex b 0) := by
  unfold lex
  have := lexF_sh p b (b.length - 0) 0
  rw [Nat.zero_add] at this
  rw [← this, show (p ++ b).length - p.length = b.length - 0 by simp]

/-- the whole law -/
theorem concat (a b : List UInt8) (c : UInt8) (hc : white c = true) (hl : (a ++ c :: b).length ≤ 2000) :
    (tokErr a ≠ 0 → tokErr (a ++ c :: b) = tokErr a ∧ tokAt (a ++ c :: b) = tokAt a ∧ toks (a ++ c :: b) = []) ∧
    (tokErr a = 0 → tokErr b ≠ 0 → tokErr (a ++ c :: b) = tokErr b ∧ tokAt (a ++ c :: b) = tokAt b + (a.length + 1) ∧ toks (a ++ c :: b) = []) ∧
    (tokErr a = 0 → tokErr b = 0 → tokErr (a ++ c :: b) = 0 ∧ toks (a ++ c :: b) = toks a ++ (toks b).map (shTk (a.length + 1))) := by
  have hll : ¬ 2000 < (a ++ c :: b).length := by omega
  have ha : ¬ 2000 < a.length := by simp at hl; omega
  have hb : ¬ 2000 < b.length := by simp at hl; omega
  have h1 := lex_app a b c hc 0 (by omega)
  have h2 := lex_sh (a ++ [c]) b
  have e3 : a ++ [c] ++ b = a ++ c :: b := by simp
  have e4 : (a ++ [c]).length = a.length + 1 := by simp
  rw [e3, e4] at h2
  rw [h2] at h1
  refine ⟨fun he => ?_, fun he hf => ?_, fun he hf => ?_⟩
  · cases hx : (lex a 0).2 with
    | none => exact absurd (by unfold tokErr; rw [if_neg ha, hx]) he
    | some x =>
      rw [hx] at h1
      simp only [tokErr, tokAt, toks, if_neg hll, if_neg ha, h1, hx, and_self]
  · obtain ⟨_, _, _, hx⟩ := toks_of_ok a he
    rw [hx] at h1
    cases hy : (lex b 0).2 with
    | none => exact absurd (by unfold tokErr; rw [if_neg hb, hy]) hf
    | some y => simp only [tokErr, tokAt, toks, if_neg hll, if_neg hb, h1, hy, shRes, Option.map_some, and_self]
  · obtain ⟨_, _, hta, hx⟩ := toks_of_ok a he
    obtain ⟨_, _, htb, hy⟩ := toks_of_ok b hf
    rw [hx] at h1
    rw [hta, htb]
    simp only [tokErr, toks, if_neg hll, h1, hy, shRes, Option.map_none, and_self]

end Lx
