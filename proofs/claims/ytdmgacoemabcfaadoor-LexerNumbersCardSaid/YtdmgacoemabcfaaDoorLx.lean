/- The plain model of the tokenizer: what lexer.Tokens and the reference compute, as functions on lists of bytes; no program in sight. -/
namespace Lx

def white (c : UInt8) : Bool := c == 9 || c == 10 || c == 13 || c == 32
def letter (c : UInt8) : Bool := 97 ≤ c && c ≤ 122
def digit (c : UInt8) : Bool := 48 ≤ c && c ≤ 57
def wordc (c : UInt8) : Bool := letter c || digit c || c == 95
def noq (c : UInt8) : Bool := c != 34
def valc (c : UInt8) : Bool := 33 ≤ c && c ≤ 126 && c != 34 && c != 92 && c != 44 && c != 123 && c != 125
def sym1 (c : UInt8) : Bool := c == 43 || c == 45 || c == 42 || c == 47 || c == 40 || c == 41 || c == 123 || c == 125 || c == 44 || c == 46 || c == 64 || c == 61

/-- bytes a to b -/
def sub (l : List UInt8) (a b : Nat) : List UInt8 := (l.drop a).take (b - a)

/-- the end of the run of bytes with a property that begins at i -/
def stop (p : UInt8 → Bool) (l : List UInt8) (i : Nat) : Nat := i + ((l.drop i).takeWhile p).length

theorem stop_ge (p : UInt8 → Bool) (l : List UInt8) (i : Nat) : i ≤ stop p l i := by unfold stop; omega
theorem takeWhile_len_le (p : UInt8 → Bool) (l : List UInt8) : (l.takeWhile p).length ≤ l.length := by
  induction l with
  | nil => simp
  | cons x r ih => simp only [List.takeWhile_cons]; split <;> simp; omega
theorem stop_le (p : UInt8 → Bool) (l : List UInt8) (i : Nat) (h : i ≤ l.length) : stop p l i ≤ l.length := by
  unfold stop
  have := takeWhile_len_le p (l.drop i)
  simp only [List.length_drop] at this
  omega
theorem stop_yes (p : UInt8 → Bool) (l : List UInt8) (i : Nat) (h : i < l.length) (hp : p l[i] = true) : stop p l i = stop p l (i + 1) := by
  unfold stop
  rw [List.drop_eq_getElem_cons h, List.takeWhile_cons, if_pos hp]
  simp only [List.length_cons]
  omega
theorem stop_no (p : UInt8 → Bool) (l : List UInt8) (i : Nat) (h : i < l.length) (hp : p l[i] = false) : stop p l i = i := by
  unfold stop
  rw [List.drop_eq_getElem_cons h, List.takeWhile_cons, if_neg (by simp [hp])]
  simp
theorem stop_end (p : UInt8 → Bool) (l : List UInt8) (i : Nat) (h : l.length ≤ i) : stop p l i = i := by
  unfold stop
  rw [List.drop_eq_nil_of_le h]
  simp

/-- the value of digits; beyond MaxValue it stays as it is -/
def addDigit (n : Nat) (c : UInt8) : Nat := if n ≤ 1073741824 then 10 * n + (c.toNat - 48) else n
def numv (l : List UInt8) : Nat := l.foldl addDigit 0
theorem numv_snoc (l : List UInt8) (c : UInt8) : numv (l ++ [c]) = addDigit (numv l) c := by simp [numv]
theorem foldl_big (l : List UInt8) (n : Nat) (h : 1073741824 < n) : l.foldl addDigit n = n := by
  induction l with
  | nil => rfl
  | cons x r ih => simp only [List.foldl_cons, addDigit]; rw [if_neg (by omega)]; exact ih
theorem numv_big (a b : List UInt8) (h : 1073741824 < numv a) : numv (a ++ b) = numv a := by
  unfold numv at h ⊢
  rw [List.foldl_append, foldl_big _ _ h]

theorem stop_all (p : UInt8 → Bool) (l : List UInt8) (i k : Nat) (h1 : i ≤ k) (h2 : k < stop p l i) (h3 : k < l.length) : p l[k] = true := by
  induction hn : k - i generalizing i with
  | zero =>
    have : i = k := by omega
    subst this
    cases hp : p l[i] with
    | true => rfl
    | false => have := stop_no p l i h3 hp; omega
  | succ n ih =>
    cases hp : p l[i] with
    | false => have := stop_no p l i (by omega) hp; omega
    | true =>
      have := stop_yes p l i (by omega) hp
      exact ih (i + 1) (by omega) (by omega) (by omega)

theorem numv_le (l : List UInt8) : numv l ≤ 10737418495 := by
  suffices h : ∀ n, n ≤ 10737418495 → l.foldl addDigit n ≤ 10737418495 from h 0 (by omega)
  induction l with
  | nil => intro n hn; exact hn
  | cons x r ih =>
    intro n hn
    simp only [List.foldl_cons]
    refine ih _ ?_
    unfold addDigit
    have := x.toNat_lt
    split <;> omega

theorem sub_snoc (l : List UInt8) (i k : Nat) (h1 : i ≤ k) (h2 : k < l.length) : sub l i (k + 1) = sub l i k ++ [l[k]] := by
  unfold sub
  have e : k + 1 - i = (k - i) + 1 := by omega
  rw [e, List.take_succ_eq_append_getElem (by simp; omega)]
  congr 2
  rw [List.getElem_drop]
  congr 1
  omega
theorem sub_app (l : List UInt8) (i k e : Nat) (h1 : i ≤ k) (h2 : k ≤ e) : sub l i e = sub l i k ++ sub l k e := by
  unfold sub
  have : e - i = (k - i) + (e - k) := by omega
  rw [this, List.take_add, List.drop_drop]
  congr 3
  omega
theorem sub_self (l : List UInt8) (i : Nat) : sub l i i = [] := by simp [sub]
theorem numv_step (l : List UInt8) (i k : Nat) (h1 : i ≤ k) (h2 : k < l.length) (h3 : numv (sub l i k) ≤ 1073741824) : numv (sub l i (k + 1)) = 10 * numv (sub l i k) + (l[k].toNat - 48) := by
  rw [sub_snoc l i k h1 h2, numv_snoc, addDigit, if_pos h3]
theorem numv_stays (l : List UInt8) (i k e : Nat) (h1 : i ≤ k) (h2 : k ≤ e) (h3 : 1073741824 < numv (sub l i k)) : numv (sub l i e) = numv (sub l i k) := by
  rw [sub_app l i k e h1 h2, numv_big _ _ h3]

def symLen (l : List UInt8) (i : Nat) : Nat :=
  if sym1 (l.getD i 0) then 1
  else if (l.getD i 0 == 33 || l.getD i 0 == 94) && decide (i + 1 < l.length) && l.getD (i + 1) 0 == 61 then 2
  else 0

structure Tk where
  kind : Nat
  text : List UInt8
  n : Nat
  at_ : Nat
  ends : Nat
deriving DecidableEq

/-- the token at i, or its error -/
def stepAt (l : List UInt8) (i : Nat) : Except Nat Tk :=
  let c := l.getD i 0
  if letter c then
    let e := stop wordc l i
    if 16 < e - i then .error 4 else .ok ⟨0, sub l i e, 0, i, e⟩
  else if digit c then
    let e := stop digit l i
    if 1073741824 < numv (sub l i e) then .error 5 else .ok ⟨1, sub l i e, numv (sub l i e), i, e⟩
  else if c == 34 then
    let q := stop noq l (i + 1)
    if l.length ≤ q then .error 2
    else if (sub l (i + 1) q).all valc then
      (if 16 < q - (i + 1) then .error 4 else .ok ⟨2, sub l (i + 1) q, 0, i, q + 1⟩)
    else .error 2
  else
    if symLen l i == 0 then .error 2 else .ok ⟨3, sub l i (i + symLen l i), 0, i, i + symLen l i⟩

def lexF : Nat → List UInt8 → Nat → List Tk × Option (Nat × Nat)
  | 0, _, _ => ([], none)
  | f + 1, l, i =>
    if i < l.length then
      if white (l.getD i 0) then lexF f l (i + 1)
      else match stepAt l i with
        | .error e => ([], some (i, e))
        | .ok t => (t :: (lexF f l t.ends).1, (lexF f l t.ends).2)
    else ([], none)

def lex (l : List UInt8) (i : Nat) : List Tk × Option (Nat × Nat) := lexF (l.length - i) l i

theorem letter_word {c : UInt8} (h : letter c = true) : wordc c = true := by simp [wordc, h]

theorem stepAt_ends {l : List UInt8} {i : Nat} {t : Tk} (hi : i < l.length) (h : stepAt l i = .ok t) : i < t.ends ∧ t.ends ≤ l.length ∧ t.at_ = i := by
  have hc : l.getD i 0 = l[i] := by simp [List.getD, List.getElem?_eq_getElem hi]
  unfold stepAt at h
  simp only [hc] at h
  by_cases h1 : letter l[i] = true
  · rw [if_pos h1] at h
    have e1 := stop_yes wordc l i hi (letter_word h1)
    have e2 := stop_ge wordc l (i + 1)
    have e3 := stop_le wordc l (i + 1) (by omega)
    split at h
    · cases h
    · cases h; refine ⟨?_, ?_, rfl⟩ <;> dsimp only <;> omega
  · rw [if_neg h1] at h
    by_cases h2 : digit l[i] = true
    · rw [if_pos h2] at h
      have e1 := stop_yes digit l i hi h2
      have e2 := stop_ge digit l (i + 1)
      have e3 := stop_le digit l (i + 1) (by omega)
      split at h
      · cases h
      · cases h; refine ⟨?_, ?_, rfl⟩ <;> dsimp only <;> omega
    · rw [if_neg h2] at h
      by_cases h3 : (l[i] == 34) = true
      · rw [if_pos h3] at h
        have e2 := stop_ge noq l (i + 1)
        split at h
        · cases h
        · split at h
          · split at h
            · cases h
            · cases h; refine ⟨?_, ?_, rfl⟩ <;> dsimp only <;> omega
          · cases h
      · rw [if_neg h3] at h
        split at h
        · cases h
        · rename_i h4
          cases h
          have hs : 0 < symLen l i ∧ i + symLen l i ≤ l.length := by
            unfold symLen at h4 ⊢
            split
            · omega
            · split
              · rename_i h5
                simp at h5
                omega
              · rename_i h5 h6
                rw [if_neg h5, if_neg h6] at h4
                simp at h4
          refine ⟨?_, ?_, rfl⟩ <;> dsimp only <;> omega

/-- the fuel does not matter -/
theorem lexF_more (l : List UInt8) : ∀ (f g i : Nat), l.length - i ≤ f → l.length - i ≤ g → lexF f l i = lexF g l i := by
  intro f
  induction f with
  | zero =>
    intro g i hf hg
    cases g with
    | zero => rfl
    | succ g => simp only [lexF]; rw [if_neg (by omega)]
  | succ f ih =>
    intro g i hf hg
    cases g with
    | zero => simp only [lexF]; rw [if_neg (by omega)]
    | succ g =>
      simp only [lexF]
      by_cases hi : i < l.length
      · rw [if_pos hi, if_pos hi]
        rw [ih g (i + 1) (by omega) (by omega)]
        cases hs : stepAt l i with
        | error e => rfl
        | ok t =>
          have := stepAt_ends hi hs
          simp only
          rw [ih g t.ends (by omega) (by omega)]
      · rw [if_neg hi, if_neg hi]

theorem lex_end (l : List UInt8) (i : Nat) (h : l.length ≤ i) : lex l i = ([], none) := by
  unfold lex
  rw [lexF_more l _ 1 i (by omega) (by omega)]
  simp only [lexF]
  rw [if_neg (by omega)]
theorem lex_white (l : List UInt8) (i : Nat) (h : i < l.length) (hw : white l[i] = true) : lex l i = lex l (i + 1) := by
  unfold lex
  rw [lexF_more l _ (l.length - (i + 1) + 1) i (by omega) (by omega)]
  have hc : l.getD i 0 = l[i] := by simp [List.getD, List.getElem?_eq_getElem h]
  simp only [lexF]
  rw [if_pos h, hc, if_pos hw]
theorem lex_err (l : List UInt8) (i : Nat) (h : i < l.length) (hw : white l[i] = false) (e : Nat) (hs : stepAt l i = .error e) : lex l i = ([], some (i, e)) := by
  unfold lex
  rw [lexF_more l _ (l.length - i + 1) i (by omega) (by omega)]
  have hc : l.getD i 0 = l[i] := by simp [List.getD, List.getElem?_eq_getElem h]
  simp only [lexF]
  rw [if_pos h, hc, if_neg (by simp [hw]), hs]
theorem lex_tok (l : List UInt8) (i : Nat) (h : i < l.length) (hw : white l[i] = false) (t : Tk) (hs : stepAt l i = .ok t) : lex l i = (t :: (lex l t.ends).1, (lex l t.ends).2) := by
  have ht := stepAt_ends h hs
  unfold lex
  rw [lexF_more l (l.length - i) (l.length - i + 1) i (by omega) (by omega), lexF_more l (l.length - t.ends) (l.length - i) t.ends (by omega) (by omega)]
  have hc : l.getD i 0 = l[i] := by simp [List.getD, List.getElem?_eq_getElem h]
  show lexF (l.length - i + 1) l i = _
  rw [lexF, if_pos h, hc, if_neg (by simp [hw]), hs]

/-- no more tokens than bytes -/
theorem lex_len (l : List UInt8) : ∀ (k i : Nat), l.length - i ≤ k → (lex l i).1.length ≤ l.length - i := by
  intro k
  induction k with
  | zero => intro i hk; rw [lex_end l i (by omega)]; simp
  | succ k ih =>
    intro i hk
    by_cases hi : i < l.length
    · cases hw : white l[i] with
      | true => rw [lex_white l i hi hw]; have := ih (i + 1) (by omega); omega
      | false =>
        cases hs : stepAt l i with
        | error e => rw [lex_err l i hi hw e hs]; simp
        | ok t =>
          have ht := stepAt_ends hi hs
          rw [lex_tok l i hi hw t hs]
          have := ih t.ends (by omega)
          simp only [List.length_cons]
          omega
    · rw [lex_end l i (by omega)]; simp

/-- what Tokens answers: the tokens (none with an error), the offset, the error -/
def toks (l : List UInt8) : List Tk := if 2000 < l.length then [] else match (lex l 0).2 with | none => (lex l 0).1 | some _ => []
def tokAt (l : List UInt8) : Nat := if 2000 < l.length then 2000 else match (lex l 0).2 with | none => 0 | some x => x.1
def tokErr (l : List UInt8) : Nat := if 2000 < l.length then 4 else match (lex l 0).2 with | none => 0 | some x => x.2

end Lx
