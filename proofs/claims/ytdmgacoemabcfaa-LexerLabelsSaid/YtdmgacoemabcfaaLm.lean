/- The plain law of label texts: the tokens of the text of a label set. -/
import Derived.Test.YtdmgacoemabcfaaLn
namespace Lx

structure Lab where
  name : List UInt8
  value : List UInt8

def item (x : Lab) : List UInt8 := x.name ++ 61 :: 34 :: (x.value ++ [34])
/-- as the text is written, label by label -/
def accum : Nat → List UInt8 → List Lab → List UInt8
  | _, a, [] => a
  | k, a, x :: xs => accum (k + 1) (a ++ ((if 0 < k then [44] else []) ++ item x)) xs
def labText (ls : List Lab) : List UInt8 := accum 0 [123] ls ++ [125]

def tailOf : List Lab → List UInt8
  | [] => []
  | x :: xs => 44 :: (item x ++ tailOf xs)
def bodyOf : List Lab → List UInt8
  | [] => []
  | x :: xs => item x ++ tailOf xs

theorem accum_tail : ∀ (xs : List Lab) (k : Nat) (a : List UInt8), 0 < k → accum k a xs = a ++ tailOf xs := by
  intro xs
  induction xs with
  | nil => intro k a _; simp [accum, tailOf]
  | cons x xs ih =>
    intro k a hk
    rw [accum, if_pos hk, ih (k + 1) _ (by omega), tailOf]
    simp
theorem labText_eq (ls : List Lab) : labText ls = 123 :: (bodyOf ls ++ [125]) := by
  unfold labText
  cases ls with
  | nil => rfl
  | cons x xs =>
    rw [accum, if_neg (by omega), accum_tail xs 1 _ (by omega), bodyOf]
    simp
theorem accum_step (k : Nat) (a : List UInt8) (ls : List Lab) (hk : k < ls.length) :
    accum k a (ls.drop k) = accum (k + 1) (a ++ ((if 0 < k then [44] else []) ++ item ls[k])) (ls.drop (k + 1)) := by
  rw [List.drop_eq_getElem_cons hk, accum]

def kt (t : Tk) : Nat × List UInt8 := (t.kind, t.text)
/-- from i the tokens go on to j -/
def Goes (l : List UInt8) (i j : Nat) (ks : List (Nat × List UInt8)) : Prop := ∃ ts, ts.map kt = ks ∧ lex l i = (ts ++ (lex l j).1, (lex l j).2)
theorem Goes.refl (l : List UInt8) (i : Nat) : Goes l i i [] := ⟨[], rfl, by simp⟩
theorem Goes.trans {l : List UInt8} {i j k : Nat} {a b : List (Nat × List UInt8)} (h : Goes l i j a) (h' : Goes l j k b) : Goes l i k (a ++ b) := by
  obtain ⟨ts, e1, e2⟩ := h
  obtain ⟨us, f1, f2⟩ := h'
  exact ⟨ts ++ us, by rw [List.map_append, e1, f1], by rw [e2, f2]; simp⟩
theorem Goes.one {l : List UInt8} {i : Nat} {t : Tk} (hi : i < l.length) (hw : white l[i] = false) (hs : stepAt l i = .ok t) : Goes l i t.ends [kt t] :=
  ⟨[t], rfl, lex_tok l i hi hw t hs⟩

theorem at_drop {l : List UInt8} {i : Nat} {c : UInt8} {r : List UInt8} (h : l.drop i = c :: r) : i < l.length ∧ l.getD i 0 = c ∧ l.drop (i + 1) = r := by
  have hi : i < l.length := by
    rcases Nat.lt_or_ge i l.length with h' | h'
    · exact h'
    · rw [List.drop_eq_nil_of_le h'] at h; cases h
  rw [List.drop_eq_getElem_cons hi] at h
  injection h with h1 h2
  exact ⟨hi, by rw [getD_lt l i hi, h1], h2⟩
theorem drop_app {l : List UInt8} {i : Nat} {a r : List UInt8} (h : l.drop i = a ++ r) : l.drop (i + a.length) = r := by
  rw [← List.drop_drop, h]; simp

theorem takeWhile_stops (p : UInt8 → Bool) : ∀ (a : List UInt8) (c : UInt8) (r : List UInt8), (∀ x ∈ a, p x = true) → p c = false → (a ++ c :: r).takeWhile p = a := by
  intro a
  induction a with
  | nil => intro c r _ hc; simp [hc]
  | cons x xs ih =>
    intro c r ha hc
    rw [List.cons_append, List.takeWhile_cons, if_pos (ha x (List.mem_cons_self ..)), ih c r (fun y hy => ha y (List.mem_cons_of_mem _ hy)) hc]

theorem sym_goes {l : List UInt8} {i : Nat} {c : UInt8} {r : List UInt8} (h : l.drop i = c :: r) (hc : sym1 c = true) (h1 : letter c = false) (h2 : digit c = false) (h3 : (c == 34) = false) (hw : white c = false) : Goes l i (i + 1) [(3, [c])] := by
  obtain ⟨hi, hg, _⟩ := at_drop h
  have hw' : white l[i] = false := by rw [← getD_lt l i hi, hg]; exact hw
  have hlen : symLen l i = 1 := by unfold symLen; rw [hg, if_pos hc]
  have hs : stepAt l i = .ok ⟨3, [c], 0, i, i + 1⟩ := by
    unfold stepAt
    simp only [hg]
    rw [if_neg (by simp [h1]), if_neg (by simp [h2]), if_neg (by simp [h3]), hlen, if_neg (by decide)]
    congr 2
    unfold sub
    rw [h]; simp
  exact Goes.one hi hw' hs

theorem word_goes {l : List UInt8} {i : Nat} {n r : List UInt8} (h : l.drop i = n ++ 61 :: r) (hn : IsName n) : Goes l i (i + n.length) [(0, n)] := by
  obtain ⟨n1, n2, n3, n4⟩ := hn
  cases n with
  | nil => simp at n1
  | cons c m =>
    obtain ⟨hi, hg, _⟩ := at_drop h
    have hl : letter c = true := n3
    have hw' : white l[i] = false := by rw [← getD_lt l i hi, hg]; exact letter_not_white hl
    have hst : stop wordc l i = i + (c :: m).length := by
      unfold stop
      rw [h, takeWhile_stops wordc (c :: m) 61 r (fun x hx => by
        obtain ⟨j, hj, rfl⟩ := List.getElem_of_mem hx
        rw [← getD_lt _ j hj]; exact n4 j hj) (by decide)]
    have hs : stepAt l i = .ok ⟨0, c :: m, 0, i, i + (c :: m).length⟩ := by
      unfold stepAt
      simp only [hg]
      rw [if_pos hl, hst, if_neg (by omega)]
      congr 2
      unfold sub
      rw [h, Nat.add_sub_cancel_left]; simp
    exact Goes.one hi hw' hs

theorem text_goes {l : List UInt8} {i : Nat} {v r : List UInt8} (h : l.drop i = 34 :: (v ++ 34 :: r)) (hv : IsValue v) : Goes l i (i + 1 + v.length + 1) [(2, v)] := by
  obtain ⟨v1, v2⟩ := hv
  obtain ⟨hi, hg, hd⟩ := at_drop h
  have hw' : white l[i] = false := by rw [← getD_lt l i hi, hg]; decide
  have hall : ∀ x ∈ v, valc x = true := fun x hx => by
    obtain ⟨j, hj, rfl⟩ := List.getElem_of_mem hx
    rw [← getD_lt _ j hj]; exact v2 j hj
  have hst : stop noq l (i + 1) = i + 1 + v.length := by
    unfold stop
    rw [hd, takeWhile_stops noq v 34 r (fun x hx => by
      have := hall x hx
      unfold valc at this
      unfold noq
      simp only [Bool.and_eq_true] at this
      exact this.1.1.1.1.2) (by decide)]
  have hq : i + 1 + v.length < l.length := by
    have := drop_app hd
    rcases Nat.lt_or_ge (i + 1 + v.length) l.length with h' | h'
    · exact h'
    · rw [List.drop_eq_nil_of_le h'] at this; cases this
  have hsub : sub l (i + 1) (i + 1 + v.length) = v := by unfold sub; rw [hd, Nat.add_sub_cancel_left]; simp
  have hs : stepAt l i = .ok ⟨2, v, 0, i, i + 1 + v.length + 1⟩ := by
    unfold stepAt
    simp only [hg]
    rw [if_neg (by decide), if_neg (by decide), if_pos (by decide), hst, if_neg (by omega), hsub, if_pos (List.all_eq_true.2 hall), if_neg (by omega)]
  exact Goes.one hi hw' hs

def Fine (x : Lab) : Prop := IsName x.name ∧ IsValue x.value
def three (x : Lab) : List (Nat × List UInt8) := [(0, x.name), (3, [61]), (2, x.value)]
def tailKT : List Lab → List (Nat × List UInt8)
  | [] => []
  | x :: xs => (3, [44]) :: (three x ++ tailKT xs)
def bodyKT : List Lab → List (Nat × List UInt8)
  | [] => []
  | x :: xs => three x ++ tailKT xs

theorem item_goes {l : List UInt8} {i : Nat} {x : Lab} {r : List UInt8} (h : l.drop i = item x ++ r) (hx : Fine x) : Goes l i (i + (item x).length) (three x) := by
  have hl : (item x).length = x.name.length + 1 + (1 + x.value.length + 1) := by unfold item; simp; omega
  have h0 : l.drop i = x.name ++ 61 :: (34 :: (x.value ++ 34 :: r)) := by rw [h]; unfold item; simp
  have h1 := drop_app h0
  obtain ⟨_, _, h2⟩ := at_drop h1
  have g1 := word_goes h0 hx.1
  have g2 := sym_goes h1 (by decide) (by decide) (by decide) (by decide) (by decide)
  have g3 := text_goes h2 hx.2
  have := (g1.trans g2).trans g3
  rw [show i + (item x).length = i + x.name.length + 1 + 1 + x.value.length + 1 by omega]
  exact this
theorem tail_goes {l : List UInt8} : ∀ (xs : List Lab) (i : Nat) (r : List UInt8), l.drop i = tailOf xs ++ r → (∀ x ∈ xs, Fine x) → Goes l i (i + (tailOf xs).length) (tailKT xs) := by
  intro xs
  induction xs with
  | nil => intro i r _ _; exact Goes.refl l i
  | cons x xs ih =>
    intro i r h hf
    rw [tailOf, List.cons_append, List.append_assoc] at h
    obtain ⟨_, _, h1⟩ := at_drop h
    have g1 := sym_goes h (by decide) (by decide) (by decide) (by decide) (by decide)
    have g2 := item_goes h1 (hf x (List.mem_cons_self ..))
    have g3 := ih _ r (drop_app h1) (fun y hy => hf y (List.mem_cons_of_mem _ hy))
    have := (g1.trans g2).trans g3
    rw [show i + (tailOf (x :: xs)).length = i + 1 + (item x).length + (tailOf xs).length by rw [tailOf]; simp; omega]
    exact this
theorem body_goes {l : List UInt8} (ls : List Lab) (i : Nat) (r : List UInt8) (h : l.drop i = bodyOf ls ++ r) (hf : ∀ x ∈ ls, Fine x) : Goes l i (i + (bodyOf ls).length) (bodyKT ls) := by
  cases ls with
  | nil => exact Goes.refl l i
  | cons x xs =>
    rw [bodyOf, List.append_assoc] at h
    have g2 := item_goes h (hf x (List.mem_cons_self ..))
    have g3 := tail_goes xs _ r (drop_app h) (fun y hy => hf y (List.mem_cons_of_mem _ hy))
    have := g2.trans g3
    rw [show i + (bodyOf (x :: xs)).length = i + (item x).length + (tailOf xs).length by rw [bodyOf]; simp; omega]
    exact this

def labKT (ls : List Lab) : List (Nat × List UInt8) := (3, [123]) :: (bodyKT ls ++ [(3, [125])])

theorem lab_toks (ls : List Lab) (hf : ∀ x ∈ ls, Fine x) (hl : (labText ls).length ≤ 2000) : tokErr (labText ls) = 0 ∧ (toks (labText ls)).map kt = labKT ls := by
  obtain ⟨l, hlt⟩ : ∃ l, l = labText ls := ⟨_, rfl⟩
  have he := labText_eq ls
  rw [← hlt] at he hl ⊢
  have h0 : l.drop 0 = 123 :: (bodyOf ls ++ [125]) := by rw [List.drop_zero]; exact he
  obtain ⟨_, _, h1⟩ := at_drop h0
  have g1 := sym_goes h0 (by decide) (by decide) (by decide) (by decide) (by decide)
  have g2 := body_goes ls (0 + 1) [125] h1 hf
  have h2 := drop_app h1
  have g3 := sym_goes h2 (by decide) (by decide) (by decide) (by decide) (by decide)
  have hg := (g1.trans g2).trans g3
  obtain ⟨ts, e1, e2⟩ := hg
  have hlen : l.length = 0 + 1 + (bodyOf ls).length + 1 := by rw [he]; simp; omega
  rw [← hlen, lex_end l _ (Nat.le_refl _)] at e2
  unfold tokErr toks
  rw [if_neg (by omega), if_neg (by omega), e2]
  exact ⟨rfl, by simp only [List.append_nil]; rw [e1]; simp [labKT]⟩

theorem tailKT_len : ∀ xs : List Lab, (tailKT xs).length = 4 * xs.length
  | [] => rfl
  | x :: xs => by rw [tailKT, List.length_cons, List.length_append, tailKT_len xs]; simp [three]; omega
theorem labKT_len (ls : List Lab) : (labKT ls).length = 2 + 4 * ls.length - min ls.length 1 := by
  unfold labKT
  cases ls with
  | nil => rfl
  | cons x xs => rw [bodyKT, List.length_cons, List.length_append, List.length_append, tailKT_len]; simp [three]; omega

theorem tailKT_at : ∀ (xs : List Lab) (r : List (Nat × List UInt8)) (i : Nat) (h : i < xs.length), (tailKT xs ++ r)[4 * i]? = some (3, [44]) ∧ (tailKT xs ++ r)[4 * i + 1]? = some (0, xs[i].name) ∧ (tailKT xs ++ r)[4 * i + 2]? = some (3, [61]) ∧ (tailKT xs ++ r)[4 * i + 3]? = some (2, xs[i].value) := by
  intro xs
  induction xs with
  | nil => intro r i h; simp at h
  | cons x xs ih =>
    intro r i h
    cases i with
    | zero => simp [tailKT, three]
    | succ i =>
      have := ih r i (by simpa using h)
      rw [show 4 * (i + 1) = 4 * i + 1 + 1 + 1 + 1 by omega]
      simp only [tailKT, three, List.cons_append, List.nil_append, List.getElem?_cons_succ, List.getElem_cons_succ]
      exact this
theorem labKT_at (ls : List Lab) (i : Nat) (h : i < ls.length) : (labKT ls)[1 + 4 * i]? = some (0, ls[i].name) ∧ (labKT ls)[1 + 4 * i + 1]? = some (3, [61]) ∧ (labKT ls)[1 + 4 * i + 2]? = some (2, ls[i].value) ∧ (i + 1 < ls.length → (labKT ls)[1 + 4 * i + 3]? = some (3, [44])) := by
  cases ls with
  | nil => simp at h
  | cons x xs =>
    cases i with
    | zero =>
      refine ⟨by simp [labKT, bodyKT, three], by simp [labKT, bodyKT, three], by simp [labKT, bodyKT, three], fun h1 => ?_⟩
      have := (tailKT_at xs [(3, [125])] 0 (by simpa using h1)).1
      simp only [labKT, bodyKT, three, List.cons_append, List.nil_append]
      exact this
    | succ i =>
      have hi : i < xs.length := by simpa using h
      obtain ⟨a, b, c, d⟩ := tailKT_at xs [(3, [125])] i hi
      rw [show 1 + 4 * (i + 1) = 4 * i + 1 + 1 + 1 + 1 + 1 by omega]
      simp only [labKT, bodyKT, three, List.cons_append, List.nil_append, List.getElem?_cons_succ, List.getElem_cons_succ]
      refine ⟨b, c, d, fun h1 => ?_⟩
      have := (tailKT_at xs [(3, [125])] (i + 1) (by simpa using h1)).1
      rw [show 4 * i + 1 + 3 = 4 * (i + 1) by omega]
      exact this
theorem labKT_first (ls : List Lab) : (labKT ls)[0]? = some (3, [123]) := rfl
theorem labKT_last (ls : List Lab) : (labKT ls)[(labKT ls).length - 1]? = some (3, [125]) := by
  unfold labKT
  rw [List.length_cons, List.length_append, List.length_singleton]
  rw [show (bodyKT ls).length + 1 + 1 - 1 = (bodyKT ls).length + 1 by omega, List.getElem?_cons_succ]
  simp

end Lx
