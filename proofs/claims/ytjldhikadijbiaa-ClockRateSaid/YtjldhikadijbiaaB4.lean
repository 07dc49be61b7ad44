/- Rows of exchanges; the walk of few. -/
import Derived.Test.YtjldhikadijbiaaB3
import Derived.Laws.AppendOwnNone
namespace Go.Proofs.Ytjldhikadijbiaa
open Go.RowKit

def exCells : List Ck.Ex → List Value
  | [] => []
  | x :: xs => .int .i64 x.send :: .int .i64 x.recv :: .int .i64 x.reading :: exCells xs
theorem exCells_length : ∀ l, (exCells l).length = l.length * 3
  | [] => rfl
  | x :: xs => by simp only [exCells, List.length_cons, exCells_length xs]; omega
theorem exCells_append : ∀ a b, exCells (a ++ b) = exCells a ++ exCells b
  | [], b => rfl
  | x :: xs, b => by simp only [List.cons_append, exCells, exCells_append xs b]
theorem exCells_one : ∀ l, ∀ u ∈ exCells l, u.oneCell' = true
  | [] => by simp [exCells]
  | x :: xs => by
    intro u hu
    simp only [exCells, List.mem_cons] at hu
    rcases hu with rfl | rfl | rfl | hu
    · rfl
    · rfl
    · rfl
    · exact exCells_one xs u hu
theorem exCells_at : ∀ (l : List Ck.Ex) (i : Nat) (h : i < l.length), (exCells l)[i * 3]? = some (.int .i64 l[i].send) ∧ (exCells l)[i * 3 + 1]? = some (.int .i64 l[i].recv) ∧ (exCells l)[i * 3 + 2]? = some (.int .i64 l[i].reading) := by
  intro l
  induction l with
  | nil => intro i h; simp at h
  | cons x xs ih =>
    intro i h
    cases i with
    | zero => simp [exCells]
    | succ i =>
      have := ih i (by simpa using h)
      rw [show (i + 1) * 3 = i * 3 + 3 by omega]
      simp only [exCells]
      exact this

theorem Exs.of_own {w : World} {base n c : Nat} {A : Option Addr} {l : List Ck.Ex} (h : w.ownsRow base 51 3 (.slice A n c) n (exCells l)) (hn : l.length = n) (hi : ∀ x ∈ l, i64 x.send ∧ i64 x.recv ∧ i64 x.reading) : Exs w w.heap.size A l := by
  refine ⟨hi, fun hp => ?_⟩
  rcases h.2 with ⟨_, h0⟩ | ⟨g, cap, cur, hv, _, hb, _⟩
  · omega
  · injection hv with hA hB hC
    subst hA
    refine ⟨g, 0, rfl, (Array.getElem?_eq_some_iff.1 hb).1, fun i hil => ?_⟩
    have hh : w.ownsRow base 51 3 (.slice (some ⟨g, 0, none⟩) n c) n (exCells l) := h
    obtain ⟨a1, a2, a3⟩ := exCells_at l i hil
    rw [Nat.zero_add]
    exact ⟨(hh.cellAt (i * 3) (by omega)).trans a1, (hh.cellAt (i * 3 + 1) (by omega)).trans a2, (hh.cellAt (i * 3 + 2) (by omega)).trans a3⟩

theorem add_none (b off j : Nat) : (⟨b, off, none⟩ : Addr).add j = ⟨b, off + j, none⟩ := by
  unfold Addr.add; by_cases h : j = 0 <;> simp [h]

theorem Exs.news {w : World} {B : Nat} {ad : Addr} {l : List Ck.Ex} (h : Exs w B (some ad) l) : ∀ j u, (exCells l)[j]? = some u → w.cell? (ad.add j) = some u := by
  intro j u hu
  have hj : j < (exCells l).length := by
    rcases Nat.lt_or_ge j (exCells l).length with h' | h'
    · exact h'
    · rw [List.getElem?_eq_none h'] at hu; cases hu
  rw [exCells_length] at hj
  obtain ⟨b, off, e, _, hc⟩ := h.2 (by omega)
  injection e with e
  subst e
  obtain ⟨a1, a2, a3⟩ := exCells_at l (j / 3) (by omega)
  obtain ⟨c1, c2, c3⟩ := hc (j / 3) (by omega)
  rw [add_none]
  rcases (show j % 3 = 0 ∨ j % 3 = 1 ∨ j % 3 = 2 by omega) with h3 | h3 | h3
  · rw [show j / 3 * 3 = j by omega] at a1
    rw [a1] at hu
    rw [← hu, ← c1]; congr 2; omega
  · rw [show j / 3 * 3 + 1 = j by omega] at a2
    rw [a2] at hu
    rw [← hu, ← c2]; congr 2; omega
  · rw [show j / 3 * 3 + 2 = j by omega] at a3
    rw [a3] at hu
    rw [← hu, ← c3]; congr 2; omega
theorem Exs.take {w : World} {B : Nat} {A : Option Addr} {l : List Ck.Ex} (h : Exs w B A l) (k : Nat) : Exs w B A (l.take k) := by
  refine ⟨fun x hx => h.1 x (List.mem_of_mem_take hx), fun hp => ?_⟩
  obtain ⟨b, off, e, hb, hc⟩ := h.2 (by rw [List.length_take] at hp; omega)
  refine ⟨b, off, e, hb, fun i hi => ?_⟩
  rw [List.length_take] at hi
  have := hc i (by omega)
  rw [List.getElem_take]
  exact this

/-- a slice of exchanges that came in -/
def InEx (w : World) (A : Option Addr) (cap : Nat) (l : List Ck.Ex) : Prop :=
  Exs w w.heap.size A l ∧ ((A = none ∧ l.length = 0 ∧ cap = 0) ∨ ∃ ad, A = some ad ∧ l.length ≤ cap ∧ cap ≤ maxLen)

theorem info51 : (Try.prog.info? 51).map (fun i => (i.zero, i.size, i.bytes)) = some (some (.agg #[.int .i64 0, .int .i64 0, .int .i64 0]), 3, 24) := by kernel_rfl

/-- a copy in new memory -/
def Copied (l : List Ck.Ex) (w : World) (e : Ending) (w' : World) : Prop :=
  ∃ A c, e = .returned (.slice A l.length c) ∧ Exs w' w'.heap.size A l ∧ Below w.heap.size w w'

set_option maxHeartbeats 1000000 in
theorem few_any (A : Option Addr) (cap : Nat) (l : List Ck.Ex) (w : World) (hx : InEx w A cap l) :
    Calls Try.prog 26 #[.slice A l.length cap] w (Copied (l.take 16) w) := by
  obtain ⟨i0, hi, hz0, hz1, hz2⟩ := info_parts info51
  obtain ⟨hX, hs⟩ := hx
  rcases hs with ⟨rfl, h0, rfl⟩ | ⟨ad, rfl, hc, hm⟩
  · have hl : l = [] := List.length_eq_zero_iff.1 h0
    subst hl
    clear h0
    have HX := Lib.hid hX
    clear hX
    go_enter Try.func26, Try.ntmps26
    go_wp2_with (at_builtin; refine wpList_append_own_none _ rfl _ _ 23 rfl w.heap.size 51 i0 3 Try.underlying23 hi (.slice none 0 0) 0 [] rfl ⟨rfl, .inl ⟨rfl, rfl⟩⟩ rfl ?_)
    go_ret
    exact ⟨none, 0, rfl, HX.out.take 16, Below.refl _ _⟩
  · unfold maxLen at hm
    have hT := hX.take 16
    have HN := Lib.hid hT.news
    have HI := Lib.hid hT.1
    have HLen := Lib.hid (exCells_length (l.take 16))
    have HOne := Lib.hid (exCells_one (l.take 16))
    have htl : (l.take 16).length = min 16 l.length := List.length_take ..
    have HTL := Lib.hid htl
    clear hT hX
    generalize l.take 16 = t at *
    by_cases h16 : 16 < l.length
    · have ht : t.length = 16 := by omega
      have HT := Lib.hid ht
      rw [ht] at HLen
      clear ht htl
      go_enter Try.func26, Try.ntmps26
      go_wp2_with (at_builtin; refine wpList_append_own _ rfl _ _ 23 rfl w.heap.size 51 i0 _ 3 24 Try.underlying23 hi hz0 hz1 hz2 rfl (by decide) (.slice none 0 0) 0 [] rfl ⟨rfl, .inl ⟨rfl, rfl⟩⟩ ad 16 cap (exCells t) rfl HLen.out HN.out HOne.out (by unfold maxLen; omega) (by omega) (Nat.le_refl _) ?_; intro v' w1 hown' hgrow _; have HO := Lib.hid hown'; have HG := Lib.hid hgrow; clear hown' hgrow)
      go_ret
      have hb : Below w.heap.size w w1 := (Below.refl _ w).grown HG.out (Nat.le_refl _) (by simp [Value.ownBlock])
      have ho := HO.out
      simp only [Nat.zero_add, List.nil_append] at ho
      rcases ho.2 with ⟨_, h⟩ | ⟨g, cp, cur, hv, _⟩
      · omega
      · subst hv
        exact ⟨_, cp, by rw [HT.out]; rfl, Exs.of_own ho HT.out HI.out, hb⟩
    · have ht : t.length = l.length := by omega
      have HT := Lib.hid ht
      rw [ht] at HLen
      clear ht htl
      go_enter Try.func26, Try.ntmps26
      go_wp2_with (at_builtin; refine wpList_append_own _ rfl _ _ 23 rfl w.heap.size 51 i0 _ 3 24 Try.underlying23 hi hz0 hz1 hz2 rfl (by decide) (.slice none 0 0) 0 [] rfl ⟨rfl, .inl ⟨rfl, rfl⟩⟩ ad l.length cap (exCells t) rfl HLen.out HN.out HOne.out (by unfold maxLen; omega) (by omega) (Nat.le_refl _) ?_; intro v' w1 hown' hgrow _; have HO := Lib.hid hown'; have HG := Lib.hid hgrow; clear hown' hgrow)
      go_ret
      have hb : Below w.heap.size w w1 := (Below.refl _ w).grown HG.out (Nat.le_refl _) (by simp [Value.ownBlock])
      have ho := HO.out
      simp only [Nat.zero_add, List.nil_append] at ho
      have hex : ∃ A c, v' = .slice A l.length c := by
        rcases ho.2 with ⟨rfl, h⟩ | ⟨g, cp, cur, hv, _⟩
        · exact ⟨none, 0, by rw [h]⟩
        · exact ⟨_, _, hv⟩
      obtain ⟨A', c', rfl⟩ := hex
      exact ⟨_, c', by rw [HT.out]; rfl, Exs.of_own ho HT.out HI.out, hb⟩

end Go.Proofs.Ytjldhikadijbiaa
