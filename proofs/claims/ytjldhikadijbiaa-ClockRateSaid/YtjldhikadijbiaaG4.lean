/- ClockNarrows: the plain lemmas, and the copy without one exchange. -/
import Derived.Test.YtjldhikadijbiaaG3
import Derived.Deep.RegionLaw
namespace Go.Proofs.Ytjldhikadijbiaa
open Go.RowKit

/-- append onto an owned row, at a step of a region that draws its order -/
theorem step_append_own {P : Program} (w : World) {ops : Array Oper} {o : Oper} {a : Act} {K : Act → World → Prop} {Q : Exit → Act → World → Prop} {E : Prop} (hgd : o.guard = none) (s x : Operand) (t : TypeId)
    (ho : o.op = .call { callee := .builtin .append, args := #[s, x], argTypes := #[t, t] })
    (base : Nat) (e : TypeId) (i : TypeInfo) (z : Value) (size bytes : Nat) (ht : P.underlying t = some (.slice e)) (hi : P.info? e = some i) (hz : i.zero = some z)
    (hsize : i.size = size) (hby : i.bytes = bytes) (hzs : z.cells.size = size) (hsz : 0 < size)
    (v : Value) (n : Nat) (xs : List Value) (hs : a.eval s = v) (hown : w.ownsRow base e size v n xs)
    (ad : Addr) (m c : Nat) (news : List Value) (hx : a.eval x = .slice (some ad) m c) (hl : news.length = m * size) (hnews : ∀ j u, news[j]? = some u → w.cell? (ad.add j) = some u) (h1 : ∀ u ∈ news, u.oneCell' = true)
    (h63 : n + m ≤ maxLen) (hbytes : (n + m) * bytes ≤ 140737488355328) (hbase : base ≤ w.heap.size)
    (h : ∀ v' w', w'.ownsRow base e size v' (n + m) (xs ++ news) → w.grownBy w' v.ownBlock → K (a.put o.dst v') w') :
    if Region.wanted o (yielded ops a.tmps) = true then Oper.wp P o a w K Q else E := by
  have hw : Region.wanted o (yielded ops a.tmps) = true := by simp [Region.wanted, hgd]
  rw [if_pos hw]
  exact wp_append_own w s x t ho base e i z size bytes ht hi hz hsize hby hzs hsz v n xs hs hown ad m c news hx hl hnews h1 h63 hbytes hbase (fun v' w' h2 h3 _ => h v' w' h2 h3)

theorem exCells_set : ∀ (xs : List Ck.Ex) (k : Nat) (s r : Int) (h : k < xs.length),
    ((exCells xs).set (k * 3) (.int .i64 s)).set (k * 3 + 1) (.int .i64 r) = exCells (xs.set k ⟨s, r, xs[k].reading⟩) := by
  intro xs
  induction xs with
  | nil => intro k s r h; simp at h
  | cons x xs ih =>
    intro k s r h
    cases k with
    | zero => simp [exCells]
    | succ k =>
      have := ih k s r (by simpa using h)
      rw [show (k + 1) * 3 = k * 3 + 1 + 1 + 1 by omega]
      simp only [exCells, List.set_cons_succ, List.getElem_cons_succ]
      rw [this]

/-- the exchanges without number k; with number k widened -/
theorem made_without {d : Int} {rs : List Int} {xs : List Ck.Ex} (h : Ck.Made d rs 43 xs) (k : Nat) (hk : k < xs.length) (h1 : 1 < xs.length) (t : Nat) (ht : t < 40) :
    (Ck.ticks d xs (rs.getD t 0)).2.2 = 0 ∧ (Ck.ticks d (xs.take k ++ xs.drop (k + 1)) (rs.getD t 0)).2.2 = 0 ∧ (Ck.ticks d (xs.take k ++ xs.drop (k + 1)) (rs.getD t 0)).1 ≤ (Ck.ticks d xs (rs.getD t 0)).1 ∧ (Ck.ticks d xs (rs.getD t 0)).2.1 ≤ (Ck.ticks d (xs.take k ++ xs.drop (k + 1)) (rs.getD t 0)).2.1 := by
  have hs : ∀ y ∈ xs.take k ++ xs.drop (k + 1), y ∈ xs := fun y hy => by
    rcases List.mem_append.1 hy with h' | h'
    · exact List.mem_of_mem_take h'
    · exact List.mem_of_mem_drop h'
  have hle := h.le
  exact h.wider (h.without _ hs (by simp; omega) (by simp; omega)) (fun t r hf y hy => hf y (hs y hy)) t ht
theorem made_wider {d : Int} {rs : List Int} {xs : List Ck.Ex} (h : Ck.Made d rs 43 xs) (k : Nat) (hk : k < xs.length) (a b : Int) (a0 : 0 ≤ a) (b0 : 0 ≤ b) (b1 : b ≤ 3) :
    Ck.Made d rs 46 (xs.set k ⟨max 0 (xs[k].send - a), xs[k].recv + b, xs[k].reading⟩) ∧
    ∀ t r : Int, (∀ x ∈ xs, Ck.Fits d t r x) → ∀ y ∈ xs.set k ⟨max 0 (xs[k].send - a), xs[k].recv + b, xs[k].reading⟩, Ck.Fits d t r y := by
  have hx := h.ex _ (List.getElem_mem hk)
  have hx' := hx
  obtain ⟨u, h1, h2, h3, h4, h5, h6⟩ := hx'
  refine ⟨⟨h.d0, h.d1, h.len, h.small, h.good, by rw [List.length_set]; exact h.ne, by rw [List.length_set]; exact h.le, fun y hy => ?_, by omega⟩, fun t r hf y hy => ?_⟩
  · rcases List.mem_or_eq_of_mem_set hy with h' | h'
    · obtain ⟨u, g1, g2, g3, g4, g5, g6⟩ := h.ex y h'
      exact ⟨u, g1, g2, g3, g4, by omega, g6⟩
    · subst h'
      exact Ck.goodX_wider rs 43 46 xs[k] _ rfl (by simp only; omega) (by simp only; omega) (by simp only; omega) (by simp only; omega) hx
  · rcases List.mem_or_eq_of_mem_set hy with h' | h'
    · exact hf y h'
    · subst h'
      exact Ck.fits_wider d t r xs[k] _ h.d0 h.d1 rfl (by simp only; omega) (by simp only; omega) (hf _ (List.getElem_mem hk))
theorem made_drift {d d' : Int} {rs : List Int} {xs : List Ck.Ex} (h : Ck.Made d rs 43 xs) (h1 : d ≤ d') (h2 : d' ≤ 512) (t : Nat) (ht : t < 40) :
    (Ck.ticks d xs (rs.getD t 0)).2.2 = 0 ∧ (Ck.ticks d' xs (rs.getD t 0)).2.2 = 0 ∧ (Ck.ticks d' xs (rs.getD t 0)).1 ≤ (Ck.ticks d xs (rs.getD t 0)).1 ∧ (Ck.ticks d xs (rs.getD t 0)).2.1 ≤ (Ck.ticks d' xs (rs.getD t 0)).2.1 :=
  h.wider (h.drift h1 h2) (fun t r hf y hy => Ck.fits_drift d d' t r y h1 (hf y hy)) t ht

end Go.Proofs.Ytjldhikadijbiaa
