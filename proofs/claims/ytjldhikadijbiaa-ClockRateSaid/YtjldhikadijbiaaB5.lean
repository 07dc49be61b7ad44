/- A slice of exchanges, or of ints, that came in, as the walks want it. -/
import Derived.Test.YtjldhikadijbiaaB4
import Derived.Deep.Slices
import Derived.Deep.Fields
import Derived.ChangeSame
namespace Go.Proofs.Ytjldhikadijbiaa
open Go.RowKit Go.ChangeShapes Go.WideShapes Go.Deep

theorem list_of {α : Type} (P : Nat → α → Prop) : ∀ n : Nat, (∀ i, i < n → ∃ x, P i x) → ∃ l : List α, l.length = n ∧ ∀ i (h : i < l.length), P i l[i] := by
  intro n
  induction n with
  | zero => intro _; exact ⟨[], rfl, fun i h => by simp at h⟩
  | succ n ih =>
    intro h
    obtain ⟨l, hl, hp⟩ := ih (fun i hi => h i (by omega))
    obtain ⟨x, hx⟩ := h n (by omega)
    refine ⟨l ++ [x], by simp [hl], fun i hi => ?_⟩
    rcases Nat.lt_or_ge i l.length with h' | h'
    · rw [List.getElem_append_left h']
      exact hp i h'
    · have e : i = l.length := by simp at hi; omega
      subst e
      rw [List.getElem_append_right (Nat.le_refl _)]
      simp only [Nat.sub_self, List.getElem_cons_zero]
      rw [hl]; exact hx

theorem cell_lt {w : World} {b off : Nat} {v : Value} (h : w.cell? ⟨b, off, none⟩ = some v) : b < w.heap.size := by
  rcases Nat.lt_or_ge b w.heap.size with hlt | hge
  · exact hlt
  · unfold World.cell? at h; simp [Array.getElem?_eq_none hge] at h
theorem wf_i64 {n : Int} (h : (Lit.int .i64 n).wf = true) : i64 n := by
  simpa [Lit.wf, IntKind.min, IntKind.max, IntKind.signed, IntKind.bits, i64] using h

section
variable {H : Type} {enc : TypeId × Value → H} {W : World} {base : Nat} {spare : Nat → Bool} {held : Bool}
theorem open_three {n : Nat} {cs : List Value} {y : DataW H × List MemPlace} (h : DataW.trod enc Try.prog W base spare held n 51 cs = some y) :
    ∃ s r g, cs = [.int .i64 s, .int .i64 r, .int .i64 g] ∧ i64 s ∧ i64 r ∧ i64 g := by
  obtain ⟨xs, n', _, _, hlen, hxl, hf⟩ := DataW.trod_struct Try.underlying51 h
  rw [show Try.prog.cellsOf 51 = 3 by kernel_rfl] at hlen
  match cs, hlen with
  | [c0, c1, c2], _ =>
    have g0 : DataW.trod enc Try.prog W base spare held n' 3 (List.take (Try.prog.cellsOf 3) (List.drop 0 [c0, c1, c2])) = xs[0]? := hf 0 _ rfl
    have g1 : DataW.trod enc Try.prog W base spare held n' 3 (List.take (Try.prog.cellsOf 3) (List.drop 1 [c0, c1, c2])) = xs[1]? := hf 1 _ rfl
    have g2 : DataW.trod enc Try.prog W base spare held n' 3 (List.take (Try.prog.cellsOf 3) (List.drop 2 [c0, c1, c2])) = xs[2]? := hf 2 _ rfl
    rw [show Try.prog.cellsOf 3 = 1 by kernel_rfl] at g0 g1 g2
    match xs, hxl with
    | [y0, y1, y2], _ =>
      obtain ⟨s, e0, _, k0⟩ := DataW.trod_int Try.underlying3 g0
      obtain ⟨r, e1, _, k1⟩ := DataW.trod_int Try.underlying3 g1
      obtain ⟨g, e2, _, k2⟩ := DataW.trod_int Try.underlying3 g2
      simp at e0 e1 e2
      exact ⟨s, r, g, by rw [e0, e1, e2], wf_i64 k0, wf_i64 k1, wf_i64 k2⟩

theorem open_exs {fuel len cap : Nat} {A : Option Addr} {x : DataW H × List MemPlace} (h : DataW.trod enc Try.prog W base spare held fuel 23 [.slice A len cap] = some x) :
    ∃ l : List Ck.Ex, l.length = len ∧ InEx W A cap l := by
  rcases open_slice Try.underlying23 h with ⟨hcs, _⟩ | ⟨a, len', cap', m, n, D, Pl, hcs, hb, hl, hm, hmm, hx, hi⟩
  · simp at hcs
    obtain ⟨rfl, rfl, rfl⟩ := hcs
    exact ⟨[], rfl, ⟨by simp, fun h => by simp at h⟩, .inl ⟨rfl, rfl, rfl⟩⟩
  · simp at hcs
    obtain ⟨rfl, rfl, rfl⟩ := hcs
    have hlm : len ≤ m := by rw [hmm]; split <;> omega
    rw [show Try.prog.cellsOf 51 = 3 by kernel_rfl] at hi
    obtain ⟨l, hll, hp⟩ := list_of (fun i (x : Ck.Ex) => (i64 x.send ∧ i64 x.recv ∧ i64 x.reading) ∧ W.cell? (a.add (i * 3)) = some (.int .i64 x.send) ∧ W.cell? (a.add (i * 3 + 1)) = some (.int .i64 x.recv) ∧ W.cell? (a.add (i * 3 + 2)) = some (.int .i64 x.reading)) len (fun i hil => by
      obtain ⟨cs', hc, ht⟩ := hi i (by omega)
      obtain ⟨s, r, g, rfl, k0, k1, k2⟩ := open_three ht
      obtain ⟨_, _, hat⟩ := World.cells?_some hc
      have a0 := hat 0 (by omega)
      have a1 := hat 1 (by omega)
      have a2 := hat 2 (by omega)
      rw [Go.Deep.add_add] at a0 a1 a2
      exact ⟨⟨s, r, g⟩, ⟨k0, k1, k2⟩, by simpa using a0, by simpa using a1, by simpa using a2⟩)
    refine ⟨l, hll, ⟨fun x hx => ?_, fun hn => ?_⟩, .inr ⟨a, rfl, by omega, hm⟩⟩
    · obtain ⟨i, hi', rfl⟩ := List.getElem_of_mem hx
      exact (hp i hi').1
    · obtain ⟨b, off, spot⟩ := a
      have hc := (hp 0 hn).2.1
      have hspot : spot = none := by simpa [Addr.add] using World.cell?_spot hc
      subst hspot
      rw [add_none] at hc
      refine ⟨b, off, rfl, cell_lt hc, fun i hi' => ?_⟩
      obtain ⟨_, c0, c1, c2⟩ := hp i hi'
      rw [add_none] at c0 c1 c2
      exact ⟨c0, c1, c2⟩

/-- a slice of ints that came in -/
def InInts (w : World) (A : Option Addr) (cap : Nat) (l : List Int) : Prop :=
  Ints w w.heap.size A l ∧ ((A = none ∧ l.length = 0 ∧ cap = 0) ∨ ∃ ad, A = some ad ∧ l.length ≤ cap ∧ cap ≤ maxLen)

theorem open_intsW {fuel len cap : Nat} {A : Option Addr} {x : DataW H × List MemPlace} (h : DataW.trod enc Try.prog W base spare held fuel 22 [.slice A len cap] = some x) :
    ∃ l : List Int, l.length = len ∧ InInts W A cap l := by
  rcases open_ints Try.underlying22 Try.underlying3 (by kernel_rfl) h with ⟨hcs, _⟩ | ⟨a, l', c', zs, hcs, _, hl, hm, hz, _, hcell, hwz⟩
  · simp at hcs
    obtain ⟨rfl, rfl, rfl⟩ := hcs
    exact ⟨[], rfl, ⟨by simp, fun h => by simp at h⟩, .inl ⟨rfl, rfl, rfl⟩⟩
  · simp at hcs
    obtain ⟨rfl, rfl, rfl⟩ := hcs
    have hlm : len ≤ zs.length := by rw [hz]; split <;> omega
    refine ⟨zs.take len, by simp; omega, ⟨fun z hz' => wf_i64 (hwz z (List.mem_of_mem_take hz')), fun hn => ?_⟩, .inr ⟨a, rfl, by simp; omega, hm⟩⟩
    have hn' : 0 < len := by rw [List.length_take] at hn; omega
    obtain ⟨b, off, spot⟩ := a
    have hc := hcell 0 (by omega)
    have hspot : spot = none := by simpa [Addr.add] using World.cell?_spot hc
    subst hspot
    rw [add_none] at hc
    refine ⟨b, off, rfl, cell_lt hc, fun i hi => ?_⟩
    rw [List.length_take] at hi
    have := hcell i (by omega)
    rw [add_none, List.getD_eq_getElem?_getD, List.getElem?_eq_getElem (by omega)] at this
    rw [List.getElem_take]
    exact this
end

end Go.Proofs.Ytjldhikadijbiaa
