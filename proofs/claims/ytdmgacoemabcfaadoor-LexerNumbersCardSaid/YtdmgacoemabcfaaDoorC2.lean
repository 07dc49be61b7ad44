/- Row facts, lives, Around at the Door seat (printed by door_c.py). -/
import Derived.Test.YtdmgacoemabcfaaDoorA6
import Derived.Test.YtdmgacoemabcfaaDoorH1
namespace Go.Proofs.YtdmgacoemabcfaaDoor
open Go.RowKit

theorem rowOf_at (ts : List Lx.Tk) (k : Nat) (hk : k < ts.length) (j : Nat) (hj : j < 4) : (rowOf ts)[k * 4 + j]? = (cellsOf ts[k]).toList[j]? := by
  induction ts generalizing k with
  | nil => simp at hk
  | cons t r ih =>
    cases k with
    | zero =>
      simp only [rowOf, List.flatMap_cons, Nat.zero_mul, Nat.zero_add, List.getElem_cons_zero]
      rw [List.getElem?_append_left (by simp [cellsOf]; omega)]
    | succ k =>
      simp only [rowOf, List.flatMap_cons, List.getElem_cons_succ]
      rw [List.getElem?_append_right (by simp [cellsOf]; omega)]
      have : (k + 1) * 4 + j - (cellsOf t).toList.length = k * 4 + j := by simp [cellsOf]; omega
      rw [this]
      exact ih k (by simpa using hk)

theorem row_cells {w : World} {B g n cap : Nat} {e : TypeId} {ts : List Lx.Tk} (h : w.ownsRow B e 4 (.slice (some ⟨g, 0, none⟩) n cap) n (rowOf ts)) (k : Nat) (hk : k < ts.length) :
    w.cell? ⟨g, k * 4, none⟩ = some (.int .i64 (ts[k].kind : Int)) ∧ w.cell? ⟨g, k * 4 + 1, none⟩ = some (.string ⟨ts[k].text.toArray⟩) ∧ w.cell? ⟨g, k * 4 + 2, none⟩ = some (.int .i64 (ts[k].n : Int)) ∧ w.cell? ⟨g, k * 4 + 3, none⟩ = some (.int .i64 (ts[k].at_ : Int)) := by
  have hc := h.cells (g := g) rfl
  have e0 := rowOf_at ts k hk 0 (by omega)
  have e1 := rowOf_at ts k hk 1 (by omega)
  have e2 := rowOf_at ts k hk 2 (by omega)
  have e3 := rowOf_at ts k hk 3 (by omega)
  have a0 := hc _ _ e0
  have a1 := hc _ _ e1
  have a2 := hc _ _ e2
  have a3 := hc _ _ e3
  have ha : ∀ j, (⟨g, 0, none⟩ : Addr).add j = ⟨g, j, none⟩ := fun j => by
    unfold Addr.add; by_cases h : j = 0 <;> simp [h]
  rw [ha] at a0 a1 a2 a3
  exact ⟨a0, a1, a2, a3⟩

def exA : ByteArray := ⟨#[97, 46, 107, 116, 104, 40, 51, 44, 32, 50, 41, 64, 48, 53]⟩
def exB : ByteArray := ⟨#[97, 33, 98]⟩
theorem exA_len : (Lx.toks exA.data.toList).length = 10 := by decide +kernel
theorem exA_at : (Lx.toks exA.data.toList)[9]? = some ⟨1, [48, 53], 5, 12, 14⟩ := by decide +kernel
theorem exA_err : Lx.tokErr exA.data.toList = 0 := by decide +kernel
theorem exB_err : Lx.tokErr exB.data.toList = 2 ∧ Lx.tokAt exB.data.toList = 1 := by decide +kernel

theorem tokA (w : World) : Calls Tryd.prog 7 #[.string ⟨#[97, 46, 107, 116, 104, 40, 51, 44, 32, 50, 41, 64, 48, 53]⟩] w fun e w' =>
    ∃ g c i, e = .returned (.tuple #[.slice (some ⟨g, 0, none⟩) 10 c, .int .i64 i, .int .i64 0]) ∧ (g < w'.heap.size ∧ w'.cell? ⟨g, 37, none⟩ = some (.string ⟨#[48, 53]⟩) ∧ w'.cell? ⟨g, 38, none⟩ = some (.int .i64 5) ∧ w'.cell? ⟨g, 39, none⟩ = some (.int .i64 12)) ∧ Below w.heap.size w w' := by
  refine (tokens_any exA (by unfold maxLen; decide) w).mono ?_
  rintro e w' ⟨v, rfl, hr, hb⟩
  rw [exA_err]
  have hlt : 9 < (Lx.toks exA.data.toList).length := by rw [exA_len]; omega
  have hget : (Lx.toks exA.data.toList)[9] = ⟨1, [48, 53], 5, 12, 14⟩ := by
    have := exA_at
    rw [List.getElem?_eq_getElem hlt] at this
    exact Option.some.inj this
  rcases hr.2 with ⟨_, h0⟩ | ⟨g, cap, cur, rfl, _, hgb, _⟩
  · rw [exA_len] at h0; omega
  · have hc := row_cells hr 9 hlt
    rw [hget] at hc
    refine ⟨g, cap, _, by rw [exA_len]; rfl, ⟨(Array.getElem?_eq_some_iff.1 hgb).1, hc.2.1, hc.2.2.1, hc.2.2.2⟩, hb⟩

theorem tokB (w : World) : Calls Tryd.prog 7 #[.string ⟨#[97, 33, 98]⟩] w fun e w' =>
    ∃ a n c, e = .returned (.tuple #[.slice a n c, .int .i64 1, .int .i64 2]) ∧ Below w.heap.size w w' := by
  refine (tokens_any exB (by unfold maxLen; decide) w).mono ?_
  rintro e w' ⟨v, rfl, hr, hb⟩
  rw [exB_err.1, exB_err.2]
  rcases hr.2 with ⟨rfl, _⟩ | ⟨g, cap, cur, rfl, _⟩
  · exact ⟨_, _, _, rfl, hb⟩
  · exact ⟨_, _, _, rfl, hb⟩

set_option maxRecDepth 100000 in
set_option maxHeartbeats 1000000 in
theorem lives_any (w : World) : Calls Tryd.prog 8 #[] w (Told true w) := by
  go_enter Tryd.func8, Tryd.ntmps8
  go_wp2_with fail
  refine (tokA w).mono ?_
  rintro e1 w1 ⟨g, c, i, rfl, ⟨hg, k1, k2, k3⟩, hb1⟩
  have HB1 := Lib.hid hb1
  clear hb1
  go_wp2_with fail
  refine (tokB w1).mono ?_
  rintro e2 w2 ⟨a2, n2, c2, rfl, hb2⟩
  have l1 := (hb2.cell (p := ⟨g, 37, none⟩) hg).trans k1
  have l2 := (hb2.cell (p := ⟨g, 38, none⟩) hg).trans k2
  have l3 := (hb2.cell (p := ⟨g, 39, none⟩) hg).trans k3
  have HB2 := Lib.hid hb2
  clear hb2 k1 k2 k3
  go_wp2_with fail
  go_ret
  exact ⟨rfl, HB1.out.trans (HB2.out.mono HB1.out.size)⟩

/-- Around: n modulo most, never negative -/
def around (n m : Int) : Int := (if n < 0 then -(n + 1) else n) % m
theorem around_ge (n m : Int) (hm : 0 < m) : 0 ≤ around n m := Int.emod_nonneg _ (by omega)
theorem around_lt (n m : Int) (hm : 0 < m) : around n m < m := Int.emod_lt_of_pos _ hm

theorem around_any (n m : Int) (h1 : -9223372036854775808 ≤ n) (h2 : n ≤ 9223372036854775807) (hm : 0 < m) (hm2 : m ≤ 9223372036854775807) (w : World) :
    Calls Tryd.prog 4 #[.int .i64 n, .int .i64 m] w fun e w' => e = .returned (.int .i64 (around n m)) ∧ w = w' := by
  have H : Hid (around n m = (if n < 0 then -(n + 1) else n) % m) := Lib.hid rfl
  by_cases h : n < 0
  · have hne : (m == 0) = false := by simp; omega
    go_enter Tryd.func4, Tryd.ntmps4
    go_wp2
    go_ret
    exact ⟨ret_int (by rw [H.out, if_pos (by omega), ← Int.neg_tmod, Int.tmod_eq_emod_of_nonneg (by omega)]), rfl⟩
  · have hne : (m == 0) = false := by simp; omega
    go_enter Tryd.func4, Tryd.ntmps4
    go_wp2
    go_ret
    exact ⟨ret_int (by rw [H.out, if_neg (by omega)]), rfl⟩

end Go.Proofs.YtdmgacoemabcfaaDoor
