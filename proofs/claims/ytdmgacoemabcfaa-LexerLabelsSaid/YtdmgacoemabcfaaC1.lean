/- The walks of same, agrees and lives: Tokens agrees with the reference at every string. -/
import Derived.Test.YtdmgacoemabcfaaB5
namespace Go.Proofs.Ytdmgacoemabcfaa
open Go.RowKit

theorem rowOf_at (ts : List Lx.Tk) (k : Nat) (hk : k < ts.length) (j : Nat) (hj : j < 4) : (rowOf ts)[k * 4 + j]? = (cellsOf ts[k]).toList[j]? := by
  induction ts generalizing k with
  | nil => simp at hk
  | cons t r ih =>
    cases k with
    | zero =>
      simp only [rowOf, List.flatMap_cons, Nat.zero_mul, Nat.zero_add, List.getElem_cons_zero]
      rw [List.getElem?_append_left (by simp [cellsOf]; omega)]
    | succ k =>
      simp only [rowOf, List.flatMap_cons, List.getElem_cons_succ]
      rw [List.getElem?_append_right (by simp [cellsOf]; omega)]
      have : (k + 1) * 4 + j - (cellsOf t).toList.length = k * 4 + j := by simp [cellsOf]; omega
      rw [this]
      exact ih k (by simpa using hk)

theorem row_cells {w : World} {B g n cap : Nat} {e : TypeId} {ts : List Lx.Tk} (h : w.ownsRow B e 4 (.slice (some ⟨g, 0, none⟩) n cap) n (rowOf ts)) (k : Nat) (hk : k < ts.length) :
    w.cell? ⟨g, k * 4, none⟩ = some (.int .i64 (ts[k].kind : Int)) ∧ w.cell? ⟨g, k * 4 + 1, none⟩ = some (.string ⟨ts[k].text.toArray⟩) ∧ w.cell? ⟨g, k * 4 + 2, none⟩ = some (.int .i64 (ts[k].n : Int)) ∧ w.cell? ⟨g, k * 4 + 3, none⟩ = some (.int .i64 (ts[k].at_ : Int)) := by
  have hc := h.cells (g := g) rfl
  have e0 := rowOf_at ts k hk 0 (by omega)
  have e1 := rowOf_at ts k hk 1 (by omega)
  have e2 := rowOf_at ts k hk 2 (by omega)
  have e3 := rowOf_at ts k hk 3 (by omega)
  have a0 := hc _ _ e0
  have a1 := hc _ _ e1
  have a2 := hc _ _ e2
  have a3 := hc _ _ e3
  have ha : ∀ j, (⟨g, 0, none⟩ : Addr).add j = ⟨g, j, none⟩ := fun j => by
    unfold Addr.add; by_cases h : j = 0 <;> simp [h]
  rw [ha] at a0 a1 a2 a3
  exact ⟨a0, a1, a2, a3⟩

theorem row_len {w : World} {B n : Nat} {e : TypeId} {v : Value} {ts : List Lx.Tk} (h : w.ownsRow B e 4 v n (rowOf ts)) : n = ts.length := by
  have h1 := h.1
  have : (rowOf ts).length = ts.length * 4 := by
    clear h1 h
    induction ts with
    | nil => rfl
    | cons t r ih => simp only [rowOf, List.flatMap_cons, List.length_append] at ih ⊢; rw [ih]; simp [cellsOf]; omega
  omega

set_option maxRecDepth 100000 in
set_option maxHeartbeats 1000000 in
theorem same_any (g1 c1 g2 c2 B1 B2 : Nat) (ts : List Lx.Tk) (hb : ts.length ≤ 2000) (w : World) (h1 : w.ownsRow B1 37 4 (.slice (some ⟨g1, 0, none⟩) ts.length c1) ts.length (rowOf ts)) (h2 : w.ownsRow B2 66 4 (.slice (some ⟨g2, 0, none⟩) ts.length c2) ts.length (rowOf ts)) :
    Calls Try.prog 25 #[.slice (some ⟨g1, 0, none⟩) ts.length c1, .slice (some ⟨g2, 0, none⟩) ts.length c2] w fun e w' => e = .returned (.bool true) ∧ ∃ n, w' = w.drewN n := by
  have HC : Hid (∀ k (hk : k < ts.length), _) := Lib.hid (row_cells h1)
  have HD : Hid (∀ k (hk : k < ts.length), _) := Lib.hid (row_cells h2)
  clear h1 h2
  go_enter Try.func25, Try.ntmps25
  go_wp2_with fail
  go_loopw [5] (fun v wr => ∃ k n : Nat, k ≤ ts.length ∧ v = .int .i64 (k : Int) ∧ wr = w.drewN n) (fun v _ => ts.length - (intOf v).toNat)
  case atStart => exact ⟨0, 0, Nat.zero_le _, rfl, rfl⟩
  case round =>
    obtain ⟨k, m, hk, rfl, rfl⟩ := hrel
    by_cases hlt : k < ts.length
    · obtain ⟨a0, a1, a2, a3⟩ := HC.out k hlt
      obtain ⟨b0, b1, b2, b3⟩ := HD.out k hlt
      generalize ts[k] = t at *
      have hkI : (k : Int) < (ts.length : Int) := by omega
      go_wp2_with fail
      go_quiet (fail)
      go_wp2_with fail
      go_roundw
      case rel => exact ⟨k + 1, m + nq, by omega, by go_num, rfl⟩
      case measure => simp [intOf]; omega
    · go_wp2_with fail
      go_ret
      exact ⟨rfl, m, rfl⟩

set_option maxRecDepth 100000 in
set_option maxHeartbeats 1000000 in
theorem same_zero (a1 a2 : Option Addr) (c1 c2 : Nat) (w : World) :
    Calls Try.prog 25 #[.slice a1 0 c1, .slice a2 0 c2] w fun e w' => e = .returned (.bool true) ∧ ∃ n, w' = w.drewN n := by
  go_enter Try.func25, Try.ntmps25
  go_wp2_with fail
  refine wp_loop_rounds 1 ?_
  rw [rounds_succ]
  go_wp2_with fail
  go_ret
  exact ⟨rfl, 0, rfl⟩

theorem same_all (B1 B2 : Nat) (v1 v2 : Value) (ts : List Lx.Tk) (hb : ts.length ≤ 2000) (w : World) (h1 : w.ownsRow B1 37 4 v1 ts.length (rowOf ts)) (h2 : w.ownsRow B2 66 4 v2 ts.length (rowOf ts)) :
    Calls Try.prog 25 #[v1, v2] w fun e w' => e = .returned (.bool true) ∧ ∃ n, w' = w.drewN n := by
  by_cases h0 : ts.length = 0
  · have f : ∀ {B : Nat} {e : TypeId} {v : Value}, w.ownsRow B e 4 v ts.length (rowOf ts) → ∃ a c, v = .slice a 0 c := fun {B e v} h => by
      rcases h.2 with ⟨rfl, _⟩ | ⟨g, cap, _, rfl, _⟩
      · exact ⟨_, _, rfl⟩
      · rw [h0]; exact ⟨_, _, rfl⟩
    obtain ⟨a1, c1, rfl⟩ := f h1
    obtain ⟨a2, c2, rfl⟩ := f h2
    exact same_zero a1 a2 c1 c2 w
  · have f : ∀ {B : Nat} {e : TypeId} {v : Value}, w.ownsRow B e 4 v ts.length (rowOf ts) → ∃ g c, v = .slice (some ⟨g, 0, none⟩) ts.length c := fun {B e v} h => by
      rcases h.2 with ⟨_, h'⟩ | ⟨g, cap, _, rfl, _⟩
      · omega
      · exact ⟨_, _, rfl⟩
    obtain ⟨g1, c1, rfl⟩ := f h1
    obtain ⟨g2, c2, rfl⟩ := f h2
    exact same_any g1 c1 g2 c2 B1 B2 ts hb w h1 h2

theorem toks_len (l : List UInt8) : (Lx.toks l).length ≤ 2000 := by
  unfold Lx.toks
  split
  · simp
  · have := Lx.lex_len l l.length 0 (by omega)
    split
    · omega
    · simp

def Agreed (w : World) (e : Ending) (w' : World) : Prop := e = .returned (.bool true) ∧ Below w.heap.size w w'

set_option maxRecDepth 100000 in
set_option maxHeartbeats 1000000 in
/-- Tokens agrees with the reference at every string -/
theorem agrees_any (s : ByteArray) (hs : s.size ≤ maxLen) (w : World) : Calls Try.prog 10 #[.string s] w (Agreed w) := by
  have hb := toks_len s.data.toList
  have HA := fun W => Lib.hid (tokens_any s hs W)
  have HR := fun W => Lib.hid (ref_any s hs W)
  unfold TokPost at HA
  unfold RefPost at HR
  have HS := fun v1 v2 B1 B2 W => Lib.hid (same_all B1 B2 v1 v2 (Lx.toks s.data.toList) hb W)
  generalize Lx.toks s.data.toList = ts at *
  generalize Lx.tokAt s.data.toList = i at *
  generalize Lx.tokErr s.data.toList = e at *
  have hi : ((i : Int) == (i : Int)) = true := by simp
  have he : ((e : Int) == (e : Int)) = true := by simp
  go_enter Try.func10, Try.ntmps10
  go_wp2_with fail
  refine (HA w).out.mono ?_
  rintro e1 w1 ⟨v1, rfl, hr1, hb1⟩
  have HR1 := Lib.hid hr1
  have HB1 := Lib.hid hb1
  clear hr1 hb1
  go_wp2_with fail
  refine (HR w1).out.mono ?_
  rintro e2 w2 ⟨v2, rfl, hr2, hb2⟩
  have HR2 := Lib.hid hr2
  have HB2 := Lib.hid hb2
  clear hr2 hb2
  go_wp2_with fail
  refine (HS v1 v2 _ _ w2).out (own_below HR1.out HB2.out) HR2.out |>.mono ?_
  rintro e3 w3 ⟨rfl, n, rfl⟩
  go_wp2_with fail
  go_ret
  have hfin : Below w.heap.size w w2 := HB1.out.trans (HB2.out.mono HB1.out.size)
  exact ⟨rfl, hfin.os, hfin.tape, hfin.output, hfin.size, hfin.block⟩

end Go.Proofs.Ytdmgacoemabcfaa
