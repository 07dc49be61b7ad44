/- The words for the lexer's memory, and the walks of word, number, text, symbol. -/
import Derived.Test.YtdmgacoemabcfaaDoorA1
import Derived.RegionTactic
import Derived.ChangeAlike
import Derived.BigRegion
import Derived.Deep.QuietTactic
import Derived.BigQuiet
import Derived.Deep.Draws
import Derived.Laws.OwnMore
import Derived.Laws.Rows
namespace Go.Proofs.YtdmgacoemabcfaaDoor
open Go.RowKit

theorem only_drewN {a w : World} {row : Option Nat} (h : a.grownBy w row) (n : Nat) : a.grownBy (w.drewN n) row := ⟨h.os, h.tape, h.output, h.size, h.block⟩
theorem only_drew {a w : World} {row : Option Nat} (h : a.grownBy w row) : a.grownBy w.drew row := ⟨h.os, h.tape, h.output, h.size, h.block⟩
theorem only_alloc {a w : World} {row : Option Nat} (h : a.grownBy w row) (o : Obj) : a.grownBy (w.alloc o) row :=
  ⟨h.os, h.tape, h.output, Nat.le_trans h.size (by simp), fun i hi hne => (Below.heap_alloc w o i (Nat.lt_of_lt_of_le hi h.size)).trans (h.block i hi hne)⟩
theorem only_setCell {a w : World} {g : Nat} (h : a.grownBy w (some g)) {p : Addr} (hp : p.block = g ∨ a.heap.size ≤ p.block) (u : Value) : a.grownBy (w.setCell p u) (some g) :=
  ⟨h.os, h.tape, h.output, by simpa [World.setCell] using h.size, fun i hi hne => (Below.heap_setCell w p u i (by
    rintro rfl
    rcases hp with hp | hp
    · exact hne (by rw [hp])
    · omega)).trans (h.block i hi hne)⟩
theorem only_refl (w : World) (row : Option Nat) : w.grownBy w row := ⟨rfl, rfl, rfl, Nat.le_refl _, fun _ _ _ => rfl⟩

/-- a block that is known whole -/
def Blk (w : World) (g : Nat) (t : TypeId) (cs : Array Value) : Prop := w.heap[g]? = some (.cells cs t (0, 0))
section
variable {w w' : World} {g : Nat} {t : TypeId} {cs : Array Value}
theorem Blk.lt (h : Blk w g t cs) : g < w.heap.size := by
  rcases Nat.lt_or_ge g w.heap.size with hlt | hge
  · exact hlt
  · unfold Blk at h; rw [Array.getElem?_eq_none hge] at h; cases h
theorem Blk.cell (h : Blk w g t cs) (i : Nat) : w.cell? ⟨g, i, none⟩ = cs[i]? := cell_of_row w g i cs t (0, 0) h
theorem Blk.frozen (h : Blk w g t cs) (i : Nat) : w.frozen? ⟨g, i, none⟩ = false := by
  unfold Blk at h
  simp [World.frozen?, h]
theorem Blk.new (w : World) (t : TypeId) (cs : Array Value) : Blk (w.alloc (.cells cs t)) w.heap.size t cs := heap_alloc_new w _
theorem Blk.drew (h : Blk w g t cs) : Blk w.drew g t cs := h
theorem Blk.drewN (h : Blk w g t cs) (n : Nat) : Blk (w.drewN n) g t cs := h
theorem Blk.alloc (h : Blk w g t cs) (o : Obj) : Blk (w.alloc o) g t cs := (Below.heap_alloc w o g h.lt).trans h
theorem Blk.set_ (h : Blk w g t cs) (i : Nat) (u : Value) : Blk (w.setCell ⟨g, i, none⟩ u) g t (cs.setIfInBounds i u) := by
  unfold Blk at h ⊢
  simp [World.setCell, Array.getElem?_modify, h]
theorem Blk.far (h : Blk w g t cs) {p : Addr} (hp : g ≠ p.block) (u : Value) : Blk (w.setCell p u) g t cs := (Below.heap_setCell w p u g hp).trans h
theorem Blk.grown {row : Option Nat} (h : Blk w g t cs) (hb : w.grownBy w' row) (hg : some g ≠ row) : Blk w' g t cs := (hb.block g h.lt hg).trans h
end

/-- the source behind q: its text, the offset, the error -/
def Src (w : World) (Q : Nat) (s : ByteArray) (i e : Nat) : Prop := Blk w Q 41 #[.string s, .int .i64 i, .int .i64 e]

/-- what a lexer's method leaves: only block Q, and what is new, has turned -/
def Left (w : World) (Q : Nat) (s : ByteArray) (i e : Nat) (w' : World) : Prop := w.grownBy w' (some Q) ∧ Src w' Q s i e

def tokVal (k : Nat) (x : ByteArray) (n i : Nat) : Value := .agg #[.int .i64 k, .string x, .int .i64 n, .int .i64 i]

theorem int_eq {k : IntKind} {a b : Int} (h : a = b) : Value.int k a = .int k b := by rw [h]

set_option maxHeartbeats 1000000 in
theorem word_any (Q : Nat) (s : ByteArray) (i : Nat) (hs : s.size ≤ maxLen) (hi : i ≤ s.size) (w : World) (hQ : Src w Q s i 0) :
    Calls Tryd.prog 16 #[.pointer (some ⟨Q, 0, none⟩)] w fun e w' => e = .returned (tokVal 0 (s.extract i (Lx.stop Lx.wordc s.data.toList i)) 0 i) ∧
      Left w Q s i (if 16 < Lx.stop Lx.wordc s.data.toList i - i then 4 else 0) w' := by
  have h0 : w.cell? ⟨Q, 0, none⟩ = some (.string s) := hQ.cell 0
  have h1 : w.cell? ⟨Q, 1, none⟩ = some (.int .i64 i) := hQ.cell 1
  have h2 : w.cell? ⟨Q, 2, none⟩ = some (.int .i64 (0 : Nat)) := hQ.cell 2
  have hf := hQ.frozen 2
  have hlt := hQ.lt
  have b1 := Lx.stop_ge Lx.wordc s.data.toList i
  have b2 := Lx.stop_le Lx.wordc s.data.toList i (by simpa using hi)
  have b3 : s.data.toList.length = s.size := by simp
  rw [b3] at b2
  have HQ := Lib.hid hQ
  clear hQ
  generalize hE : Lx.stop Lx.wordc s.data.toList i = e1 at *
  have HE := Lib.hid hE
  clear hE b3
  unfold maxLen at hs
  by_cases hl : 16 < e1 - i
  · go_enter Tryd.func16, Tryd.ntmps16
    go_wp2_with (go_at_call 22; refine (run_wordc _ s i (by unfold maxLen; omega) hi _ (by exact (World.cell?_alloc_lt _ _ _ hlt).trans h0)).mono ?_; rw [HE.out]; rintro e w' ⟨rfl, rfl⟩)
    go_region
    go_wp2
    refine bodyPost_ret (v := tokVal 0 (s.extract i e1) 0 i) (by simp [results, Tryd.results16, go_sem, tokVal]) rfl ⟨rfl, ?_⟩
    exact ⟨only_drew (only_alloc (only_setCell (only_refl w _) (.inl rfl) _) _), ((HQ.out.set_ 2 _).alloc _).drew⟩
  · go_enter Tryd.func16, Tryd.ntmps16
    go_wp2_with (go_at_call 22; refine (run_wordc _ s i (by unfold maxLen; omega) hi _ (by exact (World.cell?_alloc_lt _ _ _ hlt).trans h0)).mono ?_; rw [HE.out]; rintro e w' ⟨rfl, rfl⟩)
    go_region
    go_wp2
    refine bodyPost_ret (v := tokVal 0 (s.extract i e1) 0 i) (by simp [results, Tryd.results16, go_sem, tokVal]) rfl ⟨rfl, ?_⟩
    exact ⟨only_drew (only_alloc (only_refl w _) _), (HQ.out.alloc _).drew⟩

set_option maxHeartbeats 2000000 in
theorem number_any (Q : Nat) (s : ByteArray) (i : Nat) (hs : s.size ≤ maxLen) (hi : i ≤ s.size) (w : World) (hQ : Src w Q s i 0) :
    Calls Tryd.prog 18 #[.pointer (some ⟨Q, 0, none⟩)] w fun e w' => e = .returned (tokVal 1 (s.extract i (Lx.stop Lx.digit s.data.toList i)) (Lx.numv (Lx.sub s.data.toList i (Lx.stop Lx.digit s.data.toList i))) i) ∧
      Left w Q s i (if 1073741824 < Lx.numv (Lx.sub s.data.toList i (Lx.stop Lx.digit s.data.toList i)) then 5 else 0) w' := by
  have h0 : w.cell? ⟨Q, 0, none⟩ = some (.string s) := hQ.cell 0
  have h1 : w.cell? ⟨Q, 1, none⟩ = some (.int .i64 i) := hQ.cell 1
  have h2 : w.cell? ⟨Q, 2, none⟩ = some (.int .i64 (0 : Nat)) := hQ.cell 2
  have hf := hQ.frozen 2
  have hlt := hQ.lt
  have b1 := Lx.stop_ge Lx.digit s.data.toList i
  have b2 := Lx.stop_le Lx.digit s.data.toList i (by simpa using hi)
  have b3 : s.data.toList.length = s.size := by simp
  rw [b3] at b2
  have HQ := Lib.hid hQ
  clear hQ
  have HA := Lib.hid (Lx.stop_all Lx.digit s.data.toList i)
  generalize hE : Lx.stop Lx.digit s.data.toList i = e1 at *
  have HE := Lib.hid hE
  clear hE b3
  generalize hN : Lx.numv (Lx.sub s.data.toList i e1) = nf at *
  have HN := Lib.hid hN
  clear hN
  unfold maxLen at hs
  go_enter Tryd.func18, Tryd.ntmps18
  go_wp2_with (go_at_call 22; refine (run_digit _ s i (by unfold maxLen; omega) hi _ (by exact (World.cell?_alloc_lt _ _ _ hlt).trans h0)).mono ?_; rw [HE.out]; rintro e w' ⟨rfl, rfl⟩)
  go_loop [4, 5] (fun n v => ∃ k : Nat, i ≤ k ∧ k ≤ e1 ∧ v = .int .i64 k ∧ n = .int .i64 (Lx.numv (Lx.sub s.data.toList i k) : Nat)) (fun _ v => e1 - (intOf v).toNat)
  case atStart => exact ⟨i, Nat.le_refl _, b1, rfl, by simp [Lx.sub, Lx.numv]⟩
  case round =>
    obtain ⟨k, hk0, hk, rfl, rfl⟩ := hrel
    have hb := Lx.numv_le (Lx.sub s.data.toList i k)
    by_cases hc : k < e1 ∧ Lx.numv (Lx.sub s.data.toList i k) ≤ 1073741824
    · obtain ⟨hc1, hc2⟩ := hc
      have hks : k < s.size := by omega
      have hd := HA.out k hk0 hc1 (by simpa using hks)
      rw [toList_get s k hks, digit_eq] at hd
      have hd1 : 48 ≤ (s[k].toNat : Int) ∧ (s[k].toNat : Int) ≤ 57 := by simpa using hd
      obtain ⟨hd2, hd3⟩ := hd1
      have HS := Lib.hid (Lx.numv_step s.data.toList i k hk0 (by simpa using hks) hc2)
      have HS2 : Hid (((Lx.numv (Lx.sub s.data.toList i (k + 1)) : Nat) : Int) = (Lx.numv (Lx.sub s.data.toList i k) : Int) * 10 + ((s[k].toNat : Int) - 48)) := by
        refine Lib.hid ?_
        rw [HS.out, toList_get s k hks]
        omega
      clear hd HS
      go_wp2
      go_round
      case rel => exact ⟨k + 1, by omega, by omega, by go_num, int_eq HS2.out.symm⟩
      case measure => simp [intOf]; omega
    · have hb2 : e1 ≤ k ∨ 1073741824 < Lx.numv (Lx.sub s.data.toList i k) := by omega
      have hN : nf = Lx.numv (Lx.sub s.data.toList i k) := by
        rw [← HN.out]
        rcases hb2 with h | h
        · have : e1 = k := by omega
          subst this; rfl
        · exact Lx.numv_stays _ _ _ _ hk0 hk h
      by_cases hn : 1073741824 < nf
      · have hn2 : 1073741824 < Lx.numv (Lx.sub s.data.toList i k) := by omega
        have HN2 := Lib.hid hN
        clear hN HN HA hb2 hc
        by_cases hke : k < e1
        all_goals
          go_wp2
          go_region
          go_wp2
          refine bodyPost_ret (v := tokVal 1 (s.extract i e1) (Lx.numv (Lx.sub s.data.toList i k)) i) (by simp [results, Tryd.results18, go_sem, tokVal]) rfl ⟨by rw [HN2.out], ?_⟩
          exact ⟨only_drew (only_alloc (only_setCell (only_refl w _) (.inl rfl) _) _), ((HQ.out.set_ 2 _).alloc _).drew⟩
      · have hke : ¬ k < e1 := by omega
        have hn2 : ¬ 1073741824 < Lx.numv (Lx.sub s.data.toList i k) := by omega
        have HN2 := Lib.hid hN
        clear hN HN HA hb2 hc
        go_wp2
        go_region
        go_wp2
        refine bodyPost_ret (v := tokVal 1 (s.extract i e1) (Lx.numv (Lx.sub s.data.toList i k)) i) (by simp [results, Tryd.results18, go_sem, tokVal]) rfl ⟨by rw [HN2.out], ?_⟩
        exact ⟨only_drew (only_alloc (only_refl w _) _), (HQ.out.alloc _).drew⟩

end Go.Proofs.YtdmgacoemabcfaaDoor
