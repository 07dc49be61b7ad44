/- The walk of lexer.Tokens: a range over the method value q.each. -/
import Derived.Test.YtdmgacoemabcfaaDoorA5
import Derived.Test.YtdmgacoemabcfaaDoorLy
import Derived.RangeFuncNested
import Derived.RangeFuncLeaves
import Derived.OwnWalkIn
import Derived.TacticsInMore
import Derived.Maps.AppendAt
namespace Go.Proofs.YtdmgacoemabcfaaDoor
open Go.RowKit
attribute [local go_sem] Oper.semAt_some

def rowOf (ts : List Lx.Tk) : List Value := ts.flatMap fun t => (cellsOf t).toList

/-- what Tokens hands back -/
def TokPost (w : World) (l : List UInt8) (e : Ending) (W' : World) : Prop :=
  ∃ v, e = .returned (.tuple #[v, .int .i64 (Lx.tokAt l : Nat), .int .i64 (Lx.tokErr l : Nat)]) ∧
    W'.ownsRow w.heap.size 33 4 v (Lx.toks l).length (rowOf (Lx.toks l)) ∧ Below w.heap.size w W'

theorem info33 : (Tryd.prog.info? 33).map (fun i => (i.zero, i.size, i.bytes)) = some (some (.agg #[.int .i64 0, .string ⟨#[]⟩, .int .i64 0, .int .i64 0]), 4, 40) := by kernel_rfl

set_option maxHeartbeats 400000 in
theorem tokens_long (s : ByteArray) (hs : s.size ≤ maxLen) (hl : 2000 < s.size) (w : World) :
    Calls Tryd.prog 7 #[.string s] w (TokPost w s.data.toList) := by
  have hb : 2000 < s.data.toList.length := by simpa using hl
  have H : Hid (Lx.toks s.data.toList = [] ∧ Lx.tokAt s.data.toList = 2000 ∧ Lx.tokErr s.data.toList = 4) := Lib.hid (by
    simp only [Lx.toks, Lx.tokAt, Lx.tokErr, if_pos hb, and_self])
  clear hb
  unfold maxLen at hs
  go_enter Tryd.func7, Tryd.ntmps7
  go_wp2
  go_ret3
  refine ⟨.slice none 0 0, by rw [H.out.2.1, H.out.2.2]; rfl, ?_, Below.refl _ _⟩
  rw [H.out.1]
  exact World.ownsRow_nil _ _ _ _

/-- the source as the iterator leaves it -/
def SrcEnd (s : ByteArray) (Q : Nat) (W : World) : Prop := match (Lx.lex s.data.toList 0).2 with | none => Src W Q s s.size 0 | some x => Src W Q s x.1 x.2

theorem SrcEnd.other {s : ByteArray} {Q : Nat} {W W' : World} (h : SrcEnd s Q W) (hb : W'.heap[Q]? = W.heap[Q]?) : SrcEnd s Q W' := by
  unfold SrcEnd at h ⊢
  cases hx : (Lx.lex s.data.toList 0).2 with
  | none => rw [hx] at h; exact hb.trans h
  | some x => rw [hx] at h; exact hb.trans h

/-- A range over q.each: the iterator keeps its state in block Q; the caller's word I does not speak of block Q. -/
theorem range_each {g : Operand} {ps : Array Tmp} {assign body : Code} {Q' : Exit → Act → World → Prop} {a : Act} (w : World) (n m : Nat) (Q : Nat) (s : ByteArray) (hs : s.size ≤ 2000)
    (hg : a.eval g = .func (.func 13) #[.pointer (some ⟨Q, 0, none⟩)] #[]) (hps : ps.size = 1) (hQ : Src w Q s 0 0)
    (I : List Lx.Tk → World → Prop) (hI : ∀ pre W W', I pre W → W.grownBy W' (some Q) → I pre W')
    (hIo : ∀ pre W k o o', I pre W → w.heap.size ≤ k → W.heap[k]? = some o → o.isCells = false → I pre (W.putObj k o')) (h0 : I [] w)
    (hround : ∀ r pre t W0 W i, W.heap[w.heap.size + 1]? = some (.loop r) → r.state = .ready → r.pending = none → W.heap[w.heap.size]? = some (.deferred (some [])) → w.heap.size + 1 < W0.heap.size → I pre W0 → W0.grownBy W (some Q) → Src W Q s i 0 → pre.length < s.size →
      assign.wpIn (Fence.wide.inRound (w.heap.size + 1)) m Tryd.prog (Exit.then (fun a1 w1 => ∃ w2, (Instr.beginRound (w.heap.size + 1)).run Tryd.prog w1 = .ok () w2 ∧ body.wpIn (Fence.wide.inRound (w.heap.size + 1)) m Tryd.prog
        (roundPost Tryd.prog (w.heap.size + 1) (fun e W' => e = .returned (.bool true) ∧ (I (pre ++ [t]) W' ∧ W'.heap[w.heap.size + 1]? = some (.loop r) ∧ W'.heap[w.heap.size]? = some (.deferred (some []))) ∧ Below (Q + 1) W W' ∧ ∀ b, W0.heap.size ≤ b → b < W.heap.size → W'.heap[b]? = W.heap[b]?)) a1 w2) (fun _ _ _ => False))
        { tmps := (ps.zip #[.agg (cellsOf t)]).foldl (fun t (p, v) => t.setIfInBounds p v) a.tmps, defers := [] } W)
    (hdone : ∀ W, I (Lx.lex s.data.toList 0).1 W → SrcEnd s Q W → W.heap[w.heap.size]? = some (.deferred (some [])) → Q' .normal { a with defers := { target := .collected w.heap.size, args := #[] } :: a.defers } W) :
    (Code.rangeFunc g ps assign body).wpIn Fence.wide n Tryd.prog Q' a w := by
  have hlt := hQ.lt
  refine wpIn_rangeFunc ?_
  intro fn hfn
  obtain ⟨rec, hrec⟩ : ∃ rec : Loop, rec = { state := .ready, pending := none, fn, tmps := a.tmps, params := ps, assign, body, defers := w.heap.size } := ⟨_, rfl⟩
  obtain ⟨W1, hW1⟩ : ∃ W1, (w.alloc (.deferred (some []))).alloc (.loop rec) = W1 := ⟨_, rfl⟩
  have hL1 : W1.heap[w.heap.size + 1]? = some (.loop rec) := by
    rw [← hW1]; have := World.alloc_heap_new (w.alloc (.deferred (some []))) (.loop rec); rwa [World.size_alloc] at this
  have hK1 : W1.heap[w.heap.size]? = some (.deferred (some [])) := by
    rw [← hW1]; exact (Below.heap_alloc _ _ _ (by simp)).trans (World.alloc_heap_new w _)
  have hg1 : w.grownBy W1 (some Q) := by rw [← hW1]; exact only_alloc (only_alloc (only_refl _ _) _) _
  have hQ1 : Src W1 Q s 0 0 := by rw [← hW1]; exact (hQ.alloc _).alloc _
  refine ⟨w.heap.size + 1, [{ target := .collected w.heap.size, args := #[] }], W1, { target := .fn (.func 13) #[], args := #[.pointer (some ⟨Q, 0, none⟩), .func (.yield (w.heap.size + 1)) #[] #[]] }, W1, 13,
    #[.pointer (some ⟨Q, 0, none⟩), .func (.yield (w.heap.size + 1)) #[] #[]], W1, ?_, ?_, ?_, ?_, ?_, ?_⟩
  · rw [← hW1, hrec]; exact run_enterLoop_outer _ _ _ _ _
  · simp only [resolve, hg]
    simp [go_sem]
  · intro f' _; trivial
  · simp [invoke, go_sem]
  · intro h; cases h
  · refine callsIn_wide.2 ((each_in m (w.heap.size + 1) Q s hs
      (fun pre W => I pre W ∧ W.heap[w.heap.size + 1]? = some (.loop rec) ∧ W.heap[w.heap.size]? = some (.deferred (some [])))
      (Lib.hid fun pre W W' hJ hgr => ⟨hI pre W W' hJ.1 hgr, (hgr.block _ (Array.getElem?_eq_some_iff.1 hJ.2.1).1 (by simp; omega)).trans hJ.2.1, (hgr.block _ (Array.getElem?_eq_some_iff.1 hJ.2.2).1 (by simp; omega)).trans hJ.2.2⟩)
      (Lib.hid fun pre t W0 W i hJ hgr hS hlen => ?_) W1 hQ1 ⟨hI _ _ _ h0 hg1, hL1, hK1⟩).mono ?_)
    · have hlW := (hgr.block _ (Array.getElem?_eq_some_iff.1 hJ.2.1).1 (by simp; omega)).trans hJ.2.1
      have hkW := (hgr.block _ (Array.getElem?_eq_some_iff.1 hJ.2.2).1 (by simp; omega)).trans hJ.2.2
      have hy := run_yield (P := Tryd.prog) (args := #[.agg (cellsOf t)]) hlW (by rw [hrec]; simp [hps])
      rw [hrec] at hy
      refine ⟨fn, _, assign, body, hy, roundIn_of_wpIn trivial ?_⟩
      exact hround rec pre t W0 W i hlW (by rw [hrec]) (by rw [hrec]) hkW (Array.getElem?_eq_some_iff.1 hJ.2.1).1 hJ.1 hgr hS hlen
    · rintro e W2 ⟨⟨v, rfl⟩, ⟨hi2, hl2, hk2⟩, hsrc⟩
      refine ⟨none, _, by have := run_endLoop (P := Tryd.prog) hl2 (by rw [hrec]; simp); rw [hrec] at this; exact this, ?_⟩
      refine hdone _ (hIo _ _ _ _ _ hi2 (by omega) hl2 rfl) ?_ ((World.putObj_heap_other (by omega)).trans hk2)
      exact SrcEnd.other (W := W2) hsrc (World.putObj_heap_other (by omega))

theorem cell_four_new (w : World) (x0 x1 x2 x3 : Value) (t : TypeId) : ∀ j u, [x0, x1, x2, x3][j]? = some u → (w.alloc (.cells #[x0, x1, x2, x3] t)).cell? ((⟨w.heap.size, 0, none⟩ : Addr).add j) = some u := by
  intro j u hj
  have hb := Blk.new w t #[x0, x1, x2, x3]
  match j, hj with
  | 0, hj => simp at hj; subst hj; simp [Addr.add, hb.cell 0]
  | 1, hj => simp at hj; subst hj; simp [Addr.add, hb.cell 1]
  | 2, hj => simp at hj; subst hj; simp [Addr.add, hb.cell 2]
  | 3, hj => simp at hj; subst hj; simp [Addr.add, hb.cell 3]
  | j + 4, hj => simp at hj

theorem own_ne_of {w : World} {base : Nat} {e t : TypeId} {size : Nat} {v : Value} {k b : Nat} {xs : List Value} {cs : Array Value} (h : w.ownsRow base e size v k xs) (hb : Blk w b t cs) (hte : t ≠ e) : v.ownBlock ≠ some b := by
  rcases h.2 with ⟨rfl, _⟩ | ⟨g, cap, cur, rfl, _, hgb, _⟩
  · simp [Value.ownBlock]
  · intro e'
    obtain rfl : g = b := by simpa [Value.ownBlock] using e'
    have := hgb.symm.trans hb
    simp at this
    exact hte this.2.symm

theorem own_lt {w : World} {base : Nat} {e : TypeId} {size : Nat} {v : Value} {k : Nat} {xs : List Value} (h : w.ownsRow base e size v k xs) (b : Nat) (hb : v.ownBlock = some b) : base ≤ b ∧ b < w.heap.size := by
  rcases h.2 with ⟨rfl, _⟩ | ⟨g, cap, cur, rfl, hbase, hgb, _⟩
  · simp [Value.ownBlock] at hb
  · obtain rfl : g = b := by simpa [Value.ownBlock] using hb
    exact ⟨hbase, (Array.getElem?_eq_some_iff.1 hgb).1⟩

/-- one round of the collecting loop, its world's facts: Q the source's block, T = Q + 1 the variable's box, l the loop's record -/
theorem round_end {w W0 W Wb w1 : World} {l D : Nat} {r : Loop} {tmp : Obj} {v v' : Value} {pre : List Lx.Tk} {t : Lx.Tk} {s : ByteArray} {i : Nat}
    (hrs : r.state = .ready) (hrp : r.pending = none) (hD : W.heap[D]? = some (.deferred (some []))) (hlD : w.heap.size + 1 < D ∧ D < l) (hl0 : l < W0.heap.size) (hl : W.heap[l]? = some (.loop r))
    (hv : Boxed W0 (w.heap.size + 1) 29 v) (hrow : W0.ownsRow w.heap.size 33 4 v pre.length (rowOf pre)) (hne : v.ownBlock ≠ some w.heap.size) (hB : Below w.heap.size w W0)
    (hg : W0.grownBy W (some w.heap.size)) (hS : Src W w.heap.size s i 0) (hWb : Wb = (W.alloc (.cells (cellsOf t) 33)).putObj l (.loop { r with state := .busy }))
    (hown' : w1.ownsRow w.heap.size 33 4 v' (pre.length + 1) (rowOf pre ++ (cellsOf t).toList)) (hgrow : (Wb.alloc tmp).grownBy w1 v.ownBlock) :
    ∃ x w', (Instr.endRound l none).run Tryd.prog (w1.setCell ⟨w.heap.size + 1, 0, none⟩ v') = .ok x w' ∧ (Ending.returned x = .returned (.bool true) ∧
      ((((∃ v, Boxed w' (w.heap.size + 1) 29 v ∧ w'.ownsRow w.heap.size 33 4 v (pre ++ [t]).length (rowOf (pre ++ [t])) ∧ v.ownBlock ≠ some w.heap.size) ∧ Below w.heap.size w w') ∧ w'.heap[l]? = some (.loop r) ∧ w'.heap[D]? = some (.deferred (some [])))) ∧
      Below (w.heap.size + 1) W w' ∧ ∀ b, W0.heap.size ≤ b → b < W.heap.size → w'.heap[b]? = W.heap[b]?) := by
  have hlW : l < W.heap.size := (Array.getElem?_eq_some_iff.1 hl).1
  have hsw := hB.size
  have hvlt := hv.lt
  have hg0 := hg.size
  -- the world Wb, block by block
  have hb1 : ∀ b, b < W.heap.size → b ≠ l → Wb.heap[b]? = W.heap[b]? := fun b hb hbl => by
    rw [hWb, World.putObj_heap_other hbl]; exact Below.heap_alloc W _ b hb
  have hszb : Wb.heap.size = W.heap.size + 1 := by rw [hWb]; simp
  have hvW : Boxed W (w.heap.size + 1) 29 v := hv.kept hg (by simp)
  have hvB : Boxed Wb (w.heap.size + 1) 29 v := (hb1 _ (by omega) (by omega)).trans hvW
  have hrW : W.ownsRow w.heap.size 33 4 v pre.length (rowOf pre) := hrow.kept hg (.inr hne)
  have hrB : Wb.ownsRow w.heap.size 33 4 v pre.length (rowOf pre) := by
    rw [hWb]; exact ownsRow_putObj (hrW.alloc _) _ ((Below.heap_alloc W _ l hlW).trans hl) rfl
  have hlb : Wb.heap[l]? = some (.loop { r with state := .busy }) := by rw [hWb]; exact World.putObj_heap_same (by simp; omega)
  have hQb : Blk Wb w.heap.size 41 #[.string s, .int .i64 (i : Int), .int .i64 (0 : Nat)] := (hb1 _ (by omega) (by omega)).trans hS
  have hDb : Wb.heap[D]? = some (.deferred (some [])) := (hb1 _ (by omega) (by omega)).trans hD
  obtain ⟨hv1, hv2, hr2, hk2, hb2⟩ := hvB.appended (by decide) hrB (by omega) (by omega) hown' hgrow
  have hl3 := hk2.same _ _ hlb rfl
  have hD3 := hk2.same _ _ hDb rfl
  have hQ1 : Blk w1 w.heap.size 41 #[.string s, .int .i64 (i : Int), .int .i64 (0 : Nat)] := (hQb.alloc tmp).grown hgrow (Ne.symm hne)
  have hrec : ({ ({ r with state := .busy } : Loop) with state := .ready, pending := none } : Loop) = r := by
    cases r; simp_all
  have hkeep : ∀ b, b < W.heap.size → b ≠ l → b ≠ w.heap.size + 1 → v.ownBlock ≠ some b → ((w1.setCell ⟨w.heap.size + 1, 0, none⟩ v').putObj l (.loop r)).heap[b]? = W.heap[b]? := fun b hb hbl hbT hbv => by
    rw [World.putObj_heap_other hbl, Below.heap_setCell _ _ _ b hbT, hgrow.block b (by simp; omega) (Ne.symm hbv), Below.heap_alloc Wb tmp b (by omega), hb1 b hb hbl]
  have hos : ((w1.setCell ⟨w.heap.size + 1, 0, none⟩ v').putObj l (.loop r)).os = W.os ∧ ((w1.setCell ⟨w.heap.size + 1, 0, none⟩ v').putObj l (.loop r)).tape = W.tape ∧ ((w1.setCell ⟨w.heap.size + 1, 0, none⟩ v').putObj l (.loop r)).output = W.output := by
    have h1 : Wb.os = W.os ∧ Wb.tape = W.tape ∧ Wb.output = W.output := by rw [hWb]; exact ⟨rfl, rfl, rfl⟩
    exact ⟨hgrow.os.trans h1.1, hgrow.tape.trans h1.2.1, hgrow.output.trans h1.2.2⟩
  have hsz : W.heap.size ≤ ((w1.setCell ⟨w.heap.size + 1, 0, none⟩ v').putObj l (.loop r)).heap.size := by
    rw [World.putObj_size]; have := hb2.size; omega
  have hbelow : Below (w.heap.size + 1) W ((w1.setCell ⟨w.heap.size + 1, 0, none⟩ v').putObj l (.loop r)) := by
    refine ⟨hos.1, hos.2.1, hos.2.2, hsz, fun b hb => hkeep b (by omega) (by omega) (by omega) (fun e => ?_)⟩
    have h1 := (own_lt hrow b e).1
    obtain rfl : b = w.heap.size := by omega
    exact hne e
  refine ⟨.bool true, (w1.setCell ⟨w.heap.size + 1, 0, none⟩ v').putObj l (.loop r), ?_, rfl, ⟨⟨⟨v', ?_, ?_, ?_⟩, ?_⟩, ?_, ?_⟩, hbelow, ?_⟩
  · have := run_endRound (P := Tryd.prog) none hl3
    simp only [Option.isNone_none, if_true] at this
    rw [hrec] at this
    exact this
  · exact hv2.kept (grownBy_putObj' _ l _) (by simp; omega)
  · have e1 : (pre ++ [t]).length = pre.length + 1 := by simp
    have e2 : rowOf (pre ++ [t]) = rowOf pre ++ (cellsOf t).toList := by simp [rowOf]
    rw [e1, e2]
    exact ownsRow_putObj hr2 _ hl3 rfl
  · exact own_ne_of hown' hQ1 (by decide)
  · exact (hB.grown hg hB.size (fun j e => by cases e; exact Nat.le_refl _)).trans (hbelow.mono (by omega))
  · exact World.putObj_heap_same (Array.getElem?_eq_some_iff.1 hl3).1
  · exact (World.putObj_heap_other (by omega)).trans hD3
  · intro b h1 h2
    refine hkeep b h2 (by omega) (by omega) (fun e => ?_)
    have := (own_lt hrow b e).2
    omega

set_option maxRecDepth 100000 in
set_option maxHeartbeats 2000000 in
theorem tokens_short (s : ByteArray) (hl : s.size ≤ 2000) (w : World) :
    Calls Tryd.prog 7 #[.string s] w (TokPost w s.data.toList) := by
  obtain ⟨i0, hi, hz0, hz1, hz2⟩ := info_parts info33
  refine (callsIn_wide (n := 9)).1 ?_
  refine callsIn_of_wp_marks Tryd.func7 rfl trivial ?_ rfl
  simp only [Tryd.ntmps7, List.size_toArray, List.length_cons, List.length_nil, Nat.reduceAdd, Nat.reduceSub, Array.replicate_succ, Array.replicate_zero, List.push_toArray, List.append_toArray, List.nil_append, List.cons_append]
  rw [wpIn_wide]
  go_wp2_with fail
  rw [← wpIn_wide (n := 9)]
  have bQ := Blk.new w 41 #[.string s, .int .i64 0, .int .i64 0]
  have bT := Boxed.new (w.alloc (.cells #[.string s, .int .i64 0, .int .i64 0] 41)) 29 (.slice none 0 0)
  rw [World.size_alloc] at bT
  have bel : Below w.heap.size w ((w.alloc (.cells #[.string s, .int .i64 0, .int .i64 0] 41)).alloc (.cells #[.slice none 0 0] 29)) := ((Below.refl _ w).alloc (Nat.le_refl _) _).alloc (by simp) _
  have hsz2 : ((w.alloc (.cells #[.string s, .int .i64 0, .int .i64 0] 41)).alloc (.cells #[.slice none 0 0] 29)).heap.size = w.heap.size + 2 := by simp
  have bQ2 : Src ((w.alloc (.cells #[.string s, .int .i64 0, .int .i64 0] 41)).alloc (.cells #[.slice none 0 0] 29)) w.heap.size s 0 0 := bQ.alloc _
  clear bQ
  generalize ((w.alloc (.cells #[.string s, .int .i64 0, .int .i64 0] 41)).alloc (.cells #[.slice none 0 0] 29)) = w2 at *
  refine range_each w2 9 7 w.heap.size s hl rfl rfl bQ2
    (fun pre W => (∃ v, Boxed W (w.heap.size + 1) 29 v ∧ W.ownsRow w.heap.size 33 4 v pre.length (rowOf pre) ∧ v.ownBlock ≠ some w.heap.size) ∧ Below w.heap.size w W)
    ?hI ?hIo ⟨⟨_, bT, World.ownsRow_nil _ _ _ _, by simp [Value.ownBlock]⟩, bel⟩ ?hround ?hdone
  case hI =>
    rintro pre W W' ⟨⟨v, hv, hrow, hne⟩, hB⟩ hg
    refine ⟨⟨v, hv.kept hg (by simp), hrow.kept hg ?_, hne⟩, hB.grown hg hB.size (fun j e => by cases e; exact Nat.le_refl _)⟩
    exact .inr hne
  case hIo =>
    rintro pre W k o o' ⟨⟨v, hv, hrow, hne⟩, hB⟩ hk ho hc
    refine ⟨⟨v, ?_, ownsRow_putObj hrow _ ho hc, hne⟩, hB.grown (grownBy_putObj' W k o') hB.size (fun j e => by cases e; omega)⟩
    exact hv.kept (grownBy_putObj' W k o') (by simp; omega)
  case hround =>
    rintro r pre t W0 W i hr hrs hrp hD hl0 ⟨⟨v, hv, hrow, hne⟩, hB⟩ hg hS hlen
    obtain ⟨Wb, hWb⟩ : ∃ Wb, Wb = (W.alloc (.cells (cellsOf t) 33)).putObj (w2.heap.size + 1) (.loop { r with state := .busy }) := ⟨_, rfl⟩
    have hbr : (Instr.beginRound (w2.heap.size + 1)).run Tryd.prog (W.alloc (.cells (cellsOf t) 33)) = .ok () Wb := by
      rw [hWb]; exact run_beginRound ((Below.heap_alloc W _ _ (Array.getElem?_eq_some_iff.1 hr).1).trans hr) hrs
    have hlW : w2.heap.size + 1 < W.heap.size := (Array.getElem?_eq_some_iff.1 hr).1
    have hvW : Boxed W (w.heap.size + 1) 29 v := hv.kept hg (by simp)
    have hrW : W.ownsRow w.heap.size 33 4 v pre.length (rowOf pre) := hrow.kept hg (.inr hne)
    have hrB : Wb.ownsRow w.heap.size 33 4 v pre.length (rowOf pre) := by
      rw [hWb]; exact ownsRow_putObj (hrW.alloc _) _ ((Below.heap_alloc W _ _ hlW).trans hr) rfl
    have hvB : Boxed Wb (w.heap.size + 1) 29 v := by
      rw [hWb]; exact (hvW.alloc _).kept (grownBy_putObj' _ _ _) (by simp; omega)
    have hbB : Blk Wb W.heap.size 33 (cellsOf t) := by
      rw [hWb]; exact (World.putObj_heap_other (by omega)).trans (Blk.new W 33 (cellsOf t))
    have hszb : w.heap.size ≤ Wb.heap.size := by rw [hWb]; simp; omega
    have HE := fun (v' : Value) (w1 : World) (tmp : Obj) => Lib.hid (round_end (v' := v') (w1 := w1) (tmp := tmp) (t := t) hrs hrp hD ⟨by omega, by omega⟩ hl0 hr hv hrow hne hB hg hS hWb)
    have k0 : Wb.cell? ⟨W.heap.size, 0, none⟩ = some (.int .i64 (t.kind : Int)) := hbB.cell 0
    have k1 : Wb.cell? ⟨W.heap.size, 1, none⟩ = some (.string ⟨t.text.toArray⟩) := hbB.cell 1
    have k2 : Wb.cell? ⟨W.heap.size, 2, none⟩ = some (.int .i64 (t.n : Int)) := hbB.cell 2
    have k3 : Wb.cell? ⟨W.heap.size, 3, none⟩ = some (.int .i64 (t.at_ : Int)) := hbB.cell 3
    have hc := hvB.cell
    have HBR := Lib.hid hbr
    clear hbr hWb hbB hvW hrW hr hrs hrp hD hrow hB hg hS
    unfold cellsOf
    gi_wp2
    refine ⟨Wb, HBR.out, ?_⟩
    gi_wp2_with (gi_at_builtin; refine wpListIn_append_own _ rfl _ _ 29 rfl w.heap.size 33 i0 _ 4 40 Tryd.underlying29 hi hz0 hz1 hz2 rfl (by decide) _ _ _ rfl (hrB.alloc _) ⟨Wb.heap.size, 0, none⟩ 1 1 [.int .i64 (t.kind : Int), .string ⟨t.text.toArray⟩, .int .i64 (t.n : Int), .int .i64 (t.at_ : Int)] rfl rfl (cell_four_new _ _ _ _ _ _) (by simp [Value.oneCell']) (by unfold maxLen; omega) (by omega) (by simp; omega) ?_; intro v' w1 hown' hgrow _; obtain ⟨g', cap', rfl⟩ := ownsRow_succ hown'; obtain ⟨hv1, hv2, hr2, hk2, hb2⟩ := hvB.appended (by decide) hrB hszb (by omega) hown' hgrow; have hc1 := hv1.cell; have hf1 := hv1.frozen; have HO := Lib.hid hown'; have HG := Lib.hid hgrow; clear hv1 hv2 hr2 hk2 hb2 hown' hgrow)
    exact (HE _ _ _).out HO.out HG.out
  case hdone =>
    rintro W ⟨⟨v, hv, hrow, hne⟩, hB⟩ hsrc hK
    have hsz3 : w.heap.size + 2 ≤ W.heap.size := by have := (Array.getElem?_eq_some_iff.1 hK).1; omega
    have hc := hv.cell
    have HB : Hid (Below w.heap.size w (W.putObj w2.heap.size (.deferred none))) := Lib.hid (hB.grown (grownBy_putObj' W _ _) hB.size (fun j e => by cases e; omega))
    have HR : Hid ((W.putObj w2.heap.size (.deferred none)).ownsRow w.heap.size 33 4 v (Lx.lex s.data.toList 0).1.length (rowOf (Lx.lex s.data.toList 0).1)) := Lib.hid (ownsRow_putObj hrow _ hK rfl)
    have hlen : ¬ 2000 < s.data.toList.length := by simpa using hl
    cases hx : (Lx.lex s.data.toList 0).2 with
    | none =>
      have hS : Src W w.heap.size s s.size 0 := by unfold SrcEnd at hsrc; rw [hx] at hsrc; exact hsrc
      have q2 : W.cell? ⟨w.heap.size, 2, none⟩ = some (.int .i64 0) := hS.cell 2
      have HT : Hid (Lx.toks s.data.toList = (Lx.lex s.data.toList 0).1 ∧ Lx.tokAt s.data.toList = 0 ∧ Lx.tokErr s.data.toList = 0) := Lib.hid (by
        simp only [Lx.toks, Lx.tokAt, Lx.tokErr, if_neg hlen, hx, and_self])
      have HK := Lib.hid hK
      clear hsrc hS hx hlen hrow hK hsz2
      go_wp2
      refine ⟨by simp, .inl ⟨_, _, rfl, run_takeDeferred HK.out, ?_⟩⟩
      exact ⟨_, results_tmp3 rfl _ _ _, v, by rw [HT.out.2.1, HT.out.2.2]; rfl, by rw [HT.out.1]; exact HR.out, HB.out⟩
    | some x =>
      have hS : Src W w.heap.size s x.1 x.2 := by unfold SrcEnd at hsrc; rw [hx] at hsrc; exact hsrc
      have hpos := Lx.lex_err_pos s.data.toList 0 x hx
      have q1 : W.cell? ⟨w.heap.size, 1, none⟩ = some (.int .i64 (x.1 : Int)) := hS.cell 1
      have q2 : W.cell? ⟨w.heap.size, 2, none⟩ = some (.int .i64 (x.2 : Int)) := hS.cell 2
      have hne2 : ((x.2 : Int) != 0) = true := by simp; omega
      have HT : Hid (Lx.toks s.data.toList = [] ∧ Lx.tokAt s.data.toList = x.1 ∧ Lx.tokErr s.data.toList = x.2) := Lib.hid (by
        simp only [Lx.toks, Lx.tokAt, Lx.tokErr, if_neg hlen, hx, and_self])
      have HK := Lib.hid hK
      clear hsrc hS hx hlen hrow hK hsz2 HR
      go_wp2_with fail
      go_quiet (fail)
      go_wp2
      refine ⟨by simp, .inl ⟨_, _, rfl, run_takeDeferred (w := W.drewN nq) HK.out, ?_⟩⟩
      exact ⟨_, results_tmp3 rfl _ _ _, .slice none 0 0, by rw [HT.out.2.1, HT.out.2.2]; rfl, by rw [HT.out.1]; exact World.ownsRow_nil _ _ _ _, ⟨HB.out.os, HB.out.tape, HB.out.output, HB.out.size, HB.out.block⟩⟩

theorem tokens_any (s : ByteArray) (hs : s.size ≤ maxLen) (w : World) : Calls Tryd.prog 7 #[.string s] w (TokPost w s.data.toList) := by
  by_cases h : 2000 < s.size
  · exact tokens_long s hs h w
  · exact tokens_short s (by omega) w

end Go.Proofs.YtdmgacoemabcfaaDoor
