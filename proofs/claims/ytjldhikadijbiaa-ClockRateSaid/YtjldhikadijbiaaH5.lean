/- The walk of frac's sum (printed by gen_h5.py). -/
import Derived.Test.YtjldhikadijbiaaH4
namespace Go.Proofs.Ytjldhikadijbiaa
open Go.RowKit
set_option linter.unusedVariables false

theorem Blk.far {w : World} {g : Nat} {t : TypeId} {cs : Array Value} (h : Blk w g t cs) {p : Addr} (hp : g ≠ p.block) (u : Value) : Blk (w.setCell p u) g t cs := (Below.heap_setCell w p u g hp).trans h

/-- a wide number by its parts -/
def wp (p : Nat) (x : Bool) : Value := .agg #[.int .u64 0, .int .u64 (p : Int), .bool x]
def GivesP (p : Nat) (x : Bool) (w : World) (e : Ending) (w' : World) : Prop := e = .returned (wp p x) ∧ Below w.heap.size w w'

set_option maxRecDepth 100000 in
set_option maxHeartbeats 2000000 in
theorem sum_ff (a b c d : Int) (p q : Nat) (w : World) (hp : p ≤ 1152921504606846976) (hq : q ≤ 1152921504606846976)
    (h1 : ∀ W, Calls Try.prog 57 #[.int .i64 a, .int .i64 b] W (GivesP p false W)) (h2 : ∀ W, Calls Try.prog 57 #[.int .i64 c, .int .i64 d] W (GivesP q false W)) :
    Calls Try.prog 39 #[.int .i64 a, .int .i64 b, .int .i64 c, .int .i64 d] w (GivesP (p + q) false w) := by
  have HBl : Hid (Blk (w.alloc (.cells #[.int .u64 0, .int .u64 0, .bool false] 60)) w.heap.size 60 #[.int .u64 0, .int .u64 0, .bool false]) := Lib.hid (Blk.new w 60 _)
  have HB0 : Hid (Below w.heap.size w (w.alloc (.cells #[.int .u64 0, .int .u64 0, .bool false] 60))) := Lib.hid ((Below.refl _ w).alloc (Nat.le_refl _) _)
  have hz0 : w.heap.size < (w.alloc (.cells #[.int .u64 0, .int .u64 0, .bool false] 60)).heap.size := by simp
  have H1 := Lib.hid (h1 (w.alloc (.cells #[.int .u64 0, .int .u64 0, .bool false] 60)))
  have H2 := Lib.hid h2
  clear h1 h2
  unfold GivesP wp at H1 H2
  go_enter Try.func39, Try.ntmps39
  go_wp2_with fail
  generalize w.alloc _ = w1 at *
  refine H1.out.mono ?_
  rintro e w2 ⟨rfl, hb2⟩
  have HBl2 : Hid (Blk w2 w.heap.size 60 #[.int .u64 0, .int .u64 0, .bool false]) := Lib.hid ((hb2.block _ hz0).trans HBl.out)
  have HB2 : Hid (Below w.heap.size w w2) := Lib.hid (HB0.out.trans (hb2.mono HB0.out.size))
  have hz2 := Nat.lt_of_lt_of_le hz0 hb2.size
  clear hb2
  go_wp2_with fail
  refine (H2.out _).mono ?_
  rintro e w3 ⟨rfl, hb3⟩
  have HBl3 : Hid (Blk w3 w.heap.size 60 #[.int .u64 0, .int .u64 0, .bool false]) := Lib.hid ((hb3.block _ hz2).trans HBl2.out)
  have HB3 : Hid (Below w.heap.size w w3) := Lib.hid (HB2.out.trans (hb3.mono HB2.out.size))
  have hz3 := Nat.lt_of_lt_of_le hz2 hb3.size
  clear hb3 HB2 HBl2 HB0 HBl hz0 hz2 H1 H2
  go_upto_region 2 with fail
  obtain ⟨wx, hwx⟩ : ∃ wx, wx = (w3.alloc (.cells #[.int .u64 0, .int .u64 (p : Int), .bool false] 60)).alloc (.cells #[.int .u64 0, .int .u64 (q : Int), .bool false] 60) := ⟨_, rfl⟩
  have HX : Hid (Blk wx w3.heap.size 60 #[.int .u64 0, .int .u64 (p : Int), .bool false]) := Lib.hid (by rw [hwx]; exact (Blk.new w3 60 _).alloc _)
  have HY : Hid (Blk wx (w3.heap.size + 1) 60 #[.int .u64 0, .int .u64 (q : Int), .bool false]) := Lib.hid (by
    rw [hwx]
    have := Blk.new (w3.alloc (.cells #[.int .u64 0, .int .u64 (p : Int), .bool false] 60)) 60 #[.int .u64 0, .int .u64 (q : Int), .bool false]
    rw [World.size_alloc] at this
    exact this)
  have HR : Hid (Blk wx w.heap.size 60 #[.int .u64 0, .int .u64 0, .bool false]) := Lib.hid (by rw [hwx]; exact (HBl3.out.alloc _).alloc _)
  have HBx : Hid (Below w.heap.size w wx) := Lib.hid (by rw [hwx]; exact (HB3.out.alloc HB3.out.size _).alloc (by have := HB3.out.size; simp; omega) _)
  rw [← hwx]
  clear hwx HB3 HBl3
  have x0 := HX.out.cell 0
  have x1 := HX.out.cell 1
  have x2 := HX.out.cell 2
  have y0 := HY.out.cell 0
  have y1 := HY.out.cell 1
  have y2 := HY.out.cell 2
  have c0 := HR.out.cell 0
  have c1 := HR.out.cell 1
  have c2 := HR.out.cell 2
  have f0 := HR.out.frozen 0
  have f1 := HR.out.frozen 1
  have f2 := HR.out.frozen 2
  have ha : ∀ W, (callFunc 58 #[.int .u64 (p : Int), .int .u64 (q : Int), .int .u64 0]).run Try.prog W = .ok (.value (.tuple #[.int .u64 ((p + q : Nat) : Int), .int .u64 0])) W := fun W => call_add64 p q (by omega) W
  have ha0 : ∀ W, (callFunc 58 #[.int .u64 0, .int .u64 0, .int .u64 0]).run Try.prog W = .ok (.value (.tuple #[.int .u64 0, .int .u64 0])) W := fun W => call_add64 0 0 (by omega) W
  generalize hsum : p + q = s at *
  clear hsum
  go_wp2_with fail
  obtain ⟨w9, hw9⟩ : ∃ w9, w9 = ((wx.setCell ⟨w.heap.size, 0, none⟩ (.int .u64 0)).setCell ⟨w.heap.size, 1, none⟩ (.int .u64 (s : Int))).setCell ⟨w.heap.size, 2, none⟩ (.bool false) := ⟨_, rfl⟩
  have hb9 : Blk w9 w.heap.size 60 #[.int .u64 0, .int .u64 (s : Int), .bool false] := by rw [hw9]; exact ((HR.out.set_ 0 _).set_ 1 _).set_ 2 _
  have HB9 : Hid (Below w.heap.size w w9) := Lib.hid (by rw [hw9]; exact ((HBx.out.setCell (Nat.le_refl _) _).setCell (Nat.le_refl _) _).setCell (Nat.le_refl _) _)
  have d0 := hb9.cell 0
  have d1 := hb9.cell 1
  have d2 := hb9.cell 2
  rw [← hw9]
  clear hw9 hb9 c0 c1 c2 f0 f1 f2 x0 x1 x2 y0 y1 y2
  exact bodyPost_ret (v := .agg #[.int .u64 0, .int .u64 (s : Int), .bool false]) (by simp [results, Try.results39, go_sem, d0, d1, d2]) rfl ⟨rfl, HB9.out⟩

set_option maxRecDepth 100000 in
set_option maxHeartbeats 2000000 in
theorem sum_tt (a b c d : Int) (p q : Nat) (w : World) (hp : p ≤ 1152921504606846976) (hq : q ≤ 1152921504606846976)
    (h1 : ∀ W, Calls Try.prog 57 #[.int .i64 a, .int .i64 b] W (GivesP p true W)) (h2 : ∀ W, Calls Try.prog 57 #[.int .i64 c, .int .i64 d] W (GivesP q true W)) :
    Calls Try.prog 39 #[.int .i64 a, .int .i64 b, .int .i64 c, .int .i64 d] w (GivesP (p + q) true w) := by
  have HBl : Hid (Blk (w.alloc (.cells #[.int .u64 0, .int .u64 0, .bool false] 60)) w.heap.size 60 #[.int .u64 0, .int .u64 0, .bool false]) := Lib.hid (Blk.new w 60 _)
  have HB0 : Hid (Below w.heap.size w (w.alloc (.cells #[.int .u64 0, .int .u64 0, .bool false] 60))) := Lib.hid ((Below.refl _ w).alloc (Nat.le_refl _) _)
  have hz0 : w.heap.size < (w.alloc (.cells #[.int .u64 0, .int .u64 0, .bool false] 60)).heap.size := by simp
  have H1 := Lib.hid (h1 (w.alloc (.cells #[.int .u64 0, .int .u64 0, .bool false] 60)))
  have H2 := Lib.hid h2
  clear h1 h2
  unfold GivesP wp at H1 H2
  go_enter Try.func39, Try.ntmps39
  go_wp2_with fail
  generalize w.alloc _ = w1 at *
  refine H1.out.mono ?_
  rintro e w2 ⟨rfl, hb2⟩
  have HBl2 : Hid (Blk w2 w.heap.size 60 #[.int .u64 0, .int .u64 0, .bool false]) := Lib.hid ((hb2.block _ hz0).trans HBl.out)
  have HB2 : Hid (Below w.heap.size w w2) := Lib.hid (HB0.out.trans (hb2.mono HB0.out.size))
  have hz2 := Nat.lt_of_lt_of_le hz0 hb2.size
  clear hb2
  go_wp2_with fail
  refine (H2.out _).mono ?_
  rintro e w3 ⟨rfl, hb3⟩
  have HBl3 : Hid (Blk w3 w.heap.size 60 #[.int .u64 0, .int .u64 0, .bool false]) := Lib.hid ((hb3.block _ hz2).trans HBl2.out)
  have HB3 : Hid (Below w.heap.size w w3) := Lib.hid (HB2.out.trans (hb3.mono HB2.out.size))
  have hz3 := Nat.lt_of_lt_of_le hz2 hb3.size
  clear hb3 HB2 HBl2 HB0 HBl hz0 hz2 H1 H2
  go_upto_region 2 with fail
  obtain ⟨wx, hwx⟩ : ∃ wx, wx = (w3.alloc (.cells #[.int .u64 0, .int .u64 (p : Int), .bool true] 60)).alloc (.cells #[.int .u64 0, .int .u64 (q : Int), .bool true] 60) := ⟨_, rfl⟩
  have HX : Hid (Blk wx w3.heap.size 60 #[.int .u64 0, .int .u64 (p : Int), .bool true]) := Lib.hid (by rw [hwx]; exact (Blk.new w3 60 _).alloc _)
  have HY : Hid (Blk wx (w3.heap.size + 1) 60 #[.int .u64 0, .int .u64 (q : Int), .bool true]) := Lib.hid (by
    rw [hwx]
    have := Blk.new (w3.alloc (.cells #[.int .u64 0, .int .u64 (p : Int), .bool true] 60)) 60 #[.int .u64 0, .int .u64 (q : Int), .bool true]
    rw [World.size_alloc] at this
    exact this)
  have HR : Hid (Blk wx w.heap.size 60 #[.int .u64 0, .int .u64 0, .bool false]) := Lib.hid (by rw [hwx]; exact (HBl3.out.alloc _).alloc _)
  have HBx : Hid (Below w.heap.size w wx) := Lib.hid (by rw [hwx]; exact (HB3.out.alloc HB3.out.size _).alloc (by have := HB3.out.size; simp; omega) _)
  rw [← hwx]
  clear hwx HB3 HBl3
  have x0 := HX.out.cell 0
  have x1 := HX.out.cell 1
  have x2 := HX.out.cell 2
  have y0 := HY.out.cell 0
  have y1 := HY.out.cell 1
  have y2 := HY.out.cell 2
  have c0 := HR.out.cell 0
  have c1 := HR.out.cell 1
  have c2 := HR.out.cell 2
  have f0 := HR.out.frozen 0
  have f1 := HR.out.frozen 1
  have f2 := HR.out.frozen 2
  have ha : ∀ W, (callFunc 58 #[.int .u64 (p : Int), .int .u64 (q : Int), .int .u64 0]).run Try.prog W = .ok (.value (.tuple #[.int .u64 ((p + q : Nat) : Int), .int .u64 0])) W := fun W => call_add64 p q (by omega) W
  have ha0 : ∀ W, (callFunc 58 #[.int .u64 0, .int .u64 0, .int .u64 0]).run Try.prog W = .ok (.value (.tuple #[.int .u64 0, .int .u64 0])) W := fun W => call_add64 0 0 (by omega) W
  generalize hsum : p + q = s at *
  clear hsum
  go_wp2_with fail
  obtain ⟨w9, hw9⟩ : ∃ w9, w9 = ((wx.setCell ⟨w.heap.size, 0, none⟩ (.int .u64 0)).setCell ⟨w.heap.size, 1, none⟩ (.int .u64 (s : Int))).setCell ⟨w.heap.size, 2, none⟩ (.bool true) := ⟨_, rfl⟩
  have hb9 : Blk w9 w.heap.size 60 #[.int .u64 0, .int .u64 (s : Int), .bool true] := by rw [hw9]; exact ((HR.out.set_ 0 _).set_ 1 _).set_ 2 _
  have HB9 : Hid (Below w.heap.size w w9) := Lib.hid (by rw [hw9]; exact ((HBx.out.setCell (Nat.le_refl _) _).setCell (Nat.le_refl _) _).setCell (Nat.le_refl _) _)
  have d0 := hb9.cell 0
  have d1 := hb9.cell 1
  have d2 := hb9.cell 2
  rw [← hw9]
  clear hw9 hb9 c0 c1 c2 f0 f1 f2 x0 x1 x2 y0 y1 y2
  exact bodyPost_ret (v := .agg #[.int .u64 0, .int .u64 (s : Int), .bool true]) (by simp [results, Try.results39, go_sem, d0, d1, d2]) rfl ⟨rfl, HB9.out⟩

set_option maxRecDepth 100000 in
set_option maxHeartbeats 2000000 in
theorem sum_zt (a b c d : Int) (p q : Nat) (w : World) (hp : p ≤ 1152921504606846976) (hq : q ≤ 1152921504606846976) (h0 : p = 0)
    (h1 : ∀ W, Calls Try.prog 57 #[.int .i64 a, .int .i64 b] W (GivesP p false W)) (h2 : ∀ W, Calls Try.prog 57 #[.int .i64 c, .int .i64 d] W (GivesP q true W)) :
    Calls Try.prog 39 #[.int .i64 a, .int .i64 b, .int .i64 c, .int .i64 d] w (GivesP (p + q) true w) := by
  have HEQ := Lib.hid h0
  clear h0
  have HBl : Hid (Blk (w.alloc (.cells #[.int .u64 0, .int .u64 0, .bool false] 60)) w.heap.size 60 #[.int .u64 0, .int .u64 0, .bool false]) := Lib.hid (Blk.new w 60 _)
  have HB0 : Hid (Below w.heap.size w (w.alloc (.cells #[.int .u64 0, .int .u64 0, .bool false] 60))) := Lib.hid ((Below.refl _ w).alloc (Nat.le_refl _) _)
  have hz0 : w.heap.size < (w.alloc (.cells #[.int .u64 0, .int .u64 0, .bool false] 60)).heap.size := by simp
  have H1 := Lib.hid (h1 (w.alloc (.cells #[.int .u64 0, .int .u64 0, .bool false] 60)))
  have H2 := Lib.hid h2
  clear h1 h2
  unfold GivesP wp at H1 H2
  go_enter Try.func39, Try.ntmps39
  go_wp2_with fail
  generalize w.alloc _ = w1 at *
  refine H1.out.mono ?_
  rintro e w2 ⟨rfl, hb2⟩
  have HBl2 : Hid (Blk w2 w.heap.size 60 #[.int .u64 0, .int .u64 0, .bool false]) := Lib.hid ((hb2.block _ hz0).trans HBl.out)
  have HB2 : Hid (Below w.heap.size w w2) := Lib.hid (HB0.out.trans (hb2.mono HB0.out.size))
  have hz2 := Nat.lt_of_lt_of_le hz0 hb2.size
  clear hb2
  go_wp2_with fail
  refine (H2.out _).mono ?_
  rintro e w3 ⟨rfl, hb3⟩
  have HBl3 : Hid (Blk w3 w.heap.size 60 #[.int .u64 0, .int .u64 0, .bool false]) := Lib.hid ((hb3.block _ hz2).trans HBl2.out)
  have HB3 : Hid (Below w.heap.size w w3) := Lib.hid (HB2.out.trans (hb3.mono HB2.out.size))
  have hz3 := Nat.lt_of_lt_of_le hz2 hb3.size
  clear hb3 HB2 HBl2 HB0 HBl hz0 hz2 H1 H2
  go_upto_region 2 with fail
  obtain ⟨wx, hwx⟩ : ∃ wx, wx = (w3.alloc (.cells #[.int .u64 0, .int .u64 (p : Int), .bool false] 60)).alloc (.cells #[.int .u64 0, .int .u64 (q : Int), .bool true] 60) := ⟨_, rfl⟩
  have HX : Hid (Blk wx w3.heap.size 60 #[.int .u64 0, .int .u64 (p : Int), .bool false]) := Lib.hid (by rw [hwx]; exact (Blk.new w3 60 _).alloc _)
  have HY : Hid (Blk wx (w3.heap.size + 1) 60 #[.int .u64 0, .int .u64 (q : Int), .bool true]) := Lib.hid (by
    rw [hwx]
    have := Blk.new (w3.alloc (.cells #[.int .u64 0, .int .u64 (p : Int), .bool false] 60)) 60 #[.int .u64 0, .int .u64 (q : Int), .bool true]
    rw [World.size_alloc] at this
    exact this)
  have HR : Hid (Blk wx w.heap.size 60 #[.int .u64 0, .int .u64 0, .bool false]) := Lib.hid (by rw [hwx]; exact (HBl3.out.alloc _).alloc _)
  have HBx : Hid (Below w.heap.size w wx) := Lib.hid (by rw [hwx]; exact (HB3.out.alloc HB3.out.size _).alloc (by have := HB3.out.size; simp; omega) _)
  rw [← hwx]
  clear hwx HB3 HBl3
  have x0 := HX.out.cell 0
  have x1 := HX.out.cell 1
  have x2 := HX.out.cell 2
  have y0 := HY.out.cell 0
  have y1 := HY.out.cell 1
  have y2 := HY.out.cell 2
  have c0 := HR.out.cell 0
  have c1 := HR.out.cell 1
  have c2 := HR.out.cell 2
  have f0 := HR.out.frozen 0
  have f1 := HR.out.frozen 1
  have f2 := HR.out.frozen 2
  have ha : ∀ W, (callFunc 58 #[.int .u64 (p : Int), .int .u64 (q : Int), .int .u64 0]).run Try.prog W = .ok (.value (.tuple #[.int .u64 ((p + q : Nat) : Int), .int .u64 0])) W := fun W => call_add64 p q (by omega) W
  have ha0 : ∀ W, (callFunc 58 #[.int .u64 0, .int .u64 0, .int .u64 0]).run Try.prog W = .ok (.value (.tuple #[.int .u64 0, .int .u64 0])) W := fun W => call_add64 0 0 (by omega) W
  have e0 : ((p : Int) == 0) = true := by rw [beq_iff_eq]; have := HEQ.out; omega
  generalize hsum : p + q = s at *
  clear hsum
  go_wp2_with fail
  obtain ⟨w9, hw9⟩ : ∃ w9, w9 = ((wx.setCell ⟨w.heap.size, 0, none⟩ (.int .u64 0)).setCell ⟨w.heap.size, 1, none⟩ (.int .u64 (s : Int))).setCell ⟨w.heap.size, 2, none⟩ (.bool true) := ⟨_, rfl⟩
  have hb9 : Blk w9 w.heap.size 60 #[.int .u64 0, .int .u64 (s : Int), .bool true] := by rw [hw9]; exact ((HR.out.set_ 0 _).set_ 1 _).set_ 2 _
  have HB9 : Hid (Below w.heap.size w w9) := Lib.hid (by rw [hw9]; exact ((HBx.out.setCell (Nat.le_refl _) _).setCell (Nat.le_refl _) _).setCell (Nat.le_refl _) _)
  have d0 := hb9.cell 0
  have d1 := hb9.cell 1
  have d2 := hb9.cell 2
  rw [← hw9]
  clear hw9 hb9 c0 c1 c2 f0 f1 f2 x0 x1 x2 y0 y1 y2
  exact bodyPost_ret (v := .agg #[.int .u64 0, .int .u64 (s : Int), .bool true]) (by simp [results, Try.results39, go_sem, d0, d1, d2]) rfl ⟨rfl, HB9.out⟩

set_option maxRecDepth 100000 in
set_option maxHeartbeats 2000000 in
theorem sum_tz (a b c d : Int) (p q : Nat) (w : World) (hp : p ≤ 1152921504606846976) (hq : q ≤ 1152921504606846976) (h0 : q = 0)
    (h1 : ∀ W, Calls Try.prog 57 #[.int .i64 a, .int .i64 b] W (GivesP p true W)) (h2 : ∀ W, Calls Try.prog 57 #[.int .i64 c, .int .i64 d] W (GivesP q false W)) :
    Calls Try.prog 39 #[.int .i64 a, .int .i64 b, .int .i64 c, .int .i64 d] w (GivesP (p + q) true w) := by
  have HEQ := Lib.hid h0
  clear h0
  have HBl : Hid (Blk (w.alloc (.cells #[.int .u64 0, .int .u64 0, .bool false] 60)) w.heap.size 60 #[.int .u64 0, .int .u64 0, .bool false]) := Lib.hid (Blk.new w 60 _)
  have HB0 : Hid (Below w.heap.size w (w.alloc (.cells #[.int .u64 0, .int .u64 0, .bool false] 60))) := Lib.hid ((Below.refl _ w).alloc (Nat.le_refl _) _)
  have hz0 : w.heap.size < (w.alloc (.cells #[.int .u64 0, .int .u64 0, .bool false] 60)).heap.size := by simp
  have H1 := Lib.hid (h1 (w.alloc (.cells #[.int .u64 0, .int .u64 0, .bool false] 60)))
  have H2 := Lib.hid h2
  clear h1 h2
  unfold GivesP wp at H1 H2
  go_enter Try.func39, Try.ntmps39
  go_wp2_with fail
  generalize w.alloc _ = w1 at *
  refine H1.out.mono ?_
  rintro e w2 ⟨rfl, hb2⟩
  have HBl2 : Hid (Blk w2 w.heap.size 60 #[.int .u64 0, .int .u64 0, .bool false]) := Lib.hid ((hb2.block _ hz0).trans HBl.out)
  have HB2 : Hid (Below w.heap.size w w2) := Lib.hid (HB0.out.trans (hb2.mono HB0.out.size))
  have hz2 := Nat.lt_of_lt_of_le hz0 hb2.size
  clear hb2
  go_wp2_with fail
  refine (H2.out _).mono ?_
  rintro e w3 ⟨rfl, hb3⟩
  have HBl3 : Hid (Blk w3 w.heap.size 60 #[.int .u64 0, .int .u64 0, .bool false]) := Lib.hid ((hb3.block _ hz2).trans HBl2.out)
  have HB3 : Hid (Below w.heap.size w w3) := Lib.hid (HB2.out.trans (hb3.mono HB2.out.size))
  have hz3 := Nat.lt_of_lt_of_le hz2 hb3.size
  clear hb3 HB2 HBl2 HB0 HBl hz0 hz2 H1 H2
  go_upto_region 2 with fail
  obtain ⟨wx, hwx⟩ : ∃ wx, wx = (w3.alloc (.cells #[.int .u64 0, .int .u64 (p : Int), .bool true] 60)).alloc (.cells #[.int .u64 0, .int .u64 (q : Int), .bool false] 60) := ⟨_, rfl⟩
  have HX : Hid (Blk wx w3.heap.size 60 #[.int .u64 0, .int .u64 (p : Int), .bool true]) := Lib.hid (by rw [hwx]; exact (Blk.new w3 60 _).alloc _)
  have HY : Hid (Blk wx (w3.heap.size + 1) 60 #[.int .u64 0, .int .u64 (q : Int), .bool false]) := Lib.hid (by
    rw [hwx]
    have := Blk.new (w3.alloc (.cells #[.int .u64 0, .int .u64 (p : Int), .bool true] 60)) 60 #[.int .u64 0, .int .u64 (q : Int), .bool false]
    rw [World.size_alloc] at this
    exact this)
  have HR : Hid (Blk wx w.heap.size 60 #[.int .u64 0, .int .u64 0, .bool false]) := Lib.hid (by rw [hwx]; exact (HBl3.out.alloc _).alloc _)
  have HBx : Hid (Below w.heap.size w wx) := Lib.hid (by rw [hwx]; exact (HB3.out.alloc HB3.out.size _).alloc (by have := HB3.out.size; simp; omega) _)
  rw [← hwx]
  clear hwx HB3 HBl3
  have x0 := HX.out.cell 0
  have x1 := HX.out.cell 1
  have x2 := HX.out.cell 2
  have y0 := HY.out.cell 0
  have y1 := HY.out.cell 1
  have y2 := HY.out.cell 2
  have c0 := HR.out.cell 0
  have c1 := HR.out.cell 1
  have c2 := HR.out.cell 2
  have f0 := HR.out.frozen 0
  have f1 := HR.out.frozen 1
  have f2 := HR.out.frozen 2
  have ha : ∀ W, (callFunc 58 #[.int .u64 (p : Int), .int .u64 (q : Int), .int .u64 0]).run Try.prog W = .ok (.value (.tuple #[.int .u64 ((p + q : Nat) : Int), .int .u64 0])) W := fun W => call_add64 p q (by omega) W
  have ha0 : ∀ W, (callFunc 58 #[.int .u64 0, .int .u64 0, .int .u64 0]).run Try.prog W = .ok (.value (.tuple #[.int .u64 0, .int .u64 0])) W := fun W => call_add64 0 0 (by omega) W
  have e0 : ((q : Int) == 0) = true := by rw [beq_iff_eq]; have := HEQ.out; omega
  generalize hsum : p + q = s at *
  clear hsum
  go_wp2_with fail
  obtain ⟨w9, hw9⟩ : ∃ w9, w9 = ((wx.setCell ⟨w.heap.size, 0, none⟩ (.int .u64 0)).setCell ⟨w.heap.size, 1, none⟩ (.int .u64 (s : Int))).setCell ⟨w.heap.size, 2, none⟩ (.bool true) := ⟨_, rfl⟩
  have hb9 : Blk w9 w.heap.size 60 #[.int .u64 0, .int .u64 (s : Int), .bool true] := by rw [hw9]; exact ((HR.out.set_ 0 _).set_ 1 _).set_ 2 _
  have HB9 : Hid (Below w.heap.size w w9) := Lib.hid (by rw [hw9]; exact ((HBx.out.setCell (Nat.le_refl _) _).setCell (Nat.le_refl _) _).setCell (Nat.le_refl _) _)
  have d0 := hb9.cell 0
  have d1 := hb9.cell 1
  have d2 := hb9.cell 2
  rw [← hw9]
  clear hw9 hb9 c0 c1 c2 f0 f1 f2 x0 x1 x2 y0 y1 y2
  exact bodyPost_ret (v := .agg #[.int .u64 0, .int .u64 (s : Int), .bool true]) (by simp [results, Try.results39, go_sem, d0, d1, d2]) rfl ⟨rfl, HB9.out⟩

set_option maxRecDepth 100000 in
set_option maxHeartbeats 2000000 in
theorem sum_ft_big (a b c d : Int) (p q : Nat) (w : World) (hp : p ≤ 1152921504606846976) (hq : q ≤ 1152921504606846976) (hlt : q < p) (hq0 : 0 < q)
    (h1 : ∀ W, Calls Try.prog 57 #[.int .i64 a, .int .i64 b] W (GivesP p false W)) (h2 : ∀ W, Calls Try.prog 57 #[.int .i64 c, .int .i64 d] W (GivesP q true W)) :
    Calls Try.prog 39 #[.int .i64 a, .int .i64 b, .int .i64 c, .int .i64 d] w (GivesP (p - q) false w) := by
  have HBl : Hid (Blk (w.alloc (.cells #[.int .u64 0, .int .u64 0, .bool false] 60)) w.heap.size 60 #[.int .u64 0, .int .u64 0, .bool false]) := Lib.hid (Blk.new w 60 _)
  have HB0 : Hid (Below w.heap.size w (w.alloc (.cells #[.int .u64 0, .int .u64 0, .bool false] 60))) := Lib.hid ((Below.refl _ w).alloc (Nat.le_refl _) _)
  have hz0 : w.heap.size < (w.alloc (.cells #[.int .u64 0, .int .u64 0, .bool false] 60)).heap.size := by simp
  have H1 := Lib.hid (h1 (w.alloc (.cells #[.int .u64 0, .int .u64 0, .bool false] 60)))
  have H2 := Lib.hid h2
  clear h1 h2
  unfold GivesP wp at H1 H2
  go_enter Try.func39, Try.ntmps39
  go_wp2_with fail
  generalize w.alloc _ = w1 at *
  refine H1.out.mono ?_
  rintro e w2 ⟨rfl, hb2⟩
  have HBl2 : Hid (Blk w2 w.heap.size 60 #[.int .u64 0, .int .u64 0, .bool false]) := Lib.hid ((hb2.block _ hz0).trans HBl.out)
  have HB2 : Hid (Below w.heap.size w w2) := Lib.hid (HB0.out.trans (hb2.mono HB0.out.size))
  have hz2 := Nat.lt_of_lt_of_le hz0 hb2.size
  clear hb2
  go_wp2_with fail
  refine (H2.out _).mono ?_
  rintro e w3 ⟨rfl, hb3⟩
  have HBl3 : Hid (Blk w3 w.heap.size 60 #[.int .u64 0, .int .u64 0, .bool false]) := Lib.hid ((hb3.block _ hz2).trans HBl2.out)
  have HB3 : Hid (Below w.heap.size w w3) := Lib.hid (HB2.out.trans (hb3.mono HB2.out.size))
  have hz3 := Nat.lt_of_lt_of_le hz2 hb3.size
  clear hb3 HB2 HBl2 HB0 HBl hz0 hz2 H1 H2
  go_upto_region 2 with fail
  obtain ⟨wx, hwx⟩ : ∃ wx, wx = (w3.alloc (.cells #[.int .u64 0, .int .u64 (p : Int), .bool false] 60)).alloc (.cells #[.int .u64 0, .int .u64 (q : Int), .bool true] 60) := ⟨_, rfl⟩
  have HX : Hid (Blk wx w3.heap.size 60 #[.int .u64 0, .int .u64 (p : Int), .bool false]) := Lib.hid (by rw [hwx]; exact (Blk.new w3 60 _).alloc _)
  have HY : Hid (Blk wx (w3.heap.size + 1) 60 #[.int .u64 0, .int .u64 (q : Int), .bool true]) := Lib.hid (by
    rw [hwx]
    have := Blk.new (w3.alloc (.cells #[.int .u64 0, .int .u64 (p : Int), .bool false] 60)) 60 #[.int .u64 0, .int .u64 (q : Int), .bool true]
    rw [World.size_alloc] at this
    exact this)
  have HR : Hid (Blk wx w.heap.size 60 #[.int .u64 0, .int .u64 0, .bool false]) := Lib.hid (by rw [hwx]; exact (HBl3.out.alloc _).alloc _)
  have HBx : Hid (Below w.heap.size w wx) := Lib.hid (by rw [hwx]; exact (HB3.out.alloc HB3.out.size _).alloc (by have := HB3.out.size; simp; omega) _)
  rw [← hwx]
  clear hwx HB3 HBl3
  have x0 := HX.out.cell 0
  have x1 := HX.out.cell 1
  have x2 := HX.out.cell 2
  have y0 := HY.out.cell 0
  have y1 := HY.out.cell 1
  have y2 := HY.out.cell 2
  have c0 := HR.out.cell 0
  have c1 := HR.out.cell 1
  have c2 := HR.out.cell 2
  have f0 := HR.out.frozen 0
  have f1 := HR.out.frozen 1
  have f2 := HR.out.frozen 2
  have e0 : ((p : Int) == 0) = false := by rw [beq_eq_false_iff_ne]; omega
  have e1 : ((q : Int) == 0) = false := by rw [beq_eq_false_iff_ne]; omega
  have e2 : decide ((p : Int) < (q : Int)) = false := by simp; omega
  have hs : ∀ W, (callFunc 59 #[.int .u64 (p : Int), .int .u64 (q : Int), .int .u64 0]).run Try.prog W = .ok (.value (.tuple #[.int .u64 ((p - q : Nat) : Int), .int .u64 0])) W := fun W => call_sub64 p q (by omega) (by omega) W
  have hs0 : ∀ W, (callFunc 59 #[.int .u64 0, .int .u64 0, .int .u64 0]).run Try.prog W = .ok (.value (.tuple #[.int .u64 0, .int .u64 0])) W := fun W => call_sub64 0 0 (by omega) (by omega) W
  have e3 : (((p - q : Nat) : Int) == 0) = false := by rw [beq_eq_false_iff_ne]; omega
  generalize hsum : p - q = s at *
  clear hsum
  go_wp2_with fail
  obtain ⟨w9, hw9⟩ : ∃ w9, w9 = ((wx.setCell ⟨w.heap.size, 0, none⟩ (.int .u64 0)).setCell ⟨w.heap.size, 1, none⟩ (.int .u64 (s : Int))).setCell ⟨w.heap.size, 2, none⟩ (.bool false) := ⟨_, rfl⟩
  have hb9 : Blk w9 w.heap.size 60 #[.int .u64 0, .int .u64 (s : Int), .bool false] := by rw [hw9]; exact ((HR.out.set_ 0 _).set_ 1 _).set_ 2 _
  have HB9 : Hid (Below w.heap.size w w9) := Lib.hid (by rw [hw9]; exact ((HBx.out.setCell (Nat.le_refl _) _).setCell (Nat.le_refl _) _).setCell (Nat.le_refl _) _)
  have d0 := hb9.cell 0
  have d1 := hb9.cell 1
  have d2 := hb9.cell 2
  rw [← hw9]
  clear hw9 hb9 c0 c1 c2 f0 f1 f2 x0 x1 x2 y0 y1 y2
  exact bodyPost_ret (v := .agg #[.int .u64 0, .int .u64 (s : Int), .bool false]) (by simp [results, Try.results39, go_sem, d0, d1, d2]) rfl ⟨rfl, HB9.out⟩

set_option maxRecDepth 100000 in
set_option maxHeartbeats 2000000 in
theorem sum_tf_big (a b c d : Int) (p q : Nat) (w : World) (hp : p ≤ 1152921504606846976) (hq : q ≤ 1152921504606846976) (hlt : q < p) (hq0 : 0 < q)
    (h1 : ∀ W, Calls Try.prog 57 #[.int .i64 a, .int .i64 b] W (GivesP p true W)) (h2 : ∀ W, Calls Try.prog 57 #[.int .i64 c, .int .i64 d] W (GivesP q false W)) :
    Calls Try.prog 39 #[.int .i64 a, .int .i64 b, .int .i64 c, .int .i64 d] w (GivesP (p - q) true w) := by
  have HBl : Hid (Blk (w.alloc (.cells #[.int .u64 0, .int .u64 0, .bool false] 60)) w.heap.size 60 #[.int .u64 0, .int .u64 0, .bool false]) := Lib.hid (Blk.new w 60 _)
  have HB0 : Hid (Below w.heap.size w (w.alloc (.cells #[.int .u64 0, .int .u64 0, .bool false] 60))) := Lib.hid ((Below.refl _ w).alloc (Nat.le_refl _) _)
  have hz0 : w.heap.size < (w.alloc (.cells #[.int .u64 0, .int .u64 0, .bool false] 60)).heap.size := by simp
  have H1 := Lib.hid (h1 (w.alloc (.cells #[.int .u64 0, .int .u64 0, .bool false] 60)))
  have H2 := Lib.hid h2
  clear h1 h2
  unfold GivesP wp at H1 H2
  go_enter Try.func39, Try.ntmps39
  go_wp2_with fail
  generalize w.alloc _ = w1 at *
  refine H1.out.mono ?_
  rintro e w2 ⟨rfl, hb2⟩
  have HBl2 : Hid (Blk w2 w.heap.size 60 #[.int .u64 0, .int .u64 0, .bool false]) := Lib.hid ((hb2.block _ hz0).trans HBl.out)
  have HB2 : Hid (Below w.heap.size w w2) := Lib.hid (HB0.out.trans (hb2.mono HB0.out.size))
  have hz2 := Nat.lt_of_lt_of_le hz0 hb2.size
  clear hb2
  go_wp2_with fail
  refine (H2.out _).mono ?_
  rintro e w3 ⟨rfl, hb3⟩
  have HBl3 : Hid (Blk w3 w.heap.size 60 #[.int .u64 0, .int .u64 0, .bool false]) := Lib.hid ((hb3.block _ hz2).trans HBl2.out)
  have HB3 : Hid (Below w.heap.size w w3) := Lib.hid (HB2.out.trans (hb3.mono HB2.out.size))
  have hz3 := Nat.lt_of_lt_of_le hz2 hb3.size
  clear hb3 HB2 HBl2 HB0 HBl hz0 hz2 H1 H2
  go_upto_region 2 with fail
  obtain ⟨wx, hwx⟩ : ∃ wx, wx = (w3.alloc (.cells #[.int .u64 0, .int .u64 (p : Int), .bool true] 60)).alloc (.cells #[.int .u64 0, .int .u64 (q : Int), .bool false] 60) := ⟨_, rfl⟩
  have HX : Hid (Blk wx w3.heap.size 60 #[.int .u64 0, .int .u64 (p : Int), .bool true]) := Lib.hid (by rw [hwx]; exact (Blk.new w3 60 _).alloc _)
  have HY : Hid (Blk wx (w3.heap.size + 1) 60 #[.int .u64 0, .int .u64 (q : Int), .bool false]) := Lib.hid (by
    rw [hwx]
    have := Blk.new (w3.alloc (.cells #[.int .u64 0, .int .u64 (p : Int), .bool true] 60)) 60 #[.int .u64 0, .int .u64 (q : Int), .bool false]
    rw [World.size_alloc] at this
    exact this)
  have HR : Hid (Blk wx w.heap.size 60 #[.int .u64 0, .int .u64 0, .bool false]) := Lib.hid (by rw [hwx]; exact (HBl3.out.alloc _).alloc _)
  have HBx : Hid (Below w.heap.size w wx) := Lib.hid (by rw [hwx]; exact (HB3.out.alloc HB3.out.size _).alloc (by have := HB3.out.size; simp; omega) _)
  rw [← hwx]
  clear hwx HB3 HBl3
  have x0 := HX.out.cell 0
  have x1 := HX.out.cell 1
  have x2 := HX.out.cell 2
  have y0 := HY.out.cell 0
  have y1 := HY.out.cell 1
  have y2 := HY.out.cell 2
  have c0 := HR.out.cell 0
  have c1 := HR.out.cell 1
  have c2 := HR.out.cell 2
  have f0 := HR.out.frozen 0
  have f1 := HR.out.frozen 1
  have f2 := HR.out.frozen 2
  have e0 : ((p : Int) == 0) = false := by rw [beq_eq_false_iff_ne]; omega
  have e1 : ((q : Int) == 0) = false := by rw [beq_eq_false_iff_ne]; omega
  have e2 : decide ((p : Int) < (q : Int)) = false := by simp; omega
  have hs : ∀ W, (callFunc 59 #[.int .u64 (p : Int), .int .u64 (q : Int), .int .u64 0]).run Try.prog W = .ok (.value (.tuple #[.int .u64 ((p - q : Nat) : Int), .int .u64 0])) W := fun W => call_sub64 p q (by omega) (by omega) W
  have hs0 : ∀ W, (callFunc 59 #[.int .u64 0, .int .u64 0, .int .u64 0]).run Try.prog W = .ok (.value (.tuple #[.int .u64 0, .int .u64 0])) W := fun W => call_sub64 0 0 (by omega) (by omega) W
  have e3 : (((p - q : Nat) : Int) == 0) = false := by rw [beq_eq_false_iff_ne]; omega
  generalize hsum : p - q = s at *
  clear hsum
  go_wp2_with fail
  obtain ⟨w9, hw9⟩ : ∃ w9, w9 = ((wx.setCell ⟨w.heap.size, 0, none⟩ (.int .u64 0)).setCell ⟨w.heap.size, 1, none⟩ (.int .u64 (s : Int))).setCell ⟨w.heap.size, 2, none⟩ (.bool true) := ⟨_, rfl⟩
  have hb9 : Blk w9 w.heap.size 60 #[.int .u64 0, .int .u64 (s : Int), .bool true] := by rw [hw9]; exact ((HR.out.set_ 0 _).set_ 1 _).set_ 2 _
  have HB9 : Hid (Below w.heap.size w w9) := Lib.hid (by rw [hw9]; exact ((HBx.out.setCell (Nat.le_refl _) _).setCell (Nat.le_refl _) _).setCell (Nat.le_refl _) _)
  have d0 := hb9.cell 0
  have d1 := hb9.cell 1
  have d2 := hb9.cell 2
  rw [← hw9]
  clear hw9 hb9 c0 c1 c2 f0 f1 f2 x0 x1 x2 y0 y1 y2
  exact bodyPost_ret (v := .agg #[.int .u64 0, .int .u64 (s : Int), .bool true]) (by simp [results, Try.results39, go_sem, d0, d1, d2]) rfl ⟨rfl, HB9.out⟩

set_option maxRecDepth 100000 in
set_option maxHeartbeats 2000000 in
theorem sum_ft_eq (a b c d : Int) (p q : Nat) (w : World) (hp : p ≤ 1152921504606846976) (hq : q ≤ 1152921504606846976) (h0 : p = q) (hq0 : 0 < q)
    (h1 : ∀ W, Calls Try.prog 57 #[.int .i64 a, .int .i64 b] W (GivesP p false W)) (h2 : ∀ W, Calls Try.prog 57 #[.int .i64 c, .int .i64 d] W (GivesP q true W)) :
    Calls Try.prog 39 #[.int .i64 a, .int .i64 b, .int .i64 c, .int .i64 d] w (GivesP (0) false w) := by
  have HEQ := Lib.hid h0
  clear h0
  have HBl : Hid (Blk (w.alloc (.cells #[.int .u64 0, .int .u64 0, .bool false] 60)) w.heap.size 60 #[.int .u64 0, .int .u64 0, .bool false]) := Lib.hid (Blk.new w 60 _)
  have HB0 : Hid (Below w.heap.size w (w.alloc (.cells #[.int .u64 0, .int .u64 0, .bool false] 60))) := Lib.hid ((Below.refl _ w).alloc (Nat.le_refl _) _)
  have hz0 : w.heap.size < (w.alloc (.cells #[.int .u64 0, .int .u64 0, .bool false] 60)).heap.size := by simp
  have H1 := Lib.hid (h1 (w.alloc (.cells #[.int .u64 0, .int .u64 0, .bool false] 60)))
  have H2 := Lib.hid h2
  clear h1 h2
  unfold GivesP wp at H1 H2
  go_enter Try.func39, Try.ntmps39
  go_wp2_with fail
  generalize w.alloc _ = w1 at *
  refine H1.out.mono ?_
  rintro e w2 ⟨rfl, hb2⟩
  have HBl2 : Hid (Blk w2 w.heap.size 60 #[.int .u64 0, .int .u64 0, .bool false]) := Lib.hid ((hb2.block _ hz0).trans HBl.out)
  have HB2 : Hid (Below w.heap.size w w2) := Lib.hid (HB0.out.trans (hb2.mono HB0.out.size))
  have hz2 := Nat.lt_of_lt_of_le hz0 hb2.size
  clear hb2
  go_wp2_with fail
  refine (H2.out _).mono ?_
  rintro e w3 ⟨rfl, hb3⟩
  have HBl3 : Hid (Blk w3 w.heap.size 60 #[.int .u64 0, .int .u64 0, .bool false]) := Lib.hid ((hb3.block _ hz2).trans HBl2.out)
  have HB3 : Hid (Below w.heap.size w w3) := Lib.hid (HB2.out.trans (hb3.mono HB2.out.size))
  have hz3 := Nat.lt_of_lt_of_le hz2 hb3.size
  clear hb3 HB2 HBl2 HB0 HBl hz0 hz2 H1 H2
  go_upto_region 2 with fail
  obtain ⟨wx, hwx⟩ : ∃ wx, wx = (w3.alloc (.cells #[.int .u64 0, .int .u64 (p : Int), .bool false] 60)).alloc (.cells #[.int .u64 0, .int .u64 (q : Int), .bool true] 60) := ⟨_, rfl⟩
  have HX : Hid (Blk wx w3.heap.size 60 #[.int .u64 0, .int .u64 (p : Int), .bool false]) := Lib.hid (by rw [hwx]; exact (Blk.new w3 60 _).alloc _)
  have HY : Hid (Blk wx (w3.heap.size + 1) 60 #[.int .u64 0, .int .u64 (q : Int), .bool true]) := Lib.hid (by
    rw [hwx]
    have := Blk.new (w3.alloc (.cells #[.int .u64 0, .int .u64 (p : Int), .bool false] 60)) 60 #[.int .u64 0, .int .u64 (q : Int), .bool true]
    rw [World.size_alloc] at this
    exact this)
  have HR : Hid (Blk wx w.heap.size 60 #[.int .u64 0, .int .u64 0, .bool false]) := Lib.hid (by rw [hwx]; exact (HBl3.out.alloc _).alloc _)
  have HBx : Hid (Below w.heap.size w wx) := Lib.hid (by rw [hwx]; exact (HB3.out.alloc HB3.out.size _).alloc (by have := HB3.out.size; simp; omega) _)
  rw [← hwx]
  clear hwx HB3 HBl3
  have x0 := HX.out.cell 0
  have x1 := HX.out.cell 1
  have x2 := HX.out.cell 2
  have y0 := HY.out.cell 0
  have y1 := HY.out.cell 1
  have y2 := HY.out.cell 2
  have c0 := HR.out.cell 0
  have c1 := HR.out.cell 1
  have c2 := HR.out.cell 2
  have f0 := HR.out.frozen 0
  have f1 := HR.out.frozen 1
  have f2 := HR.out.frozen 2
  have hpq1 : p ≤ q := by have := HEQ.out; omega
  have hpq2 : q ≤ p := by have := HEQ.out; omega
  have e0 : ((p : Int) == 0) = false := by rw [beq_eq_false_iff_ne]; omega
  have e1 : ((q : Int) == 0) = false := by rw [beq_eq_false_iff_ne]; omega
  have e2 : decide ((p : Int) < (q : Int)) = false := by simp; omega
  have hs : ∀ W, (callFunc 59 #[.int .u64 (p : Int), .int .u64 (q : Int), .int .u64 0]).run Try.prog W = .ok (.value (.tuple #[.int .u64 ((p - q : Nat) : Int), .int .u64 0])) W := fun W => call_sub64 p q (by omega) (by omega) W
  have hs0 : ∀ W, (callFunc 59 #[.int .u64 0, .int .u64 0, .int .u64 0]).run Try.prog W = .ok (.value (.tuple #[.int .u64 0, .int .u64 0])) W := fun W => call_sub64 0 0 (by omega) (by omega) W
  have e3 : (((p - q : Nat) : Int) == 0) = true := by rw [beq_iff_eq]; omega
  generalize hsum : p - q = s at *
  clear hsum
  go_wp2_with fail
  obtain ⟨w9, hw9⟩ : ∃ w9, w9 = ((wx.setCell ⟨w.heap.size, 0, none⟩ (.int .u64 0)).setCell ⟨w.heap.size, 1, none⟩ (.int .u64 (0))).setCell ⟨w.heap.size, 2, none⟩ (.bool false) := ⟨_, rfl⟩
  have hb9 : Blk w9 w.heap.size 60 #[.int .u64 0, .int .u64 (0), .bool false] := by rw [hw9]; exact ((HR.out.set_ 0 _).set_ 1 _).set_ 2 _
  have HB9 : Hid (Below w.heap.size w w9) := Lib.hid (by rw [hw9]; exact ((HBx.out.setCell (Nat.le_refl _) _).setCell (Nat.le_refl _) _).setCell (Nat.le_refl _) _)
  have d0 := hb9.cell 0
  have d1 := hb9.cell 1
  have d2 := hb9.cell 2
  rw [← hw9]
  clear hw9 hb9 c0 c1 c2 f0 f1 f2 x0 x1 x2 y0 y1 y2
  exact bodyPost_ret (v := .agg #[.int .u64 0, .int .u64 (0), .bool false]) (by simp [results, Try.results39, go_sem, d0, d1, d2]) rfl ⟨rfl, HB9.out⟩

set_option maxRecDepth 100000 in
set_option maxHeartbeats 2000000 in
theorem sum_tf_eq (a b c d : Int) (p q : Nat) (w : World) (hp : p ≤ 1152921504606846976) (hq : q ≤ 1152921504606846976) (h0 : p = q) (hq0 : 0 < q)
    (h1 : ∀ W, Calls Try.prog 57 #[.int .i64 a, .int .i64 b] W (GivesP p true W)) (h2 : ∀ W, Calls Try.prog 57 #[.int .i64 c, .int .i64 d] W (GivesP q false W)) :
    Calls Try.prog 39 #[.int .i64 a, .int .i64 b, .int .i64 c, .int .i64 d] w (GivesP (0) false w) := by
  have HEQ := Lib.hid h0
  clear h0
  have HBl : Hid (Blk (w.alloc (.cells #[.int .u64 0, .int .u64 0, .bool false] 60)) w.heap.size 60 #[.int .u64 0, .int .u64 0, .bool false]) := Lib.hid (Blk.new w 60 _)
  have HB0 : Hid (Below w.heap.size w (w.alloc (.cells #[.int .u64 0, .int .u64 0, .bool false] 60))) := Lib.hid ((Below.refl _ w).alloc (Nat.le_refl _) _)
  have hz0 : w.heap.size < (w.alloc (.cells #[.int .u64 0, .int .u64 0, .bool false] 60)).heap.size := by simp
  have H1 := Lib.hid (h1 (w.alloc (.cells #[.int .u64 0, .int .u64 0, .bool false] 60)))
  have H2 := Lib.hid h2
  clear h1 h2
  unfold GivesP wp at H1 H2
  go_enter Try.func39, Try.ntmps39
  go_wp2_with fail
  generalize w.alloc _ = w1 at *
  refine H1.out.mono ?_
  rintro e w2 ⟨rfl, hb2⟩
  have HBl2 : Hid (Blk w2 w.heap.size 60 #[.int .u64 0, .int .u64 0, .bool false]) := Lib.hid ((hb2.block _ hz0).trans HBl.out)
  have HB2 : Hid (Below w.heap.size w w2) := Lib.hid (HB0.out.trans (hb2.mono HB0.out.size))
  have hz2 := Nat.lt_of_lt_of_le hz0 hb2.size
  clear hb2
  go_wp2_with fail
  refine (H2.out _).mono ?_
  rintro e w3 ⟨rfl, hb3⟩
  have HBl3 : Hid (Blk w3 w.heap.size 60 #[.int .u64 0, .int .u64 0, .bool false]) := Lib.hid ((hb3.block _ hz2).trans HBl2.out)
  have HB3 : Hid (Below w.heap.size w w3) := Lib.hid (HB2.out.trans (hb3.mono HB2.out.size))
  have hz3 := Nat.lt_of_lt_of_le hz2 hb3.size
  clear hb3 HB2 HBl2 HB0 HBl hz0 hz2 H1 H2
  go_upto_region 2 with fail
  obtain ⟨wx, hwx⟩ : ∃ wx, wx = (w3.alloc (.cells #[.int .u64 0, .int .u64 (p : Int), .bool true] 60)).alloc (.cells #[.int .u64 0, .int .u64 (q : Int), .bool false] 60) := ⟨_, rfl⟩
  have HX : Hid (Blk wx w3.heap.size 60 #[.int .u64 0, .int .u64 (p : Int), .bool true]) := Lib.hid (by rw [hwx]; exact (Blk.new w3 60 _).alloc _)
  have HY : Hid (Blk wx (w3.heap.size + 1) 60 #[.int .u64 0, .int .u64 (q : Int), .bool false]) := Lib.hid (by
    rw [hwx]
    have := Blk.new (w3.alloc (.cells #[.int .u64 0, .int .u64 (p : Int), .bool true] 60)) 60 #[.int .u64 0, .int .u64 (q : Int), .bool false]
    rw [World.size_alloc] at this
    exact this)
  have HR : Hid (Blk wx w.heap.size 60 #[.int .u64 0, .int .u64 0, .bool false]) := Lib.hid (by rw [hwx]; exact (HBl3.out.alloc _).alloc _)
  have HBx : Hid (Below w.heap.size w wx) := Lib.hid (by rw [hwx]; exact (HB3.out.alloc HB3.out.size _).alloc (by have := HB3.out.size; simp; omega) _)
  rw [← hwx]
  clear hwx HB3 HBl3
  have x0 := HX.out.cell 0
  have x1 := HX.out.cell 1
  have x2 := HX.out.cell 2
  have y0 := HY.out.cell 0
  have y1 := HY.out.cell 1
  have y2 := HY.out.cell 2
  have c0 := HR.out.cell 0
  have c1 := HR.out.cell 1
  have c2 := HR.out.cell 2
  have f0 := HR.out.frozen 0
  have f1 := HR.out.frozen 1
  have f2 := HR.out.frozen 2
  have hpq1 : p ≤ q := by have := HEQ.out; omega
  have hpq2 : q ≤ p := by have := HEQ.out; omega
  have e0 : ((p : Int) == 0) = false := by rw [beq_eq_false_iff_ne]; omega
  have e1 : ((q : Int) == 0) = false := by rw [beq_eq_false_iff_ne]; omega
  have e2 : decide ((p : Int) < (q : Int)) = false := by simp; omega
  have hs : ∀ W, (callFunc 59 #[.int .u64 (p : Int), .int .u64 (q : Int), .int .u64 0]).run Try.prog W = .ok (.value (.tuple #[.int .u64 ((p - q : Nat) : Int), .int .u64 0])) W := fun W => call_sub64 p q (by omega) (by omega) W
  have hs0 : ∀ W, (callFunc 59 #[.int .u64 0, .int .u64 0, .int .u64 0]).run Try.prog W = .ok (.value (.tuple #[.int .u64 0, .int .u64 0])) W := fun W => call_sub64 0 0 (by omega) (by omega) W
  have e3 : (((p - q : Nat) : Int) == 0) = true := by rw [beq_iff_eq]; omega
  generalize hsum : p - q = s at *
  clear hsum
  go_wp2_with fail
  obtain ⟨w9, hw9⟩ : ∃ w9, w9 = ((wx.setCell ⟨w.heap.size, 0, none⟩ (.int .u64 0)).setCell ⟨w.heap.size, 1, none⟩ (.int .u64 (0))).setCell ⟨w.heap.size, 2, none⟩ (.bool false) := ⟨_, rfl⟩
  have hb9 : Blk w9 w.heap.size 60 #[.int .u64 0, .int .u64 (0), .bool false] := by rw [hw9]; exact ((HR.out.set_ 0 _).set_ 1 _).set_ 2 _
  have HB9 : Hid (Below w.heap.size w w9) := Lib.hid (by rw [hw9]; exact ((HBx.out.setCell (Nat.le_refl _) _).setCell (Nat.le_refl _) _).setCell (Nat.le_refl _) _)
  have d0 := hb9.cell 0
  have d1 := hb9.cell 1
  have d2 := hb9.cell 2
  rw [← hw9]
  clear hw9 hb9 c0 c1 c2 f0 f1 f2 x0 x1 x2 y0 y1 y2
  exact bodyPost_ret (v := .agg #[.int .u64 0, .int .u64 (0), .bool false]) (by simp [results, Try.results39, go_sem, d0, d1, d2]) rfl ⟨rfl, HB9.out⟩

set_option maxRecDepth 100000 in
set_option maxHeartbeats 2000000 in
theorem sum_ft_small (a b c d : Int) (p q : Nat) (w : World) (hp : p ≤ 1152921504606846976) (hq : q ≤ 1152921504606846976) (hlt : p < q) (hp0 : 0 < p)
    (h1 : ∀ W, Calls Try.prog 57 #[.int .i64 a, .int .i64 b] W (GivesP p false W)) (h2 : ∀ W, Calls Try.prog 57 #[.int .i64 c, .int .i64 d] W (GivesP q true W)) :
    Calls Try.prog 39 #[.int .i64 a, .int .i64 b, .int .i64 c, .int .i64 d] w (GivesP (q - p) true w) := by
  have HBl : Hid (Blk (w.alloc (.cells #[.int .u64 0, .int .u64 0, .bool false] 60)) w.heap.size 60 #[.int .u64 0, .int .u64 0, .bool false]) := Lib.hid (Blk.new w 60 _)
  have HB0 : Hid (Below w.heap.size w (w.alloc (.cells #[.int .u64 0, .int .u64 0, .bool false] 60))) := Lib.hid ((Below.refl _ w).alloc (Nat.le_refl _) _)
  have hz0 : w.heap.size < (w.alloc (.cells #[.int .u64 0, .int .u64 0, .bool false] 60)).heap.size := by simp
  have H1 := Lib.hid (h1 (w.alloc (.cells #[.int .u64 0, .int .u64 0, .bool false] 60)))
  have H2 := Lib.hid h2
  clear h1 h2
  unfold GivesP wp at H1 H2
  go_enter Try.func39, Try.ntmps39
  go_wp2_with fail
  generalize w.alloc _ = w1 at *
  refine H1.out.mono ?_
  rintro e w2 ⟨rfl, hb2⟩
  have HBl2 : Hid (Blk w2 w.heap.size 60 #[.int .u64 0, .int .u64 0, .bool false]) := Lib.hid ((hb2.block _ hz0).trans HBl.out)
  have HB2 : Hid (Below w.heap.size w w2) := Lib.hid (HB0.out.trans (hb2.mono HB0.out.size))
  have hz2 := Nat.lt_of_lt_of_le hz0 hb2.size
  clear hb2
  go_wp2_with fail
  refine (H2.out _).mono ?_
  rintro e w3 ⟨rfl, hb3⟩
  have HBl3 : Hid (Blk w3 w.heap.size 60 #[.int .u64 0, .int .u64 0, .bool false]) := Lib.hid ((hb3.block _ hz2).trans HBl2.out)
  have HB3 : Hid (Below w.heap.size w w3) := Lib.hid (HB2.out.trans (hb3.mono HB2.out.size))
  have hz3 := Nat.lt_of_lt_of_le hz2 hb3.size
  clear hb3 HB2 HBl2 HB0 HBl hz0 hz2 H1 H2
  go_upto_region 2 with fail
  obtain ⟨wx, hwx⟩ : ∃ wx, wx = (w3.alloc (.cells #[.int .u64 0, .int .u64 (p : Int), .bool false] 60)).alloc (.cells #[.int .u64 0, .int .u64 (q : Int), .bool true] 60) := ⟨_, rfl⟩
  have HX : Hid (Blk wx w3.heap.size 60 #[.int .u64 0, .int .u64 (p : Int), .bool false]) := Lib.hid (by rw [hwx]; exact (Blk.new w3 60 _).alloc _)
  have HY : Hid (Blk wx (w3.heap.size + 1) 60 #[.int .u64 0, .int .u64 (q : Int), .bool true]) := Lib.hid (by
    rw [hwx]
    have := Blk.new (w3.alloc (.cells #[.int .u64 0, .int .u64 (p : Int), .bool false] 60)) 60 #[.int .u64 0, .int .u64 (q : Int), .bool true]
    rw [World.size_alloc] at this
    exact this)
  have HR : Hid (Blk wx w.heap.size 60 #[.int .u64 0, .int .u64 0, .bool false]) := Lib.hid (by rw [hwx]; exact (HBl3.out.alloc _).alloc _)
  have HBx : Hid (Below w.heap.size w wx) := Lib.hid (by rw [hwx]; exact (HB3.out.alloc HB3.out.size _).alloc (by have := HB3.out.size; simp; omega) _)
  rw [← hwx]
  clear hwx HB3 HBl3
  have x0 := HX.out.cell 0
  have x1 := HX.out.cell 1
  have x2 := HX.out.cell 2
  have y0 := HY.out.cell 0
  have y1 := HY.out.cell 1
  have y2 := HY.out.cell 2
  have c0 := HR.out.cell 0
  have c1 := HR.out.cell 1
  have c2 := HR.out.cell 2
  have f0 := HR.out.frozen 0
  have f1 := HR.out.frozen 1
  have f2 := HR.out.frozen 2
  have e0 : ((p : Int) == 0) = false := by rw [beq_eq_false_iff_ne]; omega
  have e1 : ((q : Int) == 0) = false := by rw [beq_eq_false_iff_ne]; omega
  have e2 : decide ((p : Int) < (q : Int)) = true := by simp; omega
  have hs : ∀ W, (callFunc 59 #[.int .u64 (q : Int), .int .u64 (p : Int), .int .u64 0]).run Try.prog W = .ok (.value (.tuple #[.int .u64 ((q - p : Nat) : Int), .int .u64 0])) W := fun W => call_sub64 q p (by omega) (by omega) W
  have hs0 : ∀ W, (callFunc 59 #[.int .u64 0, .int .u64 0, .int .u64 0]).run Try.prog W = .ok (.value (.tuple #[.int .u64 0, .int .u64 0])) W := fun W => call_sub64 0 0 (by omega) (by omega) W
  have e3 : (((q - p : Nat) : Int) == 0) = false := by rw [beq_eq_false_iff_ne]; omega
  generalize hsum : q - p = s at *
  clear hsum
  have g0 := HX.out.frozen 0
  have g1 := HX.out.frozen 1
  have g2 := HX.out.frozen 2
  have k0 := HY.out.frozen 0
  have k1 := HY.out.frozen 1
  have k2 := HY.out.frozen 2
  go_upto_region 8 with fail
  obtain ⟨ws, hws⟩ : ∃ ws, ws = (((((wx.setCell ⟨w3.heap.size, 0, none⟩ (.int .u64 0)).setCell ⟨w3.heap.size, 1, none⟩ (.int .u64 (q : Int))).setCell ⟨w3.heap.size, 2, none⟩ (.bool true)).setCell ⟨w3.heap.size + 1, 0, none⟩ (.int .u64 0)).setCell ⟨w3.heap.size + 1, 1, none⟩ (.int .u64 (p : Int))).setCell ⟨w3.heap.size + 1, 2, none⟩ (.bool false) := ⟨_, rfl⟩
  have hlt3 : w3.heap.size ≠ w3.heap.size + 1 := by omega
  have hw3 : w.heap.size ≠ w3.heap.size := by omega
  have hw4 : w.heap.size ≠ w3.heap.size + 1 := by omega
  have HX2 : Hid (Blk ws w3.heap.size 60 #[.int .u64 0, .int .u64 (q : Int), .bool true]) := Lib.hid (by rw [hws]; exact (((((HX.out.set_ 0 _).set_ 1 _).set_ 2 _).far hlt3 _).far hlt3 _).far hlt3 _)
  have HY2 : Hid (Blk ws (w3.heap.size + 1) 60 #[.int .u64 0, .int .u64 (p : Int), .bool false]) := Lib.hid (by rw [hws]; exact (((((HY.out.far hlt3.symm _).far hlt3.symm _).far hlt3.symm _).set_ 0 _).set_ 1 _).set_ 2 _)
  have HR2 : Hid (Blk ws w.heap.size 60 #[.int .u64 0, .int .u64 0, .bool false]) := Lib.hid (by rw [hws]; exact (((((HR.out.far hw3 _).far hw3 _).far hw3 _).far hw4 _).far hw4 _).far hw4 _)
  have HBs : Hid (Below w.heap.size w ws) := Lib.hid (by rw [hws]; exact (((((HBx.out.setCell (by show w.heap.size ≤ w3.heap.size; omega) _).setCell (by show w.heap.size ≤ w3.heap.size; omega) _).setCell (by show w.heap.size ≤ w3.heap.size; omega) _).setCell (by show w.heap.size ≤ w3.heap.size + 1; omega) _).setCell (by show w.heap.size ≤ w3.heap.size + 1; omega) _).setCell (by show w.heap.size ≤ w3.heap.size + 1; omega) _)
  rw [← hws]
  clear hws x0 x1 x2 y0 y1 y2 c0 c1 c2 f0 f1 f2 g0 g1 g2 k0 k1 k2 HX HY HR HBx
  have x0 := HX2.out.cell 0
  have x1 := HX2.out.cell 1
  have x2 := HX2.out.cell 2
  have y0 := HY2.out.cell 0
  have y1 := HY2.out.cell 1
  have y2 := HY2.out.cell 2
  have c0 := HR2.out.cell 0
  have c1 := HR2.out.cell 1
  have c2 := HR2.out.cell 2
  have f0 := HR2.out.frozen 0
  have f1 := HR2.out.frozen 1
  have f2 := HR2.out.frozen 2
  go_wp2_with fail
  obtain ⟨w9, hw9⟩ : ∃ w9, w9 = ((ws.setCell ⟨w.heap.size, 0, none⟩ (.int .u64 0)).setCell ⟨w.heap.size, 1, none⟩ (.int .u64 (s : Int))).setCell ⟨w.heap.size, 2, none⟩ (.bool true) := ⟨_, rfl⟩
  have hb9 : Blk w9 w.heap.size 60 #[.int .u64 0, .int .u64 (s : Int), .bool true] := by rw [hw9]; exact ((HR2.out.set_ 0 _).set_ 1 _).set_ 2 _
  have HB9 : Hid (Below w.heap.size w w9) := Lib.hid (by rw [hw9]; exact ((HBs.out.setCell (Nat.le_refl _) _).setCell (Nat.le_refl _) _).setCell (Nat.le_refl _) _)
  have d0 := hb9.cell 0
  have d1 := hb9.cell 1
  have d2 := hb9.cell 2
  rw [← hw9]
  clear hw9 hb9 c0 c1 c2 f0 f1 f2 x0 x1 x2 y0 y1 y2
  exact bodyPost_ret (v := .agg #[.int .u64 0, .int .u64 (s : Int), .bool true]) (by simp [results, Try.results39, go_sem, d0, d1, d2]) rfl ⟨rfl, HB9.out⟩

set_option maxRecDepth 100000 in
set_option maxHeartbeats 2000000 in
theorem sum_tf_small (a b c d : Int) (p q : Nat) (w : World) (hp : p ≤ 1152921504606846976) (hq : q ≤ 1152921504606846976) (hlt : p < q) (hp0 : 0 < p)
    (h1 : ∀ W, Calls Try.prog 57 #[.int .i64 a, .int .i64 b] W (GivesP p true W)) (h2 : ∀ W, Calls Try.prog 57 #[.int .i64 c, .int .i64 d] W (GivesP q false W)) :
    Calls Try.prog 39 #[.int .i64 a, .int .i64 b, .int .i64 c, .int .i64 d] w (GivesP (q - p) false w) := by
  have HBl : Hid (Blk (w.alloc (.cells #[.int .u64 0, .int .u64 0, .bool false] 60)) w.heap.size 60 #[.int .u64 0, .int .u64 0, .bool false]) := Lib.hid (Blk.new w 60 _)
  have HB0 : Hid (Below w.heap.size w (w.alloc (.cells #[.int .u64 0, .int .u64 0, .bool false] 60))) := Lib.hid ((Below.refl _ w).alloc (Nat.le_refl _) _)
  have hz0 : w.heap.size < (w.alloc (.cells #[.int .u64 0, .int .u64 0, .bool false] 60)).heap.size := by simp
  have H1 := Lib.hid (h1 (w.alloc (.cells #[.int .u64 0, .int .u64 0, .bool false] 60)))
  have H2 := Lib.hid h2
  clear h1 h2
  unfold GivesP wp at H1 H2
  go_enter Try.func39, Try.ntmps39
  go_wp2_with fail
  generalize w.alloc _ = w1 at *
  refine H1.out.mono ?_
  rintro e w2 ⟨rfl, hb2⟩
  have HBl2 : Hid (Blk w2 w.heap.size 60 #[.int .u64 0, .int .u64 0, .bool false]) := Lib.hid ((hb2.block _ hz0).trans HBl.out)
  have HB2 : Hid (Below w.heap.size w w2) := Lib.hid (HB0.out.trans (hb2.mono HB0.out.size))
  have hz2 := Nat.lt_of_lt_of_le hz0 hb2.size
  clear hb2
  go_wp2_with fail
  refine (H2.out _).mono ?_
  rintro e w3 ⟨rfl, hb3⟩
  have HBl3 : Hid (Blk w3 w.heap.size 60 #[.int .u64 0, .int .u64 0, .bool false]) := Lib.hid ((hb3.block _ hz2).trans HBl2.out)
  have HB3 : Hid (Below w.heap.size w w3) := Lib.hid (HB2.out.trans (hb3.mono HB2.out.size))
  have hz3 := Nat.lt_of_lt_of_le hz2 hb3.size
  clear hb3 HB2 HBl2 HB0 HBl hz0 hz2 H1 H2
  go_upto_region 2 with fail
  obtain ⟨wx, hwx⟩ : ∃ wx, wx = (w3.alloc (.cells #[.int .u64 0, .int .u64 (p : Int), .bool true] 60)).alloc (.cells #[.int .u64 0, .int .u64 (q : Int), .bool false] 60) := ⟨_, rfl⟩
  have HX : Hid (Blk wx w3.heap.size 60 #[.int .u64 0, .int .u64 (p : Int), .bool true]) := Lib.hid (by rw [hwx]; exact (Blk.new w3 60 _).alloc _)
  have HY : Hid (Blk wx (w3.heap.size + 1) 60 #[.int .u64 0, .int .u64 (q : Int), .bool false]) := Lib.hid (by
    rw [hwx]
    have := Blk.new (w3.alloc (.cells #[.int .u64 0, .int .u64 (p : Int), .bool true] 60)) 60 #[.int .u64 0, .int .u64 (q : Int), .bool false]
    rw [World.size_alloc] at this
    exact this)
  have HR : Hid (Blk wx w.heap.size 60 #[.int .u64 0, .int .u64 0, .bool false]) := Lib.hid (by rw [hwx]; exact (HBl3.out.alloc _).alloc _)
  have HBx : Hid (Below w.heap.size w wx) := Lib.hid (by rw [hwx]; exact (HB3.out.alloc HB3.out.size _).alloc (by have := HB3.out.size; simp; omega) _)
  rw [← hwx]
  clear hwx HB3 HBl3
  have x0 := HX.out.cell 0
  have x1 := HX.out.cell 1
  have x2 := HX.out.cell 2
  have y0 := HY.out.cell 0
  have y1 := HY.out.cell 1
  have y2 := HY.out.cell 2
  have c0 := HR.out.cell 0
  have c1 := HR.out.cell 1
  have c2 := HR.out.cell 2
  have f0 := HR.out.frozen 0
  have f1 := HR.out.frozen 1
  have f2 := HR.out.frozen 2
  have e0 : ((p : Int) == 0) = false := by rw [beq_eq_false_iff_ne]; omega
  have e1 : ((q : Int) == 0) = false := by rw [beq_eq_false_iff_ne]; omega
  have e2 : decide ((p : Int) < (q : Int)) = true := by simp; omega
  have hs : ∀ W, (callFunc 59 #[.int .u64 (q : Int), .int .u64 (p : Int), .int .u64 0]).run Try.prog W = .ok (.value (.tuple #[.int .u64 ((q - p : Nat) : Int), .int .u64 0])) W := fun W => call_sub64 q p (by omega) (by omega) W
  have hs0 : ∀ W, (callFunc 59 #[.int .u64 0, .int .u64 0, .int .u64 0]).run Try.prog W = .ok (.value (.tuple #[.int .u64 0, .int .u64 0])) W := fun W => call_sub64 0 0 (by omega) (by omega) W
  have e3 : (((q - p : Nat) : Int) == 0) = false := by rw [beq_eq_false_iff_ne]; omega
  generalize hsum : q - p = s at *
  clear hsum
  have g0 := HX.out.frozen 0
  have g1 := HX.out.frozen 1
  have g2 := HX.out.frozen 2
  have k0 := HY.out.frozen 0
  have k1 := HY.out.frozen 1
  have k2 := HY.out.frozen 2
  go_upto_region 8 with fail
  obtain ⟨ws, hws⟩ : ∃ ws, ws = (((((wx.setCell ⟨w3.heap.size, 0, none⟩ (.int .u64 0)).setCell ⟨w3.heap.size, 1, none⟩ (.int .u64 (q : Int))).setCell ⟨w3.heap.size, 2, none⟩ (.bool false)).setCell ⟨w3.heap.size + 1, 0, none⟩ (.int .u64 0)).setCell ⟨w3.heap.size + 1, 1, none⟩ (.int .u64 (p : Int))).setCell ⟨w3.heap.size + 1, 2, none⟩ (.bool true) := ⟨_, rfl⟩
  have hlt3 : w3.heap.size ≠ w3.heap.size + 1 := by omega
  have hw3 : w.heap.size ≠ w3.heap.size := by omega
  have hw4 : w.heap.size ≠ w3.heap.size + 1 := by omega
  have HX2 : Hid (Blk ws w3.heap.size 60 #[.int .u64 0, .int .u64 (q : Int), .bool false]) := Lib.hid (by rw [hws]; exact (((((HX.out.set_ 0 _).set_ 1 _).set_ 2 _).far hlt3 _).far hlt3 _).far hlt3 _)
  have HY2 : Hid (Blk ws (w3.heap.size + 1) 60 #[.int .u64 0, .int .u64 (p : Int), .bool true]) := Lib.hid (by rw [hws]; exact (((((HY.out.far hlt3.symm _).far hlt3.symm _).far hlt3.symm _).set_ 0 _).set_ 1 _).set_ 2 _)
  have HR2 : Hid (Blk ws w.heap.size 60 #[.int .u64 0, .int .u64 0, .bool false]) := Lib.hid (by rw [hws]; exact (((((HR.out.far hw3 _).far hw3 _).far hw3 _).far hw4 _).far hw4 _).far hw4 _)
  have HBs : Hid (Below w.heap.size w ws) := Lib.hid (by rw [hws]; exact (((((HBx.out.setCell (by show w.heap.size ≤ w3.heap.size; omega) _).setCell (by show w.heap.size ≤ w3.heap.size; omega) _).setCell (by show w.heap.size ≤ w3.heap.size; omega) _).setCell (by show w.heap.size ≤ w3.heap.size + 1; omega) _).setCell (by show w.heap.size ≤ w3.heap.size + 1; omega) _).setCell (by show w.heap.size ≤ w3.heap.size + 1; omega) _)
  rw [← hws]
  clear hws x0 x1 x2 y0 y1 y2 c0 c1 c2 f0 f1 f2 g0 g1 g2 k0 k1 k2 HX HY HR HBx
  have x0 := HX2.out.cell 0
  have x1 := HX2.out.cell 1
  have x2 := HX2.out.cell 2
  have y0 := HY2.out.cell 0
  have y1 := HY2.out.cell 1
  have y2 := HY2.out.cell 2
  have c0 := HR2.out.cell 0
  have c1 := HR2.out.cell 1
  have c2 := HR2.out.cell 2
  have f0 := HR2.out.frozen 0
  have f1 := HR2.out.frozen 1
  have f2 := HR2.out.frozen 2
  go_wp2_with fail
  obtain ⟨w9, hw9⟩ : ∃ w9, w9 = ((ws.setCell ⟨w.heap.size, 0, none⟩ (.int .u64 0)).setCell ⟨w.heap.size, 1, none⟩ (.int .u64 (s : Int))).setCell ⟨w.heap.size, 2, none⟩ (.bool false) := ⟨_, rfl⟩
  have hb9 : Blk w9 w.heap.size 60 #[.int .u64 0, .int .u64 (s : Int), .bool false] := by rw [hw9]; exact ((HR2.out.set_ 0 _).set_ 1 _).set_ 2 _
  have HB9 : Hid (Below w.heap.size w w9) := Lib.hid (by rw [hw9]; exact ((HBs.out.setCell (Nat.le_refl _) _).setCell (Nat.le_refl _) _).setCell (Nat.le_refl _) _)
  have d0 := hb9.cell 0
  have d1 := hb9.cell 1
  have d2 := hb9.cell 2
  rw [← hw9]
  clear hw9 hb9 c0 c1 c2 f0 f1 f2 x0 x1 x2 y0 y1 y2
  exact bodyPost_ret (v := .agg #[.int .u64 0, .int .u64 (s : Int), .bool false]) (by simp [results, Try.results39, go_sem, d0, d1, d2]) rfl ⟨rfl, HB9.out⟩

theorem wd_wp (S : Int) (p : Nat) (x : Bool) (h1 : S.natAbs = p) (h2 : decide (S < 0) = x) : wd S = wp p x := by unfold wd wp; rw [h1, h2]

theorem sum_any (a b c d : Int) (ha : a.natAbs ≤ 1073741824) (hb : b.natAbs ≤ 1073741824) (hc : c.natAbs ≤ 1073741824) (hd : d.natAbs ≤ 1073741824) (w : World) :
    Calls Try.prog 39 #[.int .i64 a, .int .i64 b, .int .i64 c, .int .i64 d] w (GivesW (a * b + c * d) w) := by
  have h1 := fun W => product_any a b ha hb W
  have h2 := fun W => product_any c d hc hd W
  have p2 : (a * b).natAbs ≤ 1073741824 * 1073741824 := by rw [Int.natAbs_mul]; exact Nat.mul_le_mul ha hb
  have q2 : (c * d).natAbs ≤ 1073741824 * 1073741824 := by rw [Int.natAbs_mul]; exact Nat.mul_le_mul hc hd
  generalize a * b = S at *
  generalize c * d = T at *
  obtain ⟨p, hp⟩ : ∃ p, p = S.natAbs := ⟨_, rfl⟩
  obtain ⟨q, hq⟩ : ∃ q, q = T.natAbs := ⟨_, rfl⟩
  have f1 : ∀ x, decide (S < 0) = x → ∀ W, Calls Try.prog 57 #[.int .i64 a, .int .i64 b] W (GivesP p x W) := fun x hx W => by
    have := h1 W
    unfold GivesW at this
    rw [wd_wp S p x hp.symm hx] at this
    exact this
  have f2 : ∀ x, decide (T < 0) = x → ∀ W, Calls Try.prog 57 #[.int .i64 c, .int .i64 d] W (GivesP q x W) := fun x hx W => by
    have := h2 W
    unfold GivesW at this
    rw [wd_wp T q x hq.symm hx] at this
    exact this
  have key : ∀ r z, (S + T).natAbs = r → decide (S + T < 0) = z → Calls Try.prog 39 #[.int .i64 a, .int .i64 b, .int .i64 c, .int .i64 d] w (GivesP r z w) → Calls Try.prog 39 #[.int .i64 a, .int .i64 b, .int .i64 c, .int .i64 d] w (GivesW (S + T) w) := fun r z e1 e2 h => by
    unfold GivesW
    rw [wd_wp (S + T) r z e1 e2]
    exact h
  by_cases s0 : S < 0
  · have g1 := f1 true (decide_eq_true s0)
    by_cases t0 : T < 0
    · exact key _ _ (by omega) (decide_eq_true (by omega)) (sum_tt a b c d p q w (by omega) (by omega) g1 (f2 true (decide_eq_true t0)))
    · have g2 := f2 false (decide_eq_false t0)
      by_cases z0 : q = 0
      · exact key _ _ (by omega) (decide_eq_true (by omega)) (sum_tz a b c d p q w (by omega) (by omega) z0 g1 g2)
      · rcases Nat.lt_trichotomy p q with h | h | h
        · exact key _ _ (by omega) (decide_eq_false (by omega)) (sum_tf_small a b c d p q w (by omega) (by omega) h (by omega) g1 g2)
        · exact key _ _ (by omega) (decide_eq_false (by omega)) (sum_tf_eq a b c d p q w (by omega) (by omega) h (by omega) g1 g2)
        · exact key _ _ (by omega) (decide_eq_true (by omega)) (sum_tf_big a b c d p q w (by omega) (by omega) h (by omega) g1 g2)
  · have g1 := f1 false (decide_eq_false s0)
    by_cases t0 : T < 0
    · have g2 := f2 true (decide_eq_true t0)
      by_cases z0 : p = 0
      · exact key _ _ (by omega) (decide_eq_true (by omega)) (sum_zt a b c d p q w (by omega) (by omega) z0 g1 g2)
      · rcases Nat.lt_trichotomy p q with h | h | h
        · exact key _ _ (by omega) (decide_eq_true (by omega)) (sum_ft_small a b c d p q w (by omega) (by omega) h (by omega) g1 g2)
        · exact key _ _ (by omega) (decide_eq_false (by omega)) (sum_ft_eq a b c d p q w (by omega) (by omega) h (by omega) g1 g2)
        · exact key _ _ (by omega) (decide_eq_false (by omega)) (sum_ft_big a b c d p q w (by omega) (by omega) h (by omega) g1 g2)
    · exact key _ _ (by omega) (decide_eq_false (by omega)) (sum_ff a b c d p q w (by omega) (by omega) g1 (f2 false (decide_eq_false t0)))

end Go.Proofs.Ytjldhikadijbiaa
