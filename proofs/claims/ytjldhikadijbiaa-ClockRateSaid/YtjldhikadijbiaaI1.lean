/- The walk of interval's Add (printed by gen_i1.py). -/
import Derived.Test.YtjldhikadijbiaaH9
namespace Go.Proofs.Ytjldhikadijbiaa
open Go.RowKit

set_option maxRecDepth 100000 in
set_option maxHeartbeats 4000000 in
theorem iadd_core (n1 : Int) (d1 : Nat) (n2 : Int) (d2 : Nat) (m1 : Int) (e1 : Nat) (m2 : Int) (e2 : Nat) (p : Int) (q : Nat) (r : Int) (s : Nat)
    (hx : Iv n1 d1 n2 d2) (hy : Iv m1 e1 m2 e2) (h1 : ∀ w, Calls Try.prog 15 #[fr n1 d1, fr m1 e1] w (GivesF p q w)) (h2 : ∀ w, Calls Try.prog 15 #[fr n2 d2, fr m2 e2] w (GivesF r s w)) (w : World) :
    Calls Try.prog 18 #[iv n1 d1 n2 d2, iv m1 e1 m2 e2] w (GivesV p q r s w) := by
  have HVx := fun W => Lib.hid (ivalid_any n1 d1 n2 d2 hx W)
  have HVy := fun W => Lib.hid (ivalid_any m1 e1 m2 e2 hy W)
  have HF1 := fun W => Lib.hid (h1 W)
  have HF2 := fun W => Lib.hid (h2 W)
  clear hx hy h1 h2
  obtain ⟨w0, hw0⟩ : ∃ w0, w0 = ((w.alloc (.cells #[.int .i64 n1, .int .i64 (d1 : Int), .int .i64 n2, .int .i64 (d2 : Int)] 35)).alloc (.cells #[.int .i64 m1, .int .i64 (e1 : Int), .int .i64 m2, .int .i64 (e2 : Int)] 35)).alloc (.cells #[.int .i64 0, .int .i64 0, .int .i64 0, .int .i64 0] 35) := ⟨_, rfl⟩
  have HA : Hid (Blk w0 w.heap.size 35 #[.int .i64 n1, .int .i64 (d1 : Int), .int .i64 n2, .int .i64 (d2 : Int)]) := Lib.hid (by rw [hw0]; exact ((Blk.new w 35 _).alloc _).alloc _)
  have HY : Hid (Blk w0 (w.heap.size + 1) 35 #[.int .i64 m1, .int .i64 (e1 : Int), .int .i64 m2, .int .i64 (e2 : Int)]) := Lib.hid (by
    rw [hw0]
    have := Blk.new (w.alloc (.cells #[.int .i64 n1, .int .i64 (d1 : Int), .int .i64 n2, .int .i64 (d2 : Int)] 35)) 35 #[.int .i64 m1, .int .i64 (e1 : Int), .int .i64 m2, .int .i64 (e2 : Int)]
    rw [World.size_alloc] at this
    exact this.alloc _)
  have HR : Hid (Blk w0 (w.heap.size + 1 + 1) 35 #[.int .i64 0, .int .i64 0, .int .i64 0, .int .i64 0]) := Lib.hid (by
    rw [hw0]
    have := Blk.new ((w.alloc (.cells #[.int .i64 n1, .int .i64 (d1 : Int), .int .i64 n2, .int .i64 (d2 : Int)] 35)).alloc (.cells #[.int .i64 m1, .int .i64 (e1 : Int), .int .i64 m2, .int .i64 (e2 : Int)] 35)) 35 #[.int .i64 0, .int .i64 0, .int .i64 0, .int .i64 0]
    rw [World.size_alloc, World.size_alloc] at this
    exact this)
  have HB0 : Hid (Below w.heap.size w w0) := Lib.hid (by rw [hw0]; exact (((Below.refl _ w).alloc (Nat.le_refl _) _).alloc (by simp) _).alloc (by simp; omega) _)
  have HW0 := Lib.hid hw0
  clear hw0
  unfold iv at HVx HVy
  unfold fr GivesF fr at HF1 HF2
  unfold GivesV iv
  go_enter Try.func18, Try.ntmps18
  go_upto_region 1 with fail
  rw [← HW0.out]
  have c0 := HA.out.cell 0
  have c1 := HA.out.cell 1
  have c2 := HA.out.cell 2
  have c3 := HA.out.cell 3
  go_wp2_with fail
  refine (HVx _).out.mono ?_
  rintro e w1 ⟨rfl, hb1⟩
  have HA1 := Lib.hid (HA.out.later hb1)
  have HY1 := Lib.hid (HY.out.later hb1)
  have HR1 := Lib.hid (HR.out.later hb1)
  have HB1 := Lib.hid (HB0.out.trans (hb1.mono HB0.out.size))
  clear hb1 c0 c1 c2 c3 HA HB0 HW0 HY HR
  have c0 := HY1.out.cell 0
  have c1 := HY1.out.cell 1
  have c2 := HY1.out.cell 2
  have c3 := HY1.out.cell 3
  go_wp2_with fail
  refine (HVy _).out.mono ?_
  rintro e w2 ⟨rfl, hb2⟩
  have HA2 := Lib.hid (HA1.out.later hb2)
  have HY2 := Lib.hid (HY1.out.later hb2)
  have HR2 := Lib.hid (HR1.out.later hb2)
  have HB2 := Lib.hid (HB1.out.trans (hb2.mono HB1.out.size))
  clear hb2 c0 c1 c2 c3 HA1 HB1 HY1 HR1
  have c0 := HA2.out.cell 0
  have c1 := HA2.out.cell 1
  have c2 := HY2.out.cell 0
  have c3 := HY2.out.cell 1
  go_wp2_with fail
  refine (HF1 _).out.mono ?_
  rintro e w3 ⟨rfl, hb3⟩
  have HA3 := Lib.hid (HA2.out.later hb3)
  have HY3 := Lib.hid (HY2.out.later hb3)
  have HR3 := Lib.hid (HR2.out.later hb3)
  have HB3 := Lib.hid (HB2.out.trans (hb3.mono HB2.out.size))
  clear hb3 c0 c1 c2 c3 HA2 HB2 HY2 HR2
  go_upto_region 6 with fail
  obtain ⟨w4, hw4⟩ : ∃ w4, w4 = w3.alloc (.cells #[.int .i64 p, .int .i64 (q : Int)] 28) := ⟨_, rfl⟩
  have HG4 : Hid (Blk w4 w3.heap.size 28 #[.int .i64 p, .int .i64 (q : Int)]) := Lib.hid (by rw [hw4]; exact Blk.new w3 28 _)
  have HA4 : Hid (Blk w4 w.heap.size 35 #[.int .i64 n1, .int .i64 (d1 : Int), .int .i64 n2, .int .i64 (d2 : Int)]) := Lib.hid (by rw [hw4]; exact HA3.out.alloc _)
  have HY4 : Hid (Blk w4 (w.heap.size + 1) 35 #[.int .i64 m1, .int .i64 (e1 : Int), .int .i64 m2, .int .i64 (e2 : Int)]) := Lib.hid (by rw [hw4]; exact HY3.out.alloc _)
  have HR4 : Hid (Blk w4 (w.heap.size + 1 + 1) 35 #[.int .i64 0, .int .i64 0, .int .i64 0, .int .i64 0]) := Lib.hid (by rw [hw4]; exact HR3.out.alloc _)
  have HB4 : Hid (Below w.heap.size w w4) := Lib.hid (by rw [hw4]; exact HB3.out.alloc HB3.out.size _)
  have hz3 := HR3.out.lt
  rw [← hw4]
  clear hw4 HA3 HY3 HR3 HB3
  have c0 := HA4.out.cell 2
  have c1 := HA4.out.cell 3
  have c2 := HY4.out.cell 2
  have c3 := HY4.out.cell 3
  go_wp2_with fail
  refine (HF2 _).out.mono ?_
  rintro e w5 ⟨rfl, hb5⟩
  have HG5 := Lib.hid (HG4.out.later hb5)
  have HR5 := Lib.hid (HR4.out.later hb5)
  have HB5 := Lib.hid (HB4.out.trans (hb5.mono HB4.out.size))
  have hz4 := Nat.lt_of_lt_of_le HG4.out.lt hb5.size
  clear hb5 c0 c1 c2 c3 HA4 HB4 HY4 HR4 HG4
  go_upto_region 9 with fail
  obtain ⟨w6, hw6⟩ : ∃ w6, w6 = w5.alloc (.cells #[.int .i64 r, .int .i64 (s : Int)] 28) := ⟨_, rfl⟩
  have h8 : Blk w6 w5.heap.size 28 #[.int .i64 r, .int .i64 (s : Int)] := by rw [hw6]; exact Blk.new w5 28 _
  have h6 : Blk w6 w3.heap.size 28 #[.int .i64 p, .int .i64 (q : Int)] := by rw [hw6]; exact HG5.out.alloc _
  have hR6 : Blk w6 (w.heap.size + 1 + 1) 35 #[.int .i64 0, .int .i64 0, .int .i64 0, .int .i64 0] := by rw [hw6]; exact HR5.out.alloc _
  have HR6 := Lib.hid hR6
  have HB6 : Hid (Below w.heap.size w w6) := Lib.hid (by rw [hw6]; exact HB5.out.alloc HB5.out.size _)
  rw [← hw6]
  have s0 := h6.cell 0
  have s1 := h6.cell 1
  have t0 := h8.cell 0
  have t1 := h8.cell 1
  have r0 := hR6.cell 0
  have r1 := hR6.cell 1
  have r2 := hR6.cell 2
  have r3 := hR6.cell 3
  have f0 := hR6.frozen 0
  have f1 := hR6.frozen 1
  have f2 := hR6.frozen 2
  have f3 := hR6.frozen 3
  clear hw6 h6 h8 hR6 HG5 HR5 HB5
  go_wp2_with fail
  obtain ⟨w9, hw9⟩ : ∃ w9, w9 = (((w6.setCell ⟨w.heap.size + 1 + 1, 0, none⟩ (.int .i64 p)).setCell ⟨w.heap.size + 1 + 1, 1, none⟩ (.int .i64 (q : Int))).setCell ⟨w.heap.size + 1 + 1, 2, none⟩ (.int .i64 r)).setCell ⟨w.heap.size + 1 + 1, 3, none⟩ (.int .i64 (s : Int)) := ⟨_, rfl⟩
  have hb9 : Blk w9 (w.heap.size + 1 + 1) 35 #[.int .i64 p, .int .i64 (q : Int), .int .i64 r, .int .i64 (s : Int)] := by rw [hw9]; exact ((((HR6.out.set_ 0 _).set_ 1 _).set_ 2 _).set_ 3 _)
  have HB9 : Hid (Below w.heap.size w w9) := Lib.hid (by rw [hw9]; exact (((HB6.out.setCell (by simp; omega) _).setCell (by simp; omega) _).setCell (by simp; omega) _).setCell (by simp; omega) _)
  have x0 := hb9.cell 0
  have x1 := hb9.cell 1
  have x2 := hb9.cell 2
  have x3 := hb9.cell 3
  rw [← hw9]
  clear hw9 hb9 r0 r1 r2 r3 f0 f1 f2 f3
  exact bodyPost_ret (v := .tuple #[iv p q r s, .int .i64 0]) (by simp [results, Try.results18, go_sem, x0, x1, x2, x3, iv]) rfl ⟨rfl, HB9.out⟩

end Go.Proofs.Ytjldhikadijbiaa
