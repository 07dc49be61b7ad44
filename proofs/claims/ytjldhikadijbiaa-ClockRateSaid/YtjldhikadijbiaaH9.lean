/- The walks of interval's Valid, New, Point, Contains. -/
import Derived.Test.YtjldhikadijbiaaH8
namespace Go.Proofs.Ytjldhikadijbiaa
open Go.RowKit

/-- an interval's value -/
def iv (n1 : Int) (d1 : Nat) (n2 : Int) (d2 : Nat) : Value := .agg #[.int .i64 n1, .int .i64 (d1 : Int), .int .i64 n2, .int .i64 (d2 : Int)]
structure Iv (n1 : Int) (d1 : Nat) (n2 : Int) (d2 : Nat) : Prop where
  lo : Rd n1 d1
  hi : Rd n2 d2
  le : n1 * d2 ≤ n2 * d1

theorem cmp_le (na nb : Int) (da db : Nat) (ha : Rd na da) (hb : Rd nb db) (hle : na * db ≤ nb * da) :
    ∃ K : Int, K ≤ 0 ∧ ∀ w, Calls Try.prog 47 #[fr na da, fr nb db] w (GivesI K w) := by
  refine ⟨sgn (na * db - nb * da), ?_, fun w => compare_any na nb da db ha hb w⟩
  unfold sgn
  split
  · omega
  · rw [if_pos (by omega)]; omega

set_option maxRecDepth 100000 in
set_option maxHeartbeats 2000000 in
theorem ivalid_any (n1 : Int) (d1 : Nat) (n2 : Int) (d2 : Nat) (h : Iv n1 d1 n2 d2) (w : World) :
    Calls Try.prog 46 #[iv n1 d1 n2 d2] w (Told true w) := by
  have HV1 := fun W => Lib.hid (fvalid_any n1 d1 h.lo W)
  have HV2 := fun W => Lib.hid (fvalid_any n2 d2 h.hi W)
  obtain ⟨K, hK, hC⟩ := cmp_le n1 n2 d1 d2 h.lo h.hi h.le
  have HC := fun W => Lib.hid (hC W)
  have HKl := Lib.hid hK
  clear hC h hK
  obtain ⟨w0, hw0⟩ : ∃ w0, w0 = w.alloc (.cells #[.int .i64 n1, .int .i64 (d1 : Int), .int .i64 n2, .int .i64 (d2 : Int)] 35) := ⟨_, rfl⟩
  have HA : Hid (Blk w0 w.heap.size 35 #[.int .i64 n1, .int .i64 (d1 : Int), .int .i64 n2, .int .i64 (d2 : Int)]) := Lib.hid (by rw [hw0]; exact Blk.new w 35 _)
  have HB0 : Hid (Below w.heap.size w w0) := Lib.hid (by rw [hw0]; exact (Below.refl _ w).alloc (Nat.le_refl _) _)
  have HW0 := Lib.hid hw0
  clear hw0
  unfold fr at HV1 HV2 HC
  unfold iv
  unfold GivesI at HC
  go_enter Try.func46, Try.ntmps46
  go_upto_region 1 with fail
  rw [← HW0.out]
  have c0 := HA.out.cell 0
  have c1 := HA.out.cell 1
  have c2 := HA.out.cell 2
  have c3 := HA.out.cell 3
  go_wp2_with fail
  refine (HV1 _).out.mono ?_
  rintro e w1 ⟨rfl, hb1⟩
  have HA1 := Lib.hid (HA.out.later hb1)
  have HB1 := Lib.hid (HB0.out.trans (hb1.mono HB0.out.size))
  clear hb1 c0 c1 c2 c3 HA HB0 HW0
  have c2 := HA1.out.cell 2
  have c3 := HA1.out.cell 3
  go_wp2_with fail
  refine (HV2 _).out.mono ?_
  rintro e w2 ⟨rfl, hb2⟩
  have HA2 := Lib.hid (HA1.out.later hb2)
  have HB2 := Lib.hid (HB1.out.trans (hb2.mono HB1.out.size))
  clear hb2 c2 c3 HA1 HB1
  have c0 := HA2.out.cell 0
  have c1 := HA2.out.cell 1
  have c2 := HA2.out.cell 2
  have c3 := HA2.out.cell 3
  go_wp2_with fail
  refine (HC _).out.mono ?_
  rintro e w3 ⟨rfl, hb3⟩
  have HB3 := Lib.hid (HB2.out.trans (hb3.mono HB2.out.size))
  have hk : decide (K ≤ 0) = true := decide_eq_true HKl.out
  clear hb3
  go_wp2_with fail
  go_ret
  exact ⟨rfl, HB3.out⟩

def GivesV (n1 : Int) (d1 : Nat) (n2 : Int) (d2 : Nat) (w : World) (e : Ending) (w' : World) : Prop := e = .returned (.tuple #[iv n1 d1 n2 d2, .int .i64 0]) ∧ Below w.heap.size w w'

set_option maxRecDepth 100000 in
set_option maxHeartbeats 2000000 in
theorem ipoint_any (n : Int) (d : Nat) (h : Rd n d) (w : World) :
    Calls Try.prog 19 #[fr n d] w (fun e w' => e = .returned (iv n d n d) ∧ Below w.heap.size w w') := by
  have HV := fun W => Lib.hid (fvalid_any n d h W)
  clear h
  obtain ⟨w0, hw0⟩ : ∃ w0, w0 = (w.alloc (.cells #[.int .i64 n, .int .i64 (d : Int)] 28)).alloc (.cells #[.int .i64 0, .int .i64 0, .int .i64 0, .int .i64 0] 35) := ⟨_, rfl⟩
  have HA : Hid (Blk w0 w.heap.size 28 #[.int .i64 n, .int .i64 (d : Int)]) := Lib.hid (by rw [hw0]; exact (Blk.new w 28 _).alloc _)
  have HR : Hid (Blk w0 (w.heap.size + 1) 35 #[.int .i64 0, .int .i64 0, .int .i64 0, .int .i64 0]) := Lib.hid (by
    rw [hw0]
    have := Blk.new (w.alloc (.cells #[.int .i64 n, .int .i64 (d : Int)] 28)) 35 #[.int .i64 0, .int .i64 0, .int .i64 0, .int .i64 0]
    rw [World.size_alloc] at this
    exact this)
  have HB0 : Hid (Below w.heap.size w w0) := Lib.hid (by rw [hw0]; exact ((Below.refl _ w).alloc (Nat.le_refl _) _).alloc (by simp) _)
  have HW0 := Lib.hid hw0
  clear hw0
  unfold fr at HV
  unfold fr iv
  go_enter Try.func19, Try.ntmps19
  go_upto_region 1 with fail
  rw [← HW0.out]
  have c0 := HA.out.cell 0
  have c1 := HA.out.cell 1
  go_wp2_with fail
  refine (HV _).out.mono ?_
  rintro e w1 ⟨rfl, hb1⟩
  have HA1 := Lib.hid (HA.out.later hb1)
  have HR1 := Lib.hid (HR.out.later hb1)
  have HB1 := Lib.hid (HB0.out.trans (hb1.mono HB0.out.size))
  clear hb1 c0 c1 HA HB0 HW0 HR
  have c0 := HA1.out.cell 0
  have c1 := HA1.out.cell 1
  have r0 := HR1.out.cell 0
  have r1 := HR1.out.cell 1
  have r2 := HR1.out.cell 2
  have r3 := HR1.out.cell 3
  have f0 := HR1.out.frozen 0
  have f1 := HR1.out.frozen 1
  have f2 := HR1.out.frozen 2
  have f3 := HR1.out.frozen 3
  go_wp2_with fail
  obtain ⟨w9, hw9⟩ : ∃ w9, w9 = (((w1.setCell ⟨w.heap.size + 1, 0, none⟩ (.int .i64 n)).setCell ⟨w.heap.size + 1, 1, none⟩ (.int .i64 (d : Int))).setCell ⟨w.heap.size + 1, 2, none⟩ (.int .i64 n)).setCell ⟨w.heap.size + 1, 3, none⟩ (.int .i64 (d : Int)) := ⟨_, rfl⟩
  have hb9 : Blk w9 (w.heap.size + 1) 35 #[.int .i64 n, .int .i64 (d : Int), .int .i64 n, .int .i64 (d : Int)] := by rw [hw9]; exact ((((HR1.out.set_ 0 _).set_ 1 _).set_ 2 _).set_ 3 _)
  have HB9 : Hid (Below w.heap.size w w9) := Lib.hid (by rw [hw9]; exact (((HB1.out.setCell (by simp) _).setCell (by simp) _).setCell (by simp) _).setCell (by simp) _)
  have d0 := hb9.cell 0
  have d1 := hb9.cell 1
  have d2 := hb9.cell 2
  have d3 := hb9.cell 3
  rw [← hw9]
  clear hw9 hb9 c0 c1 r0 r1 r2 r3 f0 f1 f2 f3
  exact bodyPost_ret (v := iv n d n d) (by simp [results, Try.results19, go_sem, d0, d1, d2, d3, iv]) rfl ⟨rfl, HB9.out⟩

set_option maxRecDepth 100000 in
set_option maxHeartbeats 2000000 in
theorem inew_any (n1 : Int) (d1 : Nat) (n2 : Int) (d2 : Nat) (h : Iv n1 d1 n2 d2) (w : World) :
    Calls Try.prog 17 #[fr n1 d1, fr n2 d2] w (GivesV n1 d1 n2 d2 w) := by
  have HV := fun W => Lib.hid (ivalid_any n1 d1 n2 d2 h W)
  clear h
  obtain ⟨w0, hw0⟩ : ∃ w0, w0 = ((w.alloc (.cells #[.int .i64 n1, .int .i64 (d1 : Int)] 28)).alloc (.cells #[.int .i64 n2, .int .i64 (d2 : Int)] 28)).alloc (.cells #[.int .i64 0, .int .i64 0, .int .i64 0, .int .i64 0] 35) := ⟨_, rfl⟩
  have HA : Hid (Blk w0 w.heap.size 28 #[.int .i64 n1, .int .i64 (d1 : Int)]) := Lib.hid (by rw [hw0]; exact ((Blk.new w 28 _).alloc _).alloc _)
  have HBb : Hid (Blk w0 (w.heap.size + 1) 28 #[.int .i64 n2, .int .i64 (d2 : Int)]) := Lib.hid (by
    rw [hw0]
    have := Blk.new (w.alloc (.cells #[.int .i64 n1, .int .i64 (d1 : Int)] 28)) 28 #[.int .i64 n2, .int .i64 (d2 : Int)]
    rw [World.size_alloc] at this
    exact this.alloc _)
  have HR : Hid (Blk w0 (w.heap.size + 1 + 1) 35 #[.int .i64 0, .int .i64 0, .int .i64 0, .int .i64 0]) := Lib.hid (by
    rw [hw0]
    have := Blk.new ((w.alloc (.cells #[.int .i64 n1, .int .i64 (d1 : Int)] 28)).alloc (.cells #[.int .i64 n2, .int .i64 (d2 : Int)] 28)) 35 #[.int .i64 0, .int .i64 0, .int .i64 0, .int .i64 0]
    rw [World.size_alloc, World.size_alloc] at this
    exact this)
  have HB0 : Hid (Below w.heap.size w w0) := Lib.hid (by rw [hw0]; exact (((Below.refl _ w).alloc (Nat.le_refl _) _).alloc (by simp) _).alloc (by simp; omega) _)
  have HW0 := Lib.hid hw0
  clear hw0
  unfold iv at HV
  unfold fr GivesV iv
  go_enter Try.func17, Try.ntmps17
  go_upto_region 1 with fail
  rw [← HW0.out]
  have c0 := HA.out.cell 0
  have c1 := HA.out.cell 1
  have g0 := HBb.out.cell 0
  have g1 := HBb.out.cell 1
  go_upto_region 2 with fail
  obtain ⟨w1, hw1⟩ : ∃ w1, w1 = w0.alloc (.cells #[.int .i64 n1, .int .i64 (d1 : Int), .int .i64 n2, .int .i64 (d2 : Int)] 35) := ⟨_, rfl⟩
  have HX : Hid (Blk w1 w0.heap.size 35 #[.int .i64 n1, .int .i64 (d1 : Int), .int .i64 n2, .int .i64 (d2 : Int)]) := Lib.hid (by rw [hw1]; exact Blk.new w0 35 _)
  have HR1 : Hid (Blk w1 (w.heap.size + 1 + 1) 35 #[.int .i64 0, .int .i64 0, .int .i64 0, .int .i64 0]) := Lib.hid (by rw [hw1]; exact HR.out.alloc _)
  have HB1 : Hid (Below w.heap.size w w1) := Lib.hid (by rw [hw1]; exact HB0.out.alloc HB0.out.size _)
  have hz : w.heap.size + 1 + 1 < w0.heap.size := HR.out.lt
  rw [← hw1]
  clear hw1 c0 c1 g0 g1 HA HBb HR HB0 HW0
  have c0 := HX.out.cell 0
  have c1 := HX.out.cell 1
  have c2 := HX.out.cell 2
  have c3 := HX.out.cell 3
  go_wp2_with fail
  refine (HV _).out.mono ?_
  rintro e w2 ⟨rfl, hb2⟩
  have HX2 := Lib.hid (HX.out.later hb2)
  have HR2 := Lib.hid (HR1.out.later hb2)
  have HB2 := Lib.hid (HB1.out.trans (hb2.mono HB1.out.size))
  clear hb2 c0 c1 c2 c3 HX HB1 HR1
  have c0 := HX2.out.cell 0
  have c1 := HX2.out.cell 1
  have c2 := HX2.out.cell 2
  have c3 := HX2.out.cell 3
  have r0 := HR2.out.cell 0
  have r1 := HR2.out.cell 1
  have r2 := HR2.out.cell 2
  have r3 := HR2.out.cell 3
  have f0 := HR2.out.frozen 0
  have f1 := HR2.out.frozen 1
  have f2 := HR2.out.frozen 2
  have f3 := HR2.out.frozen 3
  go_wp2_with fail
  obtain ⟨w9, hw9⟩ : ∃ w9, w9 = (((w2.setCell ⟨w.heap.size + 1 + 1, 0, none⟩ (.int .i64 n1)).setCell ⟨w.heap.size + 1 + 1, 1, none⟩ (.int .i64 (d1 : Int))).setCell ⟨w.heap.size + 1 + 1, 2, none⟩ (.int .i64 n2)).setCell ⟨w.heap.size + 1 + 1, 3, none⟩ (.int .i64 (d2 : Int)) := ⟨_, rfl⟩
  have hb9 : Blk w9 (w.heap.size + 1 + 1) 35 #[.int .i64 n1, .int .i64 (d1 : Int), .int .i64 n2, .int .i64 (d2 : Int)] := by rw [hw9]; exact ((((HR2.out.set_ 0 _).set_ 1 _).set_ 2 _).set_ 3 _)
  have HB9 : Hid (Below w.heap.size w w9) := Lib.hid (by rw [hw9]; exact (((HB2.out.setCell (by simp; omega) _).setCell (by simp; omega) _).setCell (by simp; omega) _).setCell (by simp; omega) _)
  have e0 := hb9.cell 0
  have e1 := hb9.cell 1
  have e2 := hb9.cell 2
  have e3 := hb9.cell 3
  rw [← hw9]
  clear hw9 hb9 r0 r1 r2 r3 f0 f1 f2 f3
  exact bodyPost_ret (v := .tuple #[iv n1 d1 n2 d2, .int .i64 0]) (by simp [results, Try.results17, go_sem, e0, e1, e2, e3, iv]) rfl ⟨rfl, HB9.out⟩

set_option maxRecDepth 100000 in
set_option maxHeartbeats 2000000 in
theorem icontains_any (n1 : Int) (d1 : Nat) (n2 : Int) (d2 : Nat) (n : Int) (d : Nat) (h : Iv n1 d1 n2 d2) (hr : Rd n d) (hlo : n1 * d ≤ n * d1) (hhi : n * d2 ≤ n2 * d) (w : World) :
    Calls Try.prog 20 #[iv n1 d1 n2 d2, fr n d] w (Told true w) := by
  have HV := fun W => Lib.hid (ivalid_any n1 d1 n2 d2 h W)
  have HF := fun W => Lib.hid (fvalid_any n d hr W)
  obtain ⟨K, hK, hC⟩ := cmp_le n1 n d1 d h.lo hr hlo
  obtain ⟨L, hL, hD⟩ := cmp_le n n2 d d2 hr h.hi hhi
  have HC := fun W => Lib.hid (hC W)
  have HD := fun W => Lib.hid (hD W)
  have HKl := Lib.hid hK
  have HLl := Lib.hid hL
  clear hC h hK hD hL hr hlo hhi
  obtain ⟨w0, hw0⟩ : ∃ w0, w0 = (w.alloc (.cells #[.int .i64 n1, .int .i64 (d1 : Int), .int .i64 n2, .int .i64 (d2 : Int)] 35)).alloc (.cells #[.int .i64 n, .int .i64 (d : Int)] 28) := ⟨_, rfl⟩
  have HA : Hid (Blk w0 w.heap.size 35 #[.int .i64 n1, .int .i64 (d1 : Int), .int .i64 n2, .int .i64 (d2 : Int)]) := Lib.hid (by rw [hw0]; exact (Blk.new w 35 _).alloc _)
  have HBb : Hid (Blk w0 (w.heap.size + 1) 28 #[.int .i64 n, .int .i64 (d : Int)]) := Lib.hid (by
    rw [hw0]
    have := Blk.new (w.alloc (.cells #[.int .i64 n1, .int .i64 (d1 : Int), .int .i64 n2, .int .i64 (d2 : Int)] 35)) 28 #[.int .i64 n, .int .i64 (d : Int)]
    rw [World.size_alloc] at this
    exact this)
  have HB0 : Hid (Below w.heap.size w w0) := Lib.hid (by rw [hw0]; exact ((Below.refl _ w).alloc (Nat.le_refl _) _).alloc (by simp) _)
  have HW0 := Lib.hid hw0
  clear hw0
  unfold fr at HF HC HD
  unfold iv at HV
  unfold iv fr
  unfold GivesI at HC HD
  go_enter Try.func20, Try.ntmps20
  go_upto_region 1 with fail
  rw [← HW0.out]
  have c0 := HA.out.cell 0
  have c1 := HA.out.cell 1
  have c2 := HA.out.cell 2
  have c3 := HA.out.cell 3
  go_wp2_with fail
  refine (HV _).out.mono ?_
  rintro e w1 ⟨rfl, hb1⟩
  have HA1 := Lib.hid (HA.out.later hb1)
  have HBb1 := Lib.hid (HBb.out.later hb1)
  have HB1 := Lib.hid (HB0.out.trans (hb1.mono HB0.out.size))
  clear hb1 c0 c1 c2 c3 HA HB0 HW0 HBb
  have c0 := HBb1.out.cell 0
  have c1 := HBb1.out.cell 1
  go_wp2_with fail
  refine (HF _).out.mono ?_
  rintro e w2 ⟨rfl, hb2⟩
  have HA2 := Lib.hid (HA1.out.later hb2)
  have HBb2 := Lib.hid (HBb1.out.later hb2)
  have HB2 := Lib.hid (HB1.out.trans (hb2.mono HB1.out.size))
  clear hb2 c0 c1 HA1 HB1 HBb1
  have c0 := HA2.out.cell 0
  have c1 := HA2.out.cell 1
  have g0 := HBb2.out.cell 0
  have g1 := HBb2.out.cell 1
  go_wp2_with fail
  refine (HC _).out.mono ?_
  rintro e w3 ⟨rfl, hb3⟩
  have HA3 := Lib.hid (HA2.out.later hb3)
  have HBb3 := Lib.hid (HBb2.out.later hb3)
  have HB3 := Lib.hid (HB2.out.trans (hb3.mono HB2.out.size))
  have hk : decide (K ≤ 0) = true := decide_eq_true HKl.out
  clear hb3 c0 c1 g0 g1 HA2 HBb2 HB2
  have c2 := HA3.out.cell 2
  have c3 := HA3.out.cell 3
  have g0 := HBb3.out.cell 0
  have g1 := HBb3.out.cell 1
  go_wp2_with fail
  refine (HD _).out.mono ?_
  rintro e w4 ⟨rfl, hb4⟩
  have HB4 := Lib.hid (HB3.out.trans (hb4.mono HB3.out.size))
  have hl : decide (L ≤ 0) = true := decide_eq_true HLl.out
  clear hb4
  go_wp2_with fail
  go_ret
  exact ⟨rfl, HB4.out⟩

end Go.Proofs.Ytjldhikadijbiaa
