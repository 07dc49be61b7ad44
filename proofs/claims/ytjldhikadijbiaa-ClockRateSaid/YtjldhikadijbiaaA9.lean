/- The walk of lives. -/
import Derived.Test.YtjldhikadijbiaaA8
import Derived.Test.YtjldhikadijbiaaCo
namespace Go.Proofs.Ytjldhikadijbiaa
open Go.RowKit

theorem exs_A (w : World) : Exs (w.alloc (.cells #[.int .i64 10, .int .i64 12, .int .i64 100] 51)) (w.heap.size + 1) (some ⟨w.heap.size, 0, none⟩) Ck.exA := by
  have hb := Blk.new w 51 #[.int .i64 10, .int .i64 12, .int .i64 100]
  refine ⟨?_, fun _ => ⟨_, _, rfl, by omega, ?_⟩⟩
  · intro x hx
    simp [Ck.exA] at hx
    subst hx
    simp [i64]
  · intro i hi
    have : i = 0 := by simp [Ck.exA] at hi; exact hi
    subst this
    exact ⟨hb.cell 0, hb.cell 1, hb.cell 2⟩
theorem exs_B (w : World) : Exs (w.alloc (.cells #[.int .i64 0, .int .i64 0, .int .i64 5, .int .i64 9, .int .i64 9, .int .i64 5] 51)) (w.heap.size + 1) (some ⟨w.heap.size, 0, none⟩) Ck.exB := by
  have hb := Blk.new w 51 #[.int .i64 0, .int .i64 0, .int .i64 5, .int .i64 9, .int .i64 9, .int .i64 5]
  refine ⟨?_, fun _ => ⟨_, _, rfl, by omega, ?_⟩⟩
  · intro x hx
    simp [Ck.exB] at hx
    rcases hx with rfl | rfl <;> simp [i64]
  · intro i hi
    have : i = 0 ∨ i = 1 := by simp [Ck.exB] at hi; omega
    rcases this with rfl | rfl
    · exact ⟨hb.cell 0, hb.cell 1, hb.cell 2⟩
    · exact ⟨hb.cell 3, hb.cell 4, hb.cell 5⟩
theorem ints_new (w : World) (t : TypeId) (zs : List Int) (h : ∀ z ∈ zs, i64 z) : Ints (w.alloc (.cells (zs.map (Value.int .i64)).toArray t)) (w.heap.size + 1) (some ⟨w.heap.size, 0, none⟩) zs := by
  have hb := Blk.new w t (zs.map (Value.int .i64)).toArray
  refine ⟨h, fun _ => ⟨_, _, rfl, by omega, fun i hi => ?_⟩⟩
  rw [hb.cell, Nat.zero_add]
  simp [hi]

set_option maxRecDepth 100000 in
set_option maxHeartbeats 4000000 in
theorem lives_any (w : World) : Calls Try.prog 21 #[] w (Told true w) := by
  have hb0 : Below w.heap.size w (w.alloc (.cells #[.int .i64 10, .int .i64 12, .int .i64 100] 51)) := (Below.refl _ w).alloc (Nat.le_refl _) _
  have hX0 := exs_A w
  obtain ⟨w0, hw0⟩ : ∃ w0, w0 = w.alloc (.cells #[.int .i64 10, .int .i64 12, .int .i64 100] 51) := ⟨_, rfl⟩
  have hs0 : w0.heap.size = w.heap.size + 1 := by rw [hw0, World.size_alloc]
  rw [← hw0] at hb0 hX0
  rw [← hs0] at hX0
  have HB0 := Lib.hid hb0
  have HX0 := Lib.hid hX0
  have HW0 := Lib.hid hw0
  have HT := Lib.hid (ticks_any 512 _ 1 Ck.exA (by decide) 104 w0 hX0)
  rw [Ck.ticksA] at HT
  clear hb0 hX0 hw0 hs0
  go_enter Try.func21, Try.ntmps21
  go_wp2_with fail
  rw [← HW0.out]
  refine HT.out.mono ?_
  rintro e w1 ⟨rfl, hb1⟩
  have HB1 := Lib.hid (HB0.out.trans (hb1.mono HB0.out.size))
  have HX1 := Lib.hid (HX0.out.later hb1)
  have HO := Lib.hid (offset_any 512 _ 1 Ck.exA (by decide) 12 w1 HX1.out)
  rw [Ck.offsetA] at HO
  clear hb1 HT HX0 HB0 HW0
  go_wp2_with fail
  refine HO.out.mono ?_
  rintro e w2 ⟨rfl, hb2⟩
  have HB2 := Lib.hid (HB1.out.trans (hb2.mono HB1.out.size))
  have HX2 := Lib.hid (HX1.out.later hb2)
  have hXB := exs_B w2
  obtain ⟨w3, hw3⟩ : ∃ w3, w3 = w2.alloc (.cells #[.int .i64 0, .int .i64 0, .int .i64 5, .int .i64 9, .int .i64 9, .int .i64 5] 51) := ⟨_, rfl⟩
  have hs3 : w3.heap.size = w2.heap.size + 1 := by rw [hw3, World.size_alloc]
  have hb3 : Below w2.heap.size w2 w3 := by rw [hw3]; exact (Below.refl _ w2).alloc (Nat.le_refl _) _
  rw [← hw3, ← hs3] at hXB
  have HB3 := Lib.hid (HB2.out.trans (hb3.mono HB2.out.size))
  have HX3 := Lib.hid (HX2.out.later hb3)
  have HT := Lib.hid (ticks_any 0 _ 2 Ck.exB (by decide) 5 w3 hXB)
  rw [Ck.ticksB] at HT
  have HW3 := Lib.hid hw3
  clear hb2 HO HX1 HB1 hXB hw3 hs3 hb3 HX2 HB2
  go_wp2_with fail
  rw [← HW3.out]
  refine HT.out.mono ?_
  rintro e w4 ⟨rfl, hb4⟩
  have HB4 := Lib.hid (HB3.out.trans (hb4.mono HB3.out.size))
  have HX4 := Lib.hid (HX3.out.later hb4)
  obtain ⟨w5, hw5⟩ : ∃ w5, w5 = w4.alloc (.cells #[.int .i64 100, .int .i64 102, .int .i64 102] 3) := ⟨_, rfl⟩
  have hI := ints_new w4 3 [100, 102, 102] (by simp [i64])
  have hs5 : w5.heap.size = w4.heap.size + 1 := by rw [hw5, World.size_alloc]
  have hb5 : Below w4.heap.size w4 w5 := by rw [hw5]; exact (Below.refl _ w4).alloc (Nat.le_refl _) _
  replace hI : Ints w5 w5.heap.size (some ⟨w4.heap.size, 0, none⟩) [100, 102, 102] := by rw [hs5, hw5]; exact hI
  have HB5 := Lib.hid (HB4.out.trans (hb5.mono HB4.out.size))
  have HX5 := Lib.hid (HX4.out.later hb5)
  have HA := Lib.hid (agrees_any 512 _ 1 Ck.exA (by decide) 11 _ 3 [100, 102, 102] (by decide) w5 HX5.out hI)
  rw [Ck.agreesA] at HA
  have HW5 := Lib.hid hw5
  clear hb4 HT HX3 HB3 HW3 hI hw5 hs5 hb5 HB4 HX4
  go_wp2_with fail
  rw [← HW5.out]
  refine HA.out.mono ?_
  rintro e w6 ⟨rfl, hb6⟩
  have HB6 := Lib.hid (HB5.out.trans (hb6.mono HB5.out.size))
  have HX6 := Lib.hid (HX5.out.later hb6)
  obtain ⟨w7, hw7⟩ : ∃ w7, w7 = w6.alloc (.cells #[.int .i64 100, .int .i64 103] 3) := ⟨_, rfl⟩
  have hI := ints_new w6 3 [100, 103] (by simp [i64])
  have hs7 : w7.heap.size = w6.heap.size + 1 := by rw [hw7, World.size_alloc]
  have hb7 : Below w6.heap.size w6 w7 := by rw [hw7]; exact (Below.refl _ w6).alloc (Nat.le_refl _) _
  replace hI : Ints w7 w7.heap.size (some ⟨w6.heap.size, 0, none⟩) [100, 103] := by rw [hs7, hw7]; exact hI
  have HB7 := Lib.hid (HB6.out.trans (hb7.mono HB6.out.size))
  have HX7 := Lib.hid (HX6.out.later hb7)
  have HA2 := Lib.hid (agrees_any 512 _ 1 Ck.exA (by decide) 11 _ 2 [100, 103] (by decide) w7 HX7.out hI)
  rw [Ck.agreesB] at HA2
  have HW7 := Lib.hid hw7
  clear hb6 HA HX5 HB5 HW5 hI hw7 hs7 hb7 HB6 HX6
  go_wp2_with fail
  rw [← HW7.out]
  refine HA2.out.mono ?_
  rintro e w8 ⟨rfl, hb8⟩
  have HB8 := Lib.hid (HB7.out.trans (hb8.mono HB7.out.size))
  clear hb8 HA2 HX7 HB7 HW7
  go_wp2_with fail
  go_ret
  exact ⟨ret_bool rfl, HB8.out⟩

end Go.Proofs.Ytjldhikadijbiaa
