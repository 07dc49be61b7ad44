/- The walk of frac's Text at a whole number that is not negative. -/
import Derived.Test.YtdmgacoemabcfaaDoorC2
import Derived.Test.YtdmgacoemabcfaaDoorSh
import Derived.Lib.AppendIntMem
set_option linter.unusedVariables false
namespace Go.Proofs.YtdmgacoemabcfaaDoor
open Go.RowKit

theorem below_grow {B : Nat} {a w : World} (h : Below B a w) (hB : B ≤ w.heap.size) (os : Array Obj) : Below B a (Sort.grow w os) :=
  ⟨h.os, h.tape, h.output, by have := h.size; simp; omega, fun k hk => by
    rw [← h.block k hk]
    exact Array.getElem?_append_left (by omega)⟩

def TabAt (B : Nat) (w : World) : Prop := Lib.TabBelow Tryd.prog B w "internal/strconv.uint64pow10" .u64 Lib.pow10Tab
theorem TabAt.on {B : Nat} {w w1 : World} (h : TabAt B w) (hb : Below B w w1) : TabAt B w1 := Lib.TabBelow.on h hb
theorem TabAt.now {B : Nat} {w : World} (h : TabAt B w) : Lib.TabIs Tryd.prog w "internal/strconv.uint64pow10" .u64 Lib.pow10Tab := h w (Below.refl _ _)

theorem itoa_calls (n : Nat) (hn : n ≤ 1073741824) (B : Nat) (w : World) (hB : B ≤ w.heap.size) (hT : TabAt B w) :
    Calls Tryd.prog 12 #[.int .i64 (n : Int)] w fun e w' => e = .returned (.string ⟨(Lib.decDigits n).toArray⟩) ∧ Below w.heap.size w w' := by
  refine (Tryd.strconv_Itoa (n : Int) (by omega) (by omega) w hT.now).mono ?_
  rintro e w' ⟨rfl, k, os, rfl⟩
  refine ⟨?_, below_grow (below_drewN (Below.refl _ w) k) (Nat.le_refl _) os⟩
  unfold Lib.itoa
  rw [if_neg (by omega), Int.toNat_natCast]

set_option maxRecDepth 100000 in
set_option maxHeartbeats 1000000 in
theorem text_any (n : Nat) (hn : n ≤ 1073741824) (B : Nat) (w : World) (hB : B ≤ w.heap.size) (hT : TabAt B w) :
    Calls Tryd.prog 6 #[fr (n : Int) 1] w fun e w' => e = .returned (.string ⟨(Lib.decDigits n).toArray⟩) ∧ Below w.heap.size w w' := by
  have HV : ∀ W, Hid (Calls Tryd.prog 11 #[.agg #[.int .i64 (n : Int), .int .i64 1]] W (Told true W)) := fun W => Lib.hid (fvalid_any (n : Int) 1 ⟨by omega, by omega, by omega, by omega, by rw [Nat.gcd_one_right]⟩ W)
  have HI := fun W (h1 : B ≤ W.heap.size) (h2 : TabAt B W) => Lib.hid (itoa_calls n hn B W h1 h2)
  have HT := Lib.hid hT
  generalize Lib.decDigits n = ds at *
  clear hT
  obtain ⟨w0, hw0⟩ : ∃ w0, w0 = w.alloc (.cells #[.int .i64 (n : Int), .int .i64 1] 24) := ⟨_, rfl⟩
  have HA : Hid (Blk w0 w.heap.size 24 #[.int .i64 (n : Int), .int .i64 1]) := Lib.hid (by rw [hw0]; exact Blk.new w 24 _)
  have HB0 : Hid (Below w.heap.size w w0) := Lib.hid (by rw [hw0]; exact (Below.refl _ w).alloc (Nat.le_refl _) _)
  have HW0 := Lib.hid hw0
  clear hw0
  unfold fr
  go_enter Tryd.func6, Tryd.ntmps6
  go_wp2_with fail
  refine (HV _).out.mono ?_
  rintro e w1 ⟨rfl, hb1⟩
  rw [← HW0.out] at hb1
  have HA1 := Lib.hid (HA.out.later hb1)
  have HB1 := Lib.hid (HB0.out.trans (hb1.mono HB0.out.size))
  clear hb1 HA HB0 HW0
  have c0 := HA1.out.cell 0
  have c1 := HA1.out.cell 1
  have hsz := HB1.out.size
  go_wp2_with fail
  refine (HI _ (by omega) (HT.out.on (HB1.out.mono hB))).out.mono ?_
  rintro e w2 ⟨rfl, hb2⟩
  have HA2 := Lib.hid (HA1.out.later hb2)
  have HB2 := Lib.hid (HB1.out.trans (hb2.mono HB1.out.size))
  clear hb2 HA1 HB1 c0 c1
  have c0 := HA2.out.cell 0
  have c1 := HA2.out.cell 1
  go_wp2_with fail
  go_ret
  exact ⟨rfl, HB2.out⟩

end Go.Proofs.YtdmgacoemabcfaaDoor
