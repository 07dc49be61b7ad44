/- math/bits.Mul64 laid off the shelf (written by the kit's lay-plain.mjs); the walks of frac's product, of Add64, Sub64, Div64, Rem64 at numbers of one word. -/
import Derived.Test.YtjldhikadijbiaaH3
import Derived.Shelf.Bits.Mul64
import Derived.Laws.Externs
namespace Go.Proofs
open Go.Shelf
def Try.lays264_ren : Go.Shelf.Ren := ⟨fun | 264 => 43 | n => n, fun | 53 => 58 | 46 => 78 | n => n, fun | n => n⟩
theorem Try.lays264 : Go.Proofs.Lays.n264 Try.prog Try.lays264_ren := {
  mixed := by kernel_rfl
  f264 := Try.func43.trans (congrArg some (by kernel_rfl))
  t46 := Try.underlying78
  a46 := Try.isAgg78
  z46 := Try.sizeOf78
  v46 := Try.zeroValue78
  t53 := Try.underlying58
  a53 := Try.isAgg58
  z53 := Try.sizeOf58
  v53 := Try.zeroValue58 }
open Go.RowKit Go.Lib in
theorem Try.bits_Mul64 (x y : Nat) (hx : x < 18446744073709551616) (hy : y < 18446744073709551616) (w : World) :
    Calls Try.prog 43 #[.int .u64 x, .int .u64 y] w fun e w' => e = .returned (.tuple #[.int .u64 ((x * y / 18446744073709551616 : Nat) : Int), .int .u64 ((x * y % 18446744073709551616 : Nat) : Int)]) ∧ w' = w := Any.bits_Mul64 Try.lays264 x y hx hy w
end Go.Proofs

namespace Go.Proofs.Ytjldhikadijbiaa
open Go.RowKit

theorem mul64_any (x y : Nat) (h : x * y < 18446744073709551616) (hx : x < 18446744073709551616) (hy : y < 18446744073709551616) (w : World) :
    Calls Try.prog 43 #[.int .u64 (x : Int), .int .u64 (y : Int)] w fun e w' => e = .returned (.tuple #[.int .u64 0, .int .u64 ((x * y : Nat) : Int)]) ∧ w' = w := by
  refine (Try.bits_Mul64 x y hx hy w).mono ?_
  rintro e w' ⟨rfl, rfl⟩
  exact ⟨by rw [Nat.div_eq_of_lt h, Nat.mod_eq_of_lt h]; rfl, rfl⟩

/-- a wide number as a value -/
def wd (S : Int) : Value := .agg #[.int .u64 0, .int .u64 (S.natAbs : Int), .bool (decide (S < 0))]
theorem wd_zero : wd 0 = .agg #[.int .u64 0, .int .u64 0, .bool false] := rfl

/-- a wide number in new memory -/
def GivesW (S : Int) (w : World) (e : Ending) (w' : World) : Prop := e = .returned (wd S) ∧ Below w.heap.size w w'

theorem sign_mul (a b : Int) (h : a * b ≠ 0) : (decide (a < 0) != decide (b < 0)) = decide (a * b < 0) := by
  have ha : a ≠ 0 := fun e => h (by rw [e]; simp)
  have hb : b ≠ 0 := fun e => h (by rw [e]; simp)
  rcases Int.lt_or_gt_of_ne ha with h1 | h1 <;> rcases Int.lt_or_gt_of_ne hb with h2 | h2
  · have := Int.mul_pos_of_neg_of_neg h1 h2
    rw [decide_eq_true h1, decide_eq_true h2, decide_eq_false (by omega)]; rfl
  · have := Int.mul_neg_of_neg_of_pos h1 h2
    rw [decide_eq_true h1, decide_eq_false (by omega), decide_eq_true this]; rfl
  · have := Int.mul_neg_of_pos_of_neg h1 h2
    rw [decide_eq_false (by omega), decide_eq_true h2, decide_eq_true this]; rfl
  · have := Int.mul_pos h1 h2
    rw [decide_eq_false (by omega), decide_eq_false (by omega), decide_eq_false (by omega)]; rfl

set_option maxRecDepth 100000 in
set_option maxHeartbeats 1000000 in
theorem product_any (a b : Int) (ha : a.natAbs ≤ 1073741824) (hb : b.natAbs ≤ 1073741824) (w : World) :
    Calls Try.prog 57 #[.int .i64 a, .int .i64 b] w (GivesW (a * b) w) := by
  obtain ⟨m, hm⟩ : ∃ m, m = a.natAbs := ⟨_, rfl⟩
  obtain ⟨k, hk⟩ : ∃ k, k = b.natAbs := ⟨_, rfl⟩
  have hmk : m * k ≤ 1073741824 * 1073741824 := Nat.mul_le_mul (by omega) (by omega)
  have hab : (a * b).natAbs = m * k := by rw [Int.natAbs_mul, hm, hk]
  have HA := fun W => Lib.hid (fabs_any a m hm.symm (by omega) (by omega) W)
  have HK := fun W => Lib.hid (fabs_any b k hk.symm (by omega) (by omega) W)
  have HM := fun W => Lib.hid (mul64_any m k (by omega) (by omega) (by omega) W)
  have m2 : m ≤ 1073741824 := by omega
  have k2 : k ≤ 1073741824 := by omega
  have HS := Lib.hid (sign_mul a b)
  have HW : Hid (wd (a * b) = .agg #[.int .u64 0, .int .u64 ((m * k : Nat) : Int), .bool (decide (a * b < 0))]) := Lib.hid (by unfold wd; rw [hab])
  have HZ : Hid (m * k = 0 ↔ a * b = 0) := Lib.hid (by rw [← hab]; exact Int.natAbs_eq_zero)
  obtain ⟨S, hS⟩ : ∃ S, S = a * b := ⟨_, rfl⟩
  rw [← hS] at HS HW HZ ⊢
  generalize m * k = P at *
  have HBl : Hid (Blk (w.alloc (.cells #[.int .u64 0, .int .u64 0, .bool false] 60)) w.heap.size 60 #[.int .u64 0, .int .u64 0, .bool false]) := Lib.hid (Blk.new w 60 _)
  have HB0 : Hid (Below w.heap.size w (w.alloc (.cells #[.int .u64 0, .int .u64 0, .bool false] 60))) := Lib.hid ((Below.refl _ w).alloc (Nat.le_refl _) _)
  clear hm hk hab hS
  go_enter Try.func57, Try.ntmps57
  go_wp2_with fail
  refine (HA _).out.mono ?_
  rintro e w' ⟨rfl, hw⟩
  obtain rfl := hw.symm
  clear hw
  go_wp2_with fail
  refine (HK _).out.mono ?_
  rintro e w' ⟨rfl, hw⟩
  obtain rfl := hw.symm
  clear hw
  go_wp2_with fail
  refine (HM _).out.mono ?_
  rintro e w' ⟨rfl, hw⟩
  obtain rfl := hw.symm
  clear hw
  generalize w.alloc _ = w1 at *
  have c0 := HBl.out.cell 0
  have c1 := HBl.out.cell 1
  have c2 := HBl.out.cell 2
  have f0 := HBl.out.frozen 0
  have f1 := HBl.out.frozen 1
  have f2 := HBl.out.frozen 2
  by_cases hP : P = 0
  · have HE : Hid (S = 0) := Lib.hid (HZ.out.1 hP)
    have hb0 : ((P : Int) == 0) = true := by rw [beq_iff_eq]; omega
    clear hP
    go_wp2_with fail
    obtain ⟨w9, hw9⟩ : ∃ w9, w9 = ((w1.setCell ⟨w.heap.size, 0, none⟩ (.int .u64 0)).setCell ⟨w.heap.size, 1, none⟩ (.int .u64 0)).setCell ⟨w.heap.size, 2, none⟩ (.bool false) := ⟨_, rfl⟩
    have hb9 : Blk w9 w.heap.size 60 #[.int .u64 0, .int .u64 0, .bool false] := by rw [hw9]; exact ((HBl.out.set_ 0 _).set_ 1 _).set_ 2 _
    have HB9 : Hid (Below w.heap.size w w9) := Lib.hid (by rw [hw9]; exact ((HB0.out.setCell (Nat.le_refl _) _).setCell (Nat.le_refl _) _).setCell (Nat.le_refl _) _)
    have d0 := hb9.cell 0
    have d1 := hb9.cell 1
    have d2 := hb9.cell 2
    rw [← hw9]
    clear hw9 hb9 c0 c1 c2 f0 f1 f2
    exact bodyPost_ret (v := .agg #[.int .u64 0, .int .u64 0, .bool false]) (by simp [results, Try.results57, go_sem, d0, d1, d2]) rfl ⟨by rw [HE.out]; rfl, HB9.out⟩
  · have HE : Hid (S ≠ 0) := Lib.hid (fun h => hP (HZ.out.2 h))
    have hb0 : ((P : Int) == 0) = false := by rw [beq_eq_false_iff_ne]; omega
    have hs := HS.out HE.out
    have HW2 := HW
    rw [← hs] at HW2
    clear hP hs
    go_wp2_with fail
    obtain ⟨w9, hw9⟩ : ∃ w9, w9 = ((w1.setCell ⟨w.heap.size, 0, none⟩ (.int .u64 0)).setCell ⟨w.heap.size, 1, none⟩ (.int .u64 (P : Int))).setCell ⟨w.heap.size, 2, none⟩ (.bool (!(decide (a < 0) == decide (b < 0)))) := ⟨_, rfl⟩
    have hb9 : Blk w9 w.heap.size 60 #[.int .u64 0, .int .u64 (P : Int), .bool (!(decide (a < 0) == decide (b < 0)))] := by rw [hw9]; exact ((HBl.out.set_ 0 _).set_ 1 _).set_ 2 _
    have HB9 : Hid (Below w.heap.size w w9) := Lib.hid (by rw [hw9]; exact ((HB0.out.setCell (Nat.le_refl _) _).setCell (Nat.le_refl _) _).setCell (Nat.le_refl _) _)
    have d0 := hb9.cell 0
    have d1 := hb9.cell 1
    have d2 := hb9.cell 2
    rw [← hw9]
    clear hw9 hb9 c0 c1 c2 f0 f1 f2
    exact bodyPost_ret (v := .agg #[.int .u64 0, .int .u64 (P : Int), .bool (!(decide (a < 0) == decide (b < 0)))]) (by simp [results, Try.results57, go_sem, d0, d1, d2]) rfl ⟨by rw [HW2.out]; rfl, HB9.out⟩

def sub64Entry : Array Value → Sem Value := fun args => do
  let (x, y, b) ← Extern.MathBitsCarry.three "Sub64" args
  pure (Extern.MathBitsCarry.pair ((x + Extern.MathBitsCarry.m64 - y - b) % Extern.MathBitsCarry.m64) (if x < y + b then 1 else 0))
theorem run_sub64 {P : Program} (x y : Nat) (h : y ≤ x) (hx : x < 18446744073709551616) (w : World) :
    (sub64Entry #[.int .u64 (x : Int), .int .u64 (y : Int), .int .u64 0]).run P w = .ok (.tuple #[.int .u64 ((x - y : Nat) : Int), .int .u64 0]) w := by
  have key : (sub64Entry #[.int .u64 (x : Int), .int .u64 (y : Int), .int .u64 0]).run P w = .ok (Extern.MathBitsCarry.pair ((x + Extern.MathBitsCarry.m64 - y - 0) % Extern.MathBitsCarry.m64) (if x < y + 0 then 1 else 0)) w := rfl
  rw [key, if_neg (by omega)]
  simp only [Extern.MathBitsCarry.pair, Extern.MathBitsCarry.m64]
  rw [show (x + 2 ^ 64 - y - 0) % 2 ^ 64 = x - y by omega]
  rfl
theorem call_add64 (x y : Nat) (h : x + y < 18446744073709551616) (w : World) :
    (callFunc 58 #[.int .u64 (x : Int), .int .u64 (y : Int), .int .u64 0]).run Try.prog w = .ok (.value (.tuple #[.int .u64 ((x + y : Nat) : Int), .int .u64 0])) w := by
  rw [run_callFunc_extern Try.func58 (by kernel_rfl) (by kernel_rfl) (by kernel_rfl) (e := add64Entry) (by kernel_rfl), run_add64 _ _ _ (by omega) (by omega) (by omega) (by omega)]
  rw [show ((x : Int) + y + 0) % 18446744073709551616 = ((x + y : Nat) : Int) by omega, show ((x : Int) + y + 0) / 18446744073709551616 = 0 by omega]
  rfl
theorem call_sub64 (x y : Nat) (h : y ≤ x) (hx : x < 18446744073709551616) (w : World) :
    (callFunc 59 #[.int .u64 (x : Int), .int .u64 (y : Int), .int .u64 0]).run Try.prog w = .ok (.value (.tuple #[.int .u64 ((x - y : Nat) : Int), .int .u64 0])) w := by
  rw [run_callFunc_extern Try.func59 (by kernel_rfl) (by kernel_rfl) (by kernel_rfl) (e := sub64Entry) (by kernel_rfl), run_sub64 x y h hx]
  rfl

set_option maxRecDepth 100000 in
set_option maxHeartbeats 1000000 in
theorem div64_any (x y : Nat) (hx : x < 18446744073709551616) (hy : 1 ≤ y) (hy2 : y < 18446744073709551616) (w : World) :
    Calls Try.prog 42 #[.int .u64 0, .int .u64 (x : Int), .int .u64 (y : Int)] w fun e w' => e = .returned (.tuple #[.int .u64 ((x / y : Nat) : Int), .int .u64 ((x % y : Nat) : Int)]) ∧ ∃ m, w' = w.drewN m := by
  have hb0 : ((y : Int) == 0) = false := by rw [beq_eq_false_iff_ne]; omega
  have hb1 : decide ((y : Int) ≤ 0) = false := by simp; omega
  obtain ⟨q, hq⟩ : ∃ q, q = x / y := ⟨_, rfl⟩
  obtain ⟨r, hr⟩ : ∃ r, r = x % y := ⟨_, rfl⟩
  rw [← hq, ← hr]
  have q2 : q < 18446744073709551616 := by rw [hq]; exact Nat.lt_of_le_of_lt (Nat.div_le_self _ _) hx
  have r2 : r < 18446744073709551616 := by rw [hr]; exact Nat.lt_of_le_of_lt (Nat.mod_le _ _) hx
  have hdiv : Int.tdiv (x : Int) (y : Int) = (q : Int) := by rw [hq]; rfl
  have hmod : Int.tmod (x : Int) (y : Int) = (r : Int) := by rw [hr]; rfl
  have w1 : IntKind.u64.wrap (q : Int) = (q : Int) := by rw [IntKind.wrap_u64]; omega
  have w2 : IntKind.u64.wrap (r : Int) = (r : Int) := by rw [IntKind.wrap_u64]; omega
  clear hq hr
  go_enter Try.func42, Try.ntmps42
  go_wp2_with fail
  go_quiet (fail)
  go_wp2_with fail
  go_ret2
  exact ⟨rfl, _, rfl⟩
set_option maxHeartbeats 1000000 in
theorem rem64_any (x y : Nat) (hx : x < 18446744073709551616) (hy : 1 ≤ y) (hy2 : y < 18446744073709551616) (w : World) :
    Calls Try.prog 40 #[.int .u64 0, .int .u64 (x : Int), .int .u64 (y : Int)] w fun e w' => e = .returned (.int .u64 ((x % y : Nat) : Int)) ∧ ∃ m, w' = w.drewN m := by
  have hb0 : ((y : Int) == 0) = false := by rw [beq_eq_false_iff_ne]; omega
  have HD := fun W => Lib.hid (div64_any x y hx hy hy2 W)
  generalize x / y = q at *
  generalize x % y = r at *
  go_enter Try.func40, Try.ntmps40
  go_wp2_with fail
  refine (HD _).out.mono ?_
  rintro e w' ⟨rfl, m, rfl⟩
  go_wp2_with fail
  go_ret
  exact ⟨rfl, m, rfl⟩

end Go.Proofs.Ytjldhikadijbiaa
