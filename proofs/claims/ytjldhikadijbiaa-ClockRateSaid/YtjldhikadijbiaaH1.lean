/- The walks of frac's gcd, abs and New. -/
import Derived.Test.YtjldhikadijbiaaG3
namespace Go.Proofs.Ytjldhikadijbiaa
open Go.RowKit

theorem gcd_next (x y : Nat) : Nat.gcd y (x % y) = Nat.gcd x y := by
  rw [Nat.gcd_comm x y, Nat.gcd_rec y x, Nat.gcd_comm]

set_option maxHeartbeats 1000000 in
theorem gcd_any (a b : Nat) (ha : a ≤ 4611686018427387904) (hb : b ≤ 4611686018427387904) (w : World) :
    Calls Try.prog 36 #[.int .i64 (a : Int), .int .i64 (b : Int)] w fun e w' => e = .returned (.int .i64 ((Nat.gcd a b : Nat) : Int)) ∧ ∃ m, w' = w.drewN m := by
  obtain ⟨G, hG⟩ : ∃ G, G = Nat.gcd a b := ⟨_, rfl⟩
  rw [← hG]
  have HG := Lib.hid hG
  clear hG
  go_enter Try.func36, Try.ntmps36
  go_wp2_with fail
  go_loopw [0, 1] (fun u v wr => ∃ x y m : Nat, u = .int .i64 (x : Int) ∧ v = .int .i64 (y : Int) ∧ x ≤ 4611686018427387904 ∧ y ≤ 4611686018427387904 ∧ Hid (G = Nat.gcd x y) ∧ wr = w.drewN m) (fun _ v _ => (intOf v).toNat)
  case atStart => exact ⟨a, b, 0, rfl, rfl, ha, hb, HG, rfl⟩
  case round =>
    obtain ⟨x, y, m, rfl, rfl, hx, hy, HX, rfl⟩ := hrel
    by_cases h0 : y = 0
    · subst h0
      have hb0 : (((0 : Nat) : Int) != 0) = false := rfl
      have HR : Hid (G = x) := Lib.hid (by rw [HX.out, Nat.gcd_zero_right])
      go_wp2_with fail
      go_ret
      exact ⟨ret_int (by rw [HR.out]), m, rfl⟩
    · have hb0 : ((y : Int) != 0) = true := by rw [bne_iff_ne]; omega
      have hb1 : ((y : Int) == 0) = false := by rw [beq_eq_false_iff_ne]; omega
      have HR : Hid (G = Nat.gcd y (x % y)) := Lib.hid (by rw [HX.out, gcd_next x y])
      have hlt : x % y < y := Nat.mod_lt _ (by omega)
      obtain ⟨r, hr⟩ : ∃ r, r = x % y := ⟨_, rfl⟩
      rw [← hr] at HR hlt
      have hmod : Int.tmod (x : Int) (y : Int) = (r : Int) := by rw [hr]; rfl
      have hwr : IntKind.i64.wrap (r : Int) = (r : Int) := IntWalk.i64_in _ (by omega)
      clear hr
      obtain ⟨w3, hw3⟩ : ∃ w3, w3 = w.drewN m := ⟨_, rfl⟩
      rw [← hw3]
      have HW3 := Lib.hid hw3
      clear hw3
      go_wp2_with fail
      go_quiet (fail)
      clear hmod hwr
      go_wp2_with fail
      go_roundw
      case rel => exact ⟨y, r, m + nq, rfl, rfl, hy, by omega, HR, by rw [HW3.out]; simp⟩
      case measure => simp [intOf]; omega

set_option maxHeartbeats 1000000 in
theorem gcdU_any (a b : Nat) (ha : a ≤ 4611686018427387904) (hb : b ≤ 4611686018427387904) (w : World) :
    Calls Try.prog 41 #[.int .u64 (a : Int), .int .u64 (b : Int)] w fun e w' => e = .returned (.int .u64 ((Nat.gcd a b : Nat) : Int)) ∧ ∃ m, w' = w.drewN m := by
  obtain ⟨G, hG⟩ : ∃ G, G = Nat.gcd a b := ⟨_, rfl⟩
  rw [← hG]
  have HG := Lib.hid hG
  clear hG
  go_enter Try.func41, Try.ntmps41
  go_wp2_with fail
  go_loopw [0, 1] (fun u v wr => ∃ x y m : Nat, u = .int .u64 (x : Int) ∧ v = .int .u64 (y : Int) ∧ x ≤ 4611686018427387904 ∧ y ≤ 4611686018427387904 ∧ Hid (G = Nat.gcd x y) ∧ wr = w.drewN m) (fun _ v _ => (intOf v).toNat)
  case atStart => exact ⟨a, b, 0, rfl, rfl, ha, hb, HG, rfl⟩
  case round =>
    obtain ⟨x, y, m, rfl, rfl, hx, hy, HX, rfl⟩ := hrel
    by_cases h0 : y = 0
    · subst h0
      have hb0 : (((0 : Nat) : Int) != 0) = false := rfl
      have HR : Hid (G = x) := Lib.hid (by rw [HX.out, Nat.gcd_zero_right])
      go_wp2_with fail
      go_ret
      exact ⟨ret_int (by rw [HR.out]), m, rfl⟩
    · have hb0 : ((y : Int) != 0) = true := by rw [bne_iff_ne]; omega
      have hb1 : ((y : Int) == 0) = false := by rw [beq_eq_false_iff_ne]; omega
      have HR : Hid (G = Nat.gcd y (x % y)) := Lib.hid (by rw [HX.out, gcd_next x y])
      have hlt : x % y < y := Nat.mod_lt _ (by omega)
      obtain ⟨r, hr⟩ : ∃ r, r = x % y := ⟨_, rfl⟩
      rw [← hr] at HR hlt
      have hmod : Int.tmod (x : Int) (y : Int) = (r : Int) := by rw [hr]; rfl
      have hwr : IntKind.u64.wrap (r : Int) = (r : Int) := by rw [IntKind.wrap_u64]; omega
      clear hr
      obtain ⟨w3, hw3⟩ : ∃ w3, w3 = w.drewN m := ⟨_, rfl⟩
      rw [← hw3]
      have HW3 := Lib.hid hw3
      clear hw3
      go_wp2_with fail
      go_quiet (fail)
      clear hmod hwr
      go_wp2_with fail
      go_roundw
      case rel => exact ⟨y, r, m + nq, rfl, rfl, hy, by omega, HR, by rw [HW3.out]; simp⟩
      case measure => simp [intOf]; omega

theorem fabs_any (n : Int) (m : Nat) (hm : n.natAbs = m) (n1 : -9223372036854775807 ≤ n) (n2 : n ≤ 9223372036854775807) (w : World) :
    Calls Try.prog 37 #[.int .i64 n] w fun e w' => e = .returned (.int .i64 (m : Int)) ∧ w' = w := by
  by_cases hn : n < 0
  · obtain rfl : n = -(m : Int) := by omega
    clear hm
    go_enter Try.func37, Try.ntmps37
    go_wp2
    go_ret
    exact ⟨ret_int (by omega), rfl⟩
  · obtain rfl : n = (m : Int) := by omega
    clear hm
    go_enter Try.func37, Try.ntmps37
    go_wp2
    go_ret
    exact ⟨rfl, rfl⟩

end Go.Proofs.Ytjldhikadijbiaa
