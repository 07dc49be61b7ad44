/- The walks of the clock's slack, of the two closures of Ticks, and of search. -/
import Derived.Test.YtjldhikadijbiaaProg
import Derived.Test.YtjldhikadijbiaaCk
import Derived.WalkKit
import Derived.WalkSpells
import Derived.WalkLawsBesides
import Derived.Lib.Hide
import Derived.RegionTactic
import Derived.ChangeAlike
import Derived.Deep.QuietTactic
import Derived.BigQuiet
import Derived.Deep.Draws
import Derived.Laws.OwnMore
import Derived.Laws.Rows
import Derived.IntWalk
namespace Go.Proofs.Ytjldhikadijbiaa
open Go.RowKit

theorem ret_int {k : IntKind} {a b : Int} (h : a = b) : Ending.returned (.int k a) = .returned (.int k b) := by rw [h]
theorem ret_bool {a b : Bool} (h : a = b) : Ending.returned (.bool a) = .returned (.bool b) := by rw [h]
theorem int_eq {k : IntKind} {a b : Int} (h : a = b) : Value.int k a = .int k b := by rw [h]

set_option maxHeartbeats 400000 in
theorem slack_any (d n : Int) (h0 : 0 ≤ d) (h1 : d ≤ 512) (n1 : -1099511627776 ≤ n) (n2 : n ≤ 1099511627776) (w : World) :
    Calls Try.prog 50 #[.int .i64 d, .int .i64 n] w fun e w' => e = .returned (.int .i64 (Ck.slack d n)) ∧ w' = w := by
  obtain ⟨m, hm⟩ : ∃ m : Int, (n.natAbs : Int) = m := ⟨_, rfl⟩
  have m0 : 0 ≤ m := by omega
  have m1 : m ≤ 1099511627776 := by omega
  have p0 : 0 ≤ m * d := Int.mul_nonneg m0 h0
  have p1 : m * d ≤ 1099511627776 * 512 := Int.mul_le_mul m1 h1 h0 (by omega)
  have H : Hid (Ck.slack d n = (m * d + 1023) / 1024) := Lib.hid (by unfold Ck.slack; rw [hm])
  by_cases hn : n < 0
  · obtain rfl : n = -m := by omega
    clear hm
    go_enter Try.func50, Try.ntmps50
    go_wp2
    go_ret
    exact ⟨ret_int (by rw [H.out]; omega), rfl⟩
  · obtain rfl : n = m := by omega
    clear hm
    go_enter Try.func50, Try.ntmps50
    go_wp2
    go_ret
    exact ⟨ret_int (by rw [H.out]; omega), rfl⟩

theorem slack_le (d n : Int) (h0 : 0 ≤ d) (h1 : d ≤ 512) (n1 : -1099511627776 ≤ n) (n2 : n ≤ 1099511627776) : Ck.slack d n ≤ 1099511627776 := by
  unfold Ck.slack
  have p1 : (n.natAbs : Int) * d ≤ 1099511627776 * 512 := Int.mul_le_mul (by omega) h1 h0 (by omega)
  omega

set_option maxHeartbeats 400000 in
theorem up_any (d e n : Int) (h0 : 0 ≤ d) (h1 : d ≤ 512) (n1 : -1099511627776 ≤ n) (n2 : n ≤ 1099511627776) (bd be : Nat) (w : World) (hd : w.cell? ⟨bd, 0, none⟩ = some (.int .i64 d)) (he : w.cell? ⟨be, 0, none⟩ = some (.int .i64 e)) :
    Calls Try.prog 49 #[.int .i64 n, .pointer (some ⟨bd, 0, none⟩), .pointer (some ⟨be, 0, none⟩)] w fun x w' => x = .returned (.bool (Ck.upB d e n)) ∧ ∃ m, w' = w.drewN m := by
  have s0 := Ck.slack_nonneg d n h0
  have s1 := slack_le d n h0 h1 n1 n2
  have HS := fun W => Lib.hid (slack_any d n h0 h1 n1 n2 W)
  have H : Hid (Ck.upB d e n = decide (e ≤ n + Ck.slack d n)) := Lib.hid rfl
  generalize Ck.slack d n = sl at *
  have hw : IntKind.i64.wrap (n + sl) = n + sl := IntWalk.i64_in _ (by omega)
  go_enter Try.func49, Try.ntmps49
  go_wp2_with fail
  go_quiet ((go_at_call 50; exact Calls.quiet_of_same (HS _).out))
  clear hw
  go_wp2_with fail
  go_ret
  exact ⟨ret_bool (by rw [H.out]), _, rfl⟩

set_option maxHeartbeats 400000 in
theorem down_any (d e n : Int) (h0 : 0 ≤ d) (h1 : d ≤ 512) (n1 : -1099511627776 ≤ n) (n2 : n ≤ 1099511627776) (bd be : Nat) (w : World) (hd : w.cell? ⟨bd, 0, none⟩ = some (.int .i64 d)) (he : w.cell? ⟨be, 0, none⟩ = some (.int .i64 e)) :
    Calls Try.prog 51 #[.int .i64 n, .pointer (some ⟨bd, 0, none⟩), .pointer (some ⟨be, 0, none⟩)] w fun x w' => x = .returned (.bool (Ck.downB d e n)) ∧ ∃ m, w' = w.drewN m := by
  have s0 := Ck.slack_nonneg d n h0
  have s1 := slack_le d n h0 h1 n1 n2
  have HS := fun W => Lib.hid (slack_any d n h0 h1 n1 n2 W)
  have H : Hid (Ck.downB d e n = decide (e < n - Ck.slack d n)) := Lib.hid rfl
  generalize Ck.slack d n = sl at *
  have hw : IntKind.i64.wrap (n - sl) = n - sl := IntWalk.i64_in _ (by omega)
  go_enter Try.func51, Try.ntmps51
  go_wp2_with fail
  go_quiet ((go_at_call 50; exact Calls.quiet_of_same (HS _).out))
  clear hw
  go_wp2_with fail
  go_ret
  exact ⟨ret_bool (by rw [H.out]), _, rfl⟩

set_option maxHeartbeats 1000000 in
theorem search_up (d e lo hi : Int) (h0 : 0 ≤ d) (h1 : d ≤ 512) (hlo : -1099511627776 ≤ lo) (hhi : hi ≤ 1099511627776) (hle : lo ≤ hi) (bd be : Nat) (w : World) (hd : w.cell? ⟨bd, 0, none⟩ = some (.int .i64 d)) (he : w.cell? ⟨be, 0, none⟩ = some (.int .i64 e)) :
    Calls Try.prog 48 #[.int .i64 lo, .int .i64 hi, .func (.func 49) #[] #[.pointer (some ⟨bd, 0, none⟩), .pointer (some ⟨be, 0, none⟩)]] w fun x w' => ∃ r, Ck.IsLeast (Ck.upB d e) lo hi r ∧ x = .returned (.int .i64 r) ∧ ∃ m, w' = w.drewN m := by
  have HRis := Lib.hid (Ck.up_rises d e h0 (by omega))
  go_enter Try.func48, Try.ntmps48
  go_wp2_with fail
  go_loopw [0, 1, 7] (fun x y _ wr => ∃ (a b : Int) (m : Nat), x = .int .i64 a ∧ y = .int .i64 b ∧ lo ≤ a ∧ a ≤ b ∧ b ≤ hi ∧ Hid (∀ m, lo ≤ m → m < a → Ck.upB d e m = false) ∧ Hid (∀ m, b ≤ m → m < hi → Ck.upB d e m = true) ∧ wr = w.drewN m) (fun x y _ _ => (intOf y - intOf x).toNat)
  case atStart => exact ⟨lo, hi, 0, rfl, rfl, by omega, hle, by omega, Lib.hid (fun m h1 h2 => by omega), Lib.hid (fun m h1 h2 => by omega), rfl⟩
  case round =>
    obtain ⟨a, b, m, rfl, rfl, ha, hab, hb, HF, HT, rfl⟩ := hrel
    by_cases hlt : a < b
    · have hm1 : a ≤ a + (b - a) / 2 := by omega
      have hm2 : a + (b - a) / 2 < b := by omega
      have HC := fun n n1 n2 W c1 c2 => Lib.hid (up_any d e n h0 h1 n1 n2 bd be W c1 c2)
      cases hp : Ck.upB d e (a + (b - a) / 2)
      · have HF2 : Hid (∀ m, lo ≤ m → m < a + (b - a) / 2 + 1 → Ck.upB d e m = false) := Lib.hid fun m' h1' h2' => by
          cases hq : Ck.upB d e m' with
          | false => rfl
          | true => rw [HRis.out m' _ (by omega) hq] at hp; cases hp
        go_wp2_with (go_at_call 49; refine (HC _ (by omega) (by omega) _ (by exact hd) (by exact he)).out.mono ?_; rintro x w' ⟨rfl, nn, rfl⟩)
        go_roundw
        case rel => exact ⟨_, b, _, rfl, rfl, by omega, by omega, hb, HF2, HT, rfl⟩
        case measure => simp [intOf]; omega
      · have HT2 : Hid (∀ m, a + (b - a) / 2 ≤ m → m < hi → Ck.upB d e m = true) := Lib.hid fun m' h1' h2' => HRis.out _ m' h1' hp
        go_wp2_with (go_at_call 49; refine (HC _ (by omega) (by omega) _ (by exact hd) (by exact he)).out.mono ?_; rintro x w' ⟨rfl, nn, rfl⟩)
        go_roundw
        case rel => exact ⟨a, _, _, rfl, rfl, ha, by omega, by omega, HF, HT2, rfl⟩
        case measure => simp [intOf]; omega
    · obtain rfl : a = b := by omega
      go_wp2_with fail
      go_ret
      exact ⟨a, ⟨ha, hb, HF.out, HT.out⟩, rfl, m, rfl⟩

set_option maxHeartbeats 1000000 in
theorem search_down (d e lo hi : Int) (h0 : 0 ≤ d) (h1 : d ≤ 512) (hlo : -1099511627776 ≤ lo) (hhi : hi ≤ 1099511627776) (hle : lo ≤ hi) (bd be : Nat) (w : World) (hd : w.cell? ⟨bd, 0, none⟩ = some (.int .i64 d)) (he : w.cell? ⟨be, 0, none⟩ = some (.int .i64 e)) :
    Calls Try.prog 48 #[.int .i64 lo, .int .i64 hi, .func (.func 51) #[] #[.pointer (some ⟨bd, 0, none⟩), .pointer (some ⟨be, 0, none⟩)]] w fun x w' => ∃ r, Ck.IsLeast (Ck.downB d e) lo hi r ∧ x = .returned (.int .i64 r) ∧ ∃ m, w' = w.drewN m := by
  have HRis := Lib.hid (Ck.down_rises d e h0 (by omega))
  go_enter Try.func48, Try.ntmps48
  go_wp2_with fail
  go_loopw [0, 1, 7] (fun x y _ wr => ∃ (a b : Int) (m : Nat), x = .int .i64 a ∧ y = .int .i64 b ∧ lo ≤ a ∧ a ≤ b ∧ b ≤ hi ∧ Hid (∀ m, lo ≤ m → m < a → Ck.downB d e m = false) ∧ Hid (∀ m, b ≤ m → m < hi → Ck.downB d e m = true) ∧ wr = w.drewN m) (fun x y _ _ => (intOf y - intOf x).toNat)
  case atStart => exact ⟨lo, hi, 0, rfl, rfl, by omega, hle, by omega, Lib.hid (fun m h1 h2 => by omega), Lib.hid (fun m h1 h2 => by omega), rfl⟩
  case round =>
    obtain ⟨a, b, m, rfl, rfl, ha, hab, hb, HF, HT, rfl⟩ := hrel
    by_cases hlt : a < b
    · have hm1 : a ≤ a + (b - a) / 2 := by omega
      have hm2 : a + (b - a) / 2 < b := by omega
      have HC := fun n n1 n2 W c1 c2 => Lib.hid (down_any d e n h0 h1 n1 n2 bd be W c1 c2)
      cases hp : Ck.downB d e (a + (b - a) / 2)
      · have HF2 : Hid (∀ m, lo ≤ m → m < a + (b - a) / 2 + 1 → Ck.downB d e m = false) := Lib.hid fun m' h1' h2' => by
          cases hq : Ck.downB d e m' with
          | false => rfl
          | true => rw [HRis.out m' _ (by omega) hq] at hp; cases hp
        go_wp2_with (go_at_call 51; refine (HC _ (by omega) (by omega) _ (by exact hd) (by exact he)).out.mono ?_; rintro x w' ⟨rfl, nn, rfl⟩)
        go_roundw
        case rel => exact ⟨_, b, _, rfl, rfl, by omega, by omega, hb, HF2, HT, rfl⟩
        case measure => simp [intOf]; omega
      · have HT2 : Hid (∀ m, a + (b - a) / 2 ≤ m → m < hi → Ck.downB d e m = true) := Lib.hid fun m' h1' h2' => HRis.out _ m' h1' hp
        go_wp2_with (go_at_call 51; refine (HC _ (by omega) (by omega) _ (by exact hd) (by exact he)).out.mono ?_; rintro x w' ⟨rfl, nn, rfl⟩)
        go_roundw
        case rel => exact ⟨a, _, _, rfl, rfl, ha, by omega, by omega, HF, HT2, rfl⟩
        case measure => simp [intOf]; omega
    · obtain rfl : a = b := by omega
      go_wp2_with fail
      go_ret
      exact ⟨a, ⟨ha, hb, HF.out, HT.out⟩, rfl, m, rfl⟩

end Go.Proofs.Ytjldhikadijbiaa
