/- The walks of the reference's Abs, Slack, can, reach. -/
import Derived.Test.YtjldhikadijbiaaA9
import Derived.Test.YtjldhikadijbiaaCs
namespace Go.Proofs.Ytjldhikadijbiaa
open Go.RowKit

theorem abs_any (n m : Int) (hm : (n.natAbs : Int) = m) (n1 : -9223372036854775807 ≤ n) (n2 : n ≤ 9223372036854775807) (w : World) :
    Calls Try.prog 52 #[.int .i64 n] w fun e w' => e = .returned (.int .i64 m) ∧ w' = w := by
  by_cases hn : n < 0
  · obtain rfl : n = -m := by omega
    clear hm
    go_enter Try.func52, Try.ntmps52
    go_wp2
    go_ret
    exact ⟨ret_int (by omega), rfl⟩
  · obtain rfl : n = m := by omega
    clear hm
    go_enter Try.func52, Try.ntmps52
    go_wp2
    go_ret
    exact ⟨rfl, rfl⟩

set_option maxHeartbeats 400000 in
theorem rslack_any (d n : Int) (h0 : 0 ≤ d) (h1 : d ≤ 512) (n1 : -1099511627776 ≤ n) (n2 : n ≤ 1099511627776) (w : World) :
    Calls Try.prog 54 #[.int .i64 d, .int .i64 n] w fun e w' => e = .returned (.int .i64 (Ck.slack d n)) ∧ w' = w := by
  obtain ⟨m, hm⟩ : ∃ m : Int, (n.natAbs : Int) = m := ⟨_, rfl⟩
  have m0 : 0 ≤ m := by omega
  have m1 : m ≤ 1099511627776 := by omega
  have p0 : 0 ≤ m * d := Int.mul_nonneg m0 h0
  have p1 : m * d ≤ 1099511627776 * 512 := Int.mul_le_mul m1 h1 h0 (by omega)
  have H : Hid (Ck.slack d n = (m * d + 1023) / 1024) := Lib.hid (by unfold Ck.slack; rw [hm])
  have HA := fun W => Lib.hid (abs_any n m hm (by omega) (by omega) W)
  clear hm
  by_cases hk : m * d % 1024 = 0
  · have hkb : (m * d % 1024 != 0) = false := by simp [hk]
    have HK := Lib.hid hk
    clear hk
    go_enter Try.func54, Try.ntmps54
    go_wp2_with (go_at_call 52; refine (HA _).out.mono ?_; rintro e w' ⟨rfl, rfl⟩)
    go_ret
    exact ⟨ret_int (by rw [H.out]; have := HK.out; omega), rfl⟩
  · have hkb : (m * d % 1024 != 0) = true := by simp [hk]
    have HK := Lib.hid hk
    clear hk
    go_enter Try.func54, Try.ntmps54
    go_wp2_with (go_at_call 52; refine (HA _).out.mono ?_; rintro e w' ⟨rfl, rfl⟩)
    go_ret
    exact ⟨ret_int (by rw [H.out]; have := HK.out; omega), rfl⟩

set_option maxHeartbeats 400000 in
theorem can_any (d e n : Int) (h0 : 0 ≤ d) (h1 : d ≤ 512) (e1 : -10995116277760 ≤ e) (e2 : e ≤ 10995116277760) (n1 : -1099511627776 ≤ n) (n2 : n ≤ 1099511627776) (w : World) :
    Calls Try.prog 55 #[.int .i64 d, .int .i64 e, .int .i64 n] w fun x w' => x = .returned (.bool (Ck.canB d e n)) ∧ w' = w := by
  obtain ⟨m, hm⟩ : ∃ m : Int, ((e - n).natAbs : Int) = m := ⟨_, rfl⟩
  have H : Hid (Ck.canB d e n = decide (m ≤ Ck.slack d n)) := Lib.hid (by unfold Ck.canB; rw [hm])
  have HA := fun W => Lib.hid (abs_any (e - n) m hm (by omega) (by omega) W)
  have HS := fun W => Lib.hid (rslack_any d n h0 h1 n1 n2 W)
  clear hm
  generalize Ck.slack d n = sl at *
  generalize Ck.canB d e n = res at *
  go_enter Try.func55, Try.ntmps55
  go_wp2_with (first | (go_at_call 52; refine (HA _).out.mono ?_; rintro e w' ⟨rfl, rfl⟩) | (go_at_call 54; refine (HS _).out.mono ?_; rintro e w' ⟨rfl, rfl⟩))
  go_ret
  exact ⟨ret_bool H.out.symm, rfl⟩

set_option maxHeartbeats 1000000 in
theorem reach_down (d e : Int) (h0 : 0 ≤ d) (h1 : d ≤ 512) (e1 : -2097152 ≤ e) (e2 : e ≤ 2097152) (w : World) :
    Calls Try.prog 53 #[.int .i64 d, .int .i64 e, .int .i64 (-1)] w fun x w' => ∃ r, (Ck.DownTo d e r ∧ -4194304 ≤ r ∧ r ≤ 4194304) ∧ x = .returned (.int .i64 r) ∧ w' = w := by
  go_enter Try.func53, Try.ntmps53
  go_wp2_with fail
  go_loop [7] (fun v => ∃ n : Int, v = .int .i64 n ∧ n ≤ e ∧ -4194304 ≤ n ∧ Hid (∀ m, n ≤ m → m ≤ e → Ck.canB d e m = true)) (fun v => (intOf v + 4194304).toNat)
  case atStart =>
    exact ⟨e, rfl, by omega, by omega, Lib.hid fun m a b => by
      obtain rfl : m = e := by omega
      unfold Ck.canB
      have := Ck.slack_nonneg d m h0
      exact decide_eq_true (by omega)⟩
  case round =>
    obtain ⟨n, rfl, hn1, hn2, HF⟩ := hrel
    have HC := fun W => Lib.hid (can_any d e (n + -1) h0 h1 (by omega) (by omega) (by omega) (by omega) W)
    obtain ⟨m, hm⟩ : ∃ m : Int, ((n + -1).natAbs : Int) = m := ⟨_, rfl⟩
    have HA := fun W => Lib.hid (abs_any (n + -1) m hm (by omega) (by omega) W)
    cases hp : Ck.canB d e (n + -1)
    · have HR : Hid (Ck.DownTo d e n) := Lib.hid ⟨hn1, HF.out, Or.inl (by rw [show n - 1 = n + -1 by omega]; exact hp)⟩
      rw [hp] at HC
      clear hp hm
      go_wp2_with (first | (go_at_call 55; refine (HC _).out.mono ?_; rintro e w' ⟨rfl, rfl⟩) | (go_at_call 52; refine (HA _).out.mono ?_; rintro e w' ⟨rfl, rfl⟩))
      go_ret
      exact ⟨n, ⟨HR.out, hn2, by omega⟩, rfl, rfl⟩
    · by_cases hb : m ≤ 4194304
      · have HF2 : Hid (∀ m, n + -1 ≤ m → m ≤ e → Ck.canB d e m = true) := Lib.hid fun m' a b => by
          rcases Int.lt_or_le m' n with h | h
          · obtain rfl : m' = n + -1 := by omega
            exact hp
          · exact HF.out m' h b
        have hn3 : -4194304 ≤ n + -1 := by omega
        rw [hp] at HC
        clear hp hm
        go_wp2_with (first | (go_at_call 55; refine (HC _).out.mono ?_; rintro e w' ⟨rfl, rfl⟩) | (go_at_call 52; refine (HA _).out.mono ?_; rintro e w' ⟨rfl, rfl⟩))
        go_round
        case rel => exact ⟨n + -1, rfl, by omega, hn3, HF2⟩
        case measure => simp [intOf]; omega
      · have HR : Hid (Ck.DownTo d e n) := Lib.hid ⟨hn1, HF.out, Or.inr (by rw [show n - 1 = n + -1 by omega]; omega)⟩
        have hbb : decide (m ≤ 4194304) = false := by simp; omega
        rw [hp] at HC
        clear hp hm
        go_wp2_with (first | (go_at_call 55; refine (HC _).out.mono ?_; rintro e w' ⟨rfl, rfl⟩) | (go_at_call 52; refine (HA _).out.mono ?_; rintro e w' ⟨rfl, rfl⟩))
        go_ret
        exact ⟨n, ⟨HR.out, hn2, by omega⟩, rfl, rfl⟩

set_option maxHeartbeats 1000000 in
theorem reach_up (d e : Int) (h0 : 0 ≤ d) (h1 : d ≤ 512) (e1 : -2097152 ≤ e) (e2 : e ≤ 2097152) (w : World) :
    Calls Try.prog 53 #[.int .i64 d, .int .i64 e, .int .i64 1] w fun x w' => ∃ r, (Ck.UpTo d e r ∧ -4194304 ≤ r ∧ r ≤ 4194304) ∧ x = .returned (.int .i64 r) ∧ w' = w := by
  go_enter Try.func53, Try.ntmps53
  go_wp2_with fail
  go_loop [7] (fun v => ∃ n : Int, v = .int .i64 n ∧ e ≤ n ∧ n ≤ 4194304 ∧ Hid (∀ m, e ≤ m → m ≤ n → Ck.canB d e m = true)) (fun v => (4194304 - intOf v).toNat)
  case atStart =>
    exact ⟨e, rfl, by omega, by omega, Lib.hid fun m a b => by
      obtain rfl : m = e := by omega
      unfold Ck.canB
      have := Ck.slack_nonneg d m h0
      exact decide_eq_true (by omega)⟩
  case round =>
    obtain ⟨n, rfl, hn1, hn2, HF⟩ := hrel
    have HC := fun W => Lib.hid (can_any d e (n + 1) h0 h1 (by omega) (by omega) (by omega) (by omega) W)
    obtain ⟨m, hm⟩ : ∃ m : Int, ((n + 1).natAbs : Int) = m := ⟨_, rfl⟩
    have HA := fun W => Lib.hid (abs_any (n + 1) m hm (by omega) (by omega) W)
    cases hp : Ck.canB d e (n + 1)
    · have HR : Hid (Ck.UpTo d e n) := Lib.hid ⟨hn1, HF.out, Or.inl hp⟩
      rw [hp] at HC
      clear hp hm
      go_wp2_with (first | (go_at_call 55; refine (HC _).out.mono ?_; rintro e w' ⟨rfl, rfl⟩) | (go_at_call 52; refine (HA _).out.mono ?_; rintro e w' ⟨rfl, rfl⟩))
      go_ret
      exact ⟨n, ⟨HR.out, by omega, by omega⟩, rfl, rfl⟩
    · by_cases hb : m ≤ 4194304
      · have HF2 : Hid (∀ m, e ≤ m → m ≤ n + 1 → Ck.canB d e m = true) := Lib.hid fun m' a b => by
          rcases Int.lt_or_le n m' with h | h
          · obtain rfl : m' = n + 1 := by omega
            exact hp
          · exact HF.out m' a h
        have hn3 : n + 1 ≤ 4194304 := by omega
        rw [hp] at HC
        clear hp hm
        go_wp2_with (first | (go_at_call 55; refine (HC _).out.mono ?_; rintro e w' ⟨rfl, rfl⟩) | (go_at_call 52; refine (HA _).out.mono ?_; rintro e w' ⟨rfl, rfl⟩))
        go_round
        case rel => exact ⟨n + 1, rfl, by omega, hn3, HF2⟩
        case measure => simp [intOf]; omega
      · have HR : Hid (Ck.UpTo d e n) := Lib.hid ⟨hn1, HF.out, Or.inr (by omega)⟩
        have hbb : decide (m ≤ 4194304) = false := by simp; omega
        rw [hp] at HC
        clear hp hm
        go_wp2_with (first | (go_at_call 55; refine (HC _).out.mono ?_; rintro e w' ⟨rfl, rfl⟩) | (go_at_call 52; refine (HA _).out.mono ?_; rintro e w' ⟨rfl, rfl⟩))
        go_ret
        exact ⟨n, ⟨HR.out, by omega, by omega⟩, rfl, rfl⟩

end Go.Proofs.Ytjldhikadijbiaa
