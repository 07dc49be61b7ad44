/- The walks of the reference's small functions: white, letter, digit, word, number. -/
import Derived.Test.YtdmgacoemabcfaaA2
namespace Go.Proofs.Ytdmgacoemabcfaa
open Go.RowKit

theorem refLetter_any (c : UInt8) (w : World) :
    Calls Try.prog 34 #[.int .u8 (c.toNat : Int)] w fun e w' => e = .returned (.bool (Lx.letter c)) ∧ w = w' := by
  have hb : (c.toNat : Int) < 256 := by have := c.toNat_lt; omega
  have H := Lib.hid (letter_eq c)
  by_cases h1 : 97 ≤ (c.toNat : Int) <;> by_cases h2 : (c.toNat : Int) ≤ 122
  all_goals
    go_enter Try.func34, Try.ntmps34
    go_wp2
    go_ret
    exact ⟨ret_bool (by rw [H.out]; simp [h1, h2]), rfl⟩

theorem refDigit_any (c : UInt8) (w : World) :
    Calls Try.prog 36 #[.int .u8 (c.toNat : Int)] w fun e w' => e = .returned (.bool (Lx.digit c)) ∧ w = w' := by
  have hb : (c.toNat : Int) < 256 := by have := c.toNat_lt; omega
  have H := Lib.hid (digit_eq c)
  by_cases h1 : 48 ≤ (c.toNat : Int) <;> by_cases h2 : (c.toNat : Int) ≤ 57
  all_goals
    go_enter Try.func36, Try.ntmps36
    go_wp2
    go_ret
    exact ⟨ret_bool (by rw [H.out]; simp [h1, h2]), rfl⟩

theorem white_eq (c : UInt8) : Lx.white c = (((c.toNat : Int) == 9) || ((c.toNat : Int) == 10) || ((c.toNat : Int) == 13) || ((c.toNat : Int) == 32)) := by
  unfold Lx.white
  rw [Bool.eq_iff_iff]
  simp [← UInt8.toNat_inj]
  omega

theorem refWhite_any (c : UInt8) (w : World) :
    Calls Try.prog 33 #[.int .u8 (c.toNat : Int)] w fun e w' => e = .returned (.bool (Lx.white c)) ∧ w = w' := by
  have H := Lib.hid (white_eq c)
  cases h1 : ((c.toNat : Int) == 9) <;> cases h2 : ((c.toNat : Int) == 10) <;> cases h3 : ((c.toNat : Int) == 13) <;> cases h4 : ((c.toNat : Int) == 32)
  all_goals
    go_enter Try.func33, Try.ntmps33
    go_wp2
    go_ret
    exact ⟨ret_bool (by rw [H.out]; simp [h1, h2, h3, h4]), rfl⟩

theorem wordc_eq (c : UInt8) : Lx.wordc c = (Lx.letter c || Lx.digit c || ((c.toNat : Int) == 95)) := by
  unfold Lx.wordc
  congr 1
  rw [Bool.eq_iff_iff]; simp [← UInt8.toNat_inj]
  omega

set_option maxHeartbeats 1000000 in
theorem refWord_any (s : ByteArray) (i : Nat) (hs : s.size ≤ maxLen) (hi : i ≤ s.size) (w : World) :
    Calls Try.prog 35 #[.string s, .int .i64 i] w fun e w' => e = .returned (.int .i64 (Lx.stop Lx.wordc s.data.toList i : Nat)) ∧ w = w' := by
  unfold maxLen at hs
  go_enter Try.func35, Try.ntmps35
  go_wp2_with fail
  go_loop [1] (fun v => ∃ k : Nat, i ≤ k ∧ k ≤ s.size ∧ v = .int .i64 k ∧ Hid (Lx.stop Lx.wordc s.data.toList i = Lx.stop Lx.wordc s.data.toList k)) (fun v => s.size - (intOf v).toNat)
  case atStart => exact ⟨i, Nat.le_refl _, hi, rfl, Lib.hid rfl⟩
  case round =>
    obtain ⟨k, hk0, hk, rfl, H⟩ := hrel
    by_cases hlt : k < s.size
    · have hl : k < s.data.toList.length := by simpa using hlt
      have hwe := wordc_eq s[k]
      cases h1 : Lx.letter s[k] <;> cases h2 : Lx.digit s[k] <;> cases h3 : ((s[k].toNat : Int) == 95)
      · have hp : Lx.wordc s[k] = false := by rw [hwe, h1, h2, h3]; rfl
        have H2 := Lib.hid (Lx.stop_no Lx.wordc s.data.toList k hl (by rw [toList_get s k hlt]; exact hp))
        clear hwe hp
        go_wp2_with (first | (go_at_call 34; refine (refLetter_any _ _).mono ?_; rintro e w' ⟨rfl, rfl⟩) | (go_at_call 36; refine (refDigit_any _ _).mono ?_; rintro e w' ⟨rfl, rfl⟩))
        go_ret
        exact ⟨ret_int (by rw [H.out, H2.out]), rfl⟩
      all_goals
        have hp : Lx.wordc s[k] = true := by rw [hwe, h1, h2, h3]; rfl
        have H2 := Lib.hid (Lx.stop_yes Lx.wordc s.data.toList k hl (by rw [toList_get s k hlt]; exact hp))
        clear hwe hp
        go_wp2_with (first | (go_at_call 34; refine (refLetter_any _ _).mono ?_; rintro e w' ⟨rfl, rfl⟩) | (go_at_call 36; refine (refDigit_any _ _).mono ?_; rintro e w' ⟨rfl, rfl⟩))
        go_round
        case rel => exact ⟨k + 1, by omega, by omega, by go_num, Lib.hid (by rw [H.out, H2.out])⟩
        case measure => simp [intOf]; omega
    · have H2 := Lib.hid (Lx.stop_end Lx.wordc s.data.toList k (by simp; omega))
      go_wp2_with fail
      go_ret
      exact ⟨ret_int (by rw [H.out, H2.out]), rfl⟩

theorem ret_two {k : IntKind} {a b c d : Int} (h : a = b) (h2 : c = d) : Ending.returned (.tuple #[.int k a, .int k c]) = .returned (.tuple #[.int k b, .int k d]) := by rw [h, h2]

set_option maxHeartbeats 2000000 in
theorem refNumber_any (s : ByteArray) (i : Nat) (hs : s.size ≤ maxLen) (hi : i ≤ s.size) (w : World) :
    Calls Try.prog 37 #[.string s, .int .i64 i] w fun e w' => e = .returned (.tuple #[.int .i64 (Lx.stop Lx.digit s.data.toList i : Nat), .int .i64 (Lx.numv (Lx.sub s.data.toList i (Lx.stop Lx.digit s.data.toList i)) : Nat)]) ∧ w = w' := by
  unfold maxLen at hs
  go_enter Try.func37, Try.ntmps37
  go_wp2_with fail
  go_loop [1, 6] (fun v n => ∃ k : Nat, i ≤ k ∧ k ≤ s.size ∧ v = .int .i64 k ∧ n = .int .i64 (Lx.numv (Lx.sub s.data.toList i k) : Nat) ∧ Hid (Lx.stop Lx.digit s.data.toList i = Lx.stop Lx.digit s.data.toList k)) (fun v _ => s.size - (intOf v).toNat)
  case atStart => exact ⟨i, Nat.le_refl _, hi, rfl, by simp [Lx.sub, Lx.numv], Lib.hid rfl⟩
  case round =>
    obtain ⟨k, hk0, hk, rfl, rfl, H⟩ := hrel
    have hb := Lx.numv_le (Lx.sub s.data.toList i k)
    by_cases hlt : k < s.size
    · have hl : k < s.data.toList.length := by simpa using hlt
      cases hp : Lx.digit s[k]
      · have H2 := Lib.hid (Lx.stop_no Lx.digit s.data.toList k hl (by rw [toList_get s k hlt]; exact hp))
        go_wp2_with (go_at_call 36; refine (refDigit_any _ _).mono ?_; rintro e w' ⟨rfl, rfl⟩)
        go_ret2
        exact ⟨by rw [H.out, H2.out]; rfl, rfl⟩
      · have H2 := Lib.hid (Lx.stop_yes Lx.digit s.data.toList k hl (by rw [toList_get s k hlt]; exact hp))
        have hd1 : 48 ≤ (s[k].toNat : Int) ∧ (s[k].toNat : Int) ≤ 57 := by
          have := hp; rw [digit_eq] at this; simpa using this
        obtain ⟨hd2, hd3⟩ := hd1
        by_cases hn : Lx.numv (Lx.sub s.data.toList i k) ≤ 1073741824
        · have HS2 : Hid (((Lx.numv (Lx.sub s.data.toList i (k + 1)) : Nat) : Int) = 10 * (Lx.numv (Lx.sub s.data.toList i k) : Int) + ((s[k].toNat : Int) - 48)) := by
            refine Lib.hid ?_
            rw [Lx.numv_step s.data.toList i k hk0 hl hn, toList_get s k hlt]
            omega
          go_wp2_with (go_at_call 36; refine (refDigit_any _ _).mono ?_; rintro e w' ⟨rfl, rfl⟩)
          go_round
          case rel => exact ⟨k + 1, by omega, by omega, by go_num, int_eq HS2.out.symm, Lib.hid (by rw [H.out, H2.out])⟩
          case measure => simp [intOf]; omega
        · have HS2 : Hid (Lx.numv (Lx.sub s.data.toList i (k + 1)) = Lx.numv (Lx.sub s.data.toList i k)) := Lib.hid (Lx.numv_stays _ _ _ _ hk0 (by omega) (by omega))
          go_wp2_with (go_at_call 36; refine (refDigit_any _ _).mono ?_; rintro e w' ⟨rfl, rfl⟩)
          go_round
          case rel => exact ⟨k + 1, by omega, by omega, by go_num, by rw [HS2.out], Lib.hid (by rw [H.out, H2.out])⟩
          case measure => simp [intOf]; omega
    · have H2 := Lib.hid (Lx.stop_end Lx.digit s.data.toList k (by simp; omega))
      go_wp2_with fail
      go_ret2
      exact ⟨by rw [H.out, H2.out]; rfl, rfl⟩

end Go.Proofs.Ytdmgacoemabcfaa
