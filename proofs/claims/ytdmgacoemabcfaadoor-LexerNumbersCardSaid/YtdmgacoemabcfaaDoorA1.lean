/- The walks of the lexer's small functions: letter, digit, the word's property, run. -/
import Derived.Test.YtdmgacoemabcfaaDoorProg
import Derived.Test.YtdmgacoemabcfaaDoorLx
import Derived.WalkKit
import Derived.WalkSpells
import Derived.WalkLawsBesides
import Derived.Lib.Hide
namespace Go.Proofs.YtdmgacoemabcfaaDoor
open Go.RowKit

theorem ret_bool {a b : Bool} (h : a = b) : Ending.returned (.bool a) = .returned (.bool b) := by rw [h]
theorem ret_int {k : IntKind} {a b : Int} (h : a = b) : Ending.returned (.int k a) = .returned (.int k b) := by rw [h]

theorem toList_get (s : ByteArray) (k : Nat) (h : k < s.size) : s.data.toList[k]'(by simpa using h) = s[k] := rfl

theorem letter_eq (c : UInt8) : Lx.letter c = decide (97 ≤ (c.toNat : Int) ∧ (c.toNat : Int) ≤ 122) := by
  unfold Lx.letter; rw [Bool.eq_iff_iff]; simp [UInt8.le_iff_toNat_le]; omega
theorem digit_eq (c : UInt8) : Lx.digit c = decide (48 ≤ (c.toNat : Int) ∧ (c.toNat : Int) ≤ 57) := by
  unfold Lx.digit; rw [Bool.eq_iff_iff]; simp [UInt8.le_iff_toNat_le]; omega

theorem letter_any (c : UInt8) (w : World) :
    Calls Tryd.prog 15 #[.int .u8 (c.toNat : Int)] w fun e w' => e = .returned (.bool (Lx.letter c)) ∧ w = w' := by
  have hb : (c.toNat : Int) < 256 := by have := c.toNat_lt; omega
  have H := Lib.hid (letter_eq c)
  by_cases h1 : 97 ≤ (c.toNat : Int) <;> by_cases h2 : (c.toNat : Int) ≤ 122
  all_goals
    go_enter Tryd.func15, Tryd.ntmps15
    go_wp2
    go_ret
    exact ⟨ret_bool (by rw [H.out]; simp [h1, h2]), rfl⟩

theorem digit_any (c : UInt8) (w : World) :
    Calls Tryd.prog 17 #[.int .u8 (c.toNat : Int)] w fun e w' => e = .returned (.bool (Lx.digit c)) ∧ w = w' := by
  have hb : (c.toNat : Int) < 256 := by have := c.toNat_lt; omega
  have H := Lib.hid (digit_eq c)
  by_cases h1 : 48 ≤ (c.toNat : Int) <;> by_cases h2 : (c.toNat : Int) ≤ 57
  all_goals
    go_enter Tryd.func17, Tryd.ntmps17
    go_wp2
    go_ret
    exact ⟨ret_bool (by rw [H.out]; simp [h1, h2]), rfl⟩

theorem wordc_any (c : UInt8) (w : World) :
    Calls Tryd.prog 23 #[.int .u8 (c.toNat : Int)] w fun e w' => e = .returned (.bool (Lx.wordc c)) ∧ w = w' := by
  have H : Hid (Lx.wordc c = (Lx.letter c || Lx.digit c || ((c.toNat : Int) == 95))) := by
    show _ = _
    unfold Lx.wordc
    congr 1
    rw [Bool.eq_iff_iff]; simp [← UInt8.toNat_inj]
    omega
  cases h1 : Lx.letter c <;> cases h2 : Lx.digit c <;> cases h3 : ((c.toNat : Int) == 95)
  all_goals
    go_enter Tryd.func23, Tryd.ntmps23
    go_wp2_with (first | (go_at_call 15; refine (letter_any _ _).mono ?_; rintro e w' ⟨rfl, rfl⟩) | (go_at_call 17; refine (digit_any _ _).mono ?_; rintro e w' ⟨rfl, rfl⟩))
    go_ret
    exact ⟨ret_bool (by rw [H.out]; simp [h1, h2, h3]), rfl⟩

set_option maxHeartbeats 400000 in
theorem run_wordc (Q : Nat) (s : ByteArray) (i : Nat) (hs : s.size ≤ maxLen) (hi : i ≤ s.size) (w : World) (hc : w.cell? ⟨Q, 0, none⟩ = some (.string s)) :
    Calls Tryd.prog 22 #[.pointer (some ⟨Q, 0, none⟩), .int .i64 i, .func (.func 23) #[] #[]] w fun e w' => e = .returned (.int .i64 (Lx.stop Lx.wordc s.data.toList i : Nat)) ∧ w = w' := by
  unfold maxLen at hs
  go_enter Tryd.func22, Tryd.ntmps22
  go_wp2_with fail
  go_loop [1] (fun v => ∃ k : Nat, i ≤ k ∧ k ≤ s.size ∧ v = .int .i64 k ∧ Hid (Lx.stop Lx.wordc s.data.toList i = Lx.stop Lx.wordc s.data.toList k)) (fun v => s.size - (intOf v).toNat)
  case atStart => exact ⟨i, Nat.le_refl _, hi, rfl, Lib.hid rfl⟩
  case round =>
    obtain ⟨k, hk0, hk, rfl, H⟩ := hrel
    by_cases hlt : k < s.size
    · have hl : k < s.data.toList.length := by simpa using hlt
      cases hp : Lx.wordc s[k]
      · have H2 := Lib.hid (Lx.stop_no Lx.wordc s.data.toList k hl (by rw [toList_get s k hlt]; exact hp))
        go_wp2_with (go_at_call 23; refine (wordc_any _ _).mono ?_; rintro e w' ⟨rfl, rfl⟩)
        go_ret
        exact ⟨ret_int (by rw [H.out, H2.out]), rfl⟩
      · have H2 := Lib.hid (Lx.stop_yes Lx.wordc s.data.toList k hl (by rw [toList_get s k hlt]; exact hp))
        go_wp2_with (go_at_call 23; refine (wordc_any _ _).mono ?_; rintro e w' ⟨rfl, rfl⟩)
        go_round
        case rel => exact ⟨k + 1, by omega, by omega, by go_num, Lib.hid (by rw [H.out, H2.out])⟩
        case measure => simp [intOf]; omega
    · have H2 := Lib.hid (Lx.stop_end Lx.wordc s.data.toList k (by simp; omega))
      go_wp2_with fail
      go_ret
      exact ⟨ret_int (by rw [H.out, H2.out]), rfl⟩

set_option maxHeartbeats 400000 in
theorem run_digit (Q : Nat) (s : ByteArray) (i : Nat) (hs : s.size ≤ maxLen) (hi : i ≤ s.size) (w : World) (hc : w.cell? ⟨Q, 0, none⟩ = some (.string s)) :
    Calls Tryd.prog 22 #[.pointer (some ⟨Q, 0, none⟩), .int .i64 i, .func (.func 17) #[] #[]] w fun e w' => e = .returned (.int .i64 (Lx.stop Lx.digit s.data.toList i : Nat)) ∧ w = w' := by
  unfold maxLen at hs
  go_enter Tryd.func22, Tryd.ntmps22
  go_wp2_with fail
  go_loop [1] (fun v => ∃ k : Nat, i ≤ k ∧ k ≤ s.size ∧ v = .int .i64 k ∧ Hid (Lx.stop Lx.digit s.data.toList i = Lx.stop Lx.digit s.data.toList k)) (fun v => s.size - (intOf v).toNat)
  case atStart => exact ⟨i, Nat.le_refl _, hi, rfl, Lib.hid rfl⟩
  case round =>
    obtain ⟨k, hk0, hk, rfl, H⟩ := hrel
    by_cases hlt : k < s.size
    · have hl : k < s.data.toList.length := by simpa using hlt
      cases hp : Lx.digit s[k]
      · have H2 := Lib.hid (Lx.stop_no Lx.digit s.data.toList k hl (by rw [toList_get s k hlt]; exact hp))
        go_wp2_with (go_at_call 17; refine (digit_any _ _).mono ?_; rintro e w' ⟨rfl, rfl⟩)
        go_ret
        exact ⟨ret_int (by rw [H.out, H2.out]), rfl⟩
      · have H2 := Lib.hid (Lx.stop_yes Lx.digit s.data.toList k hl (by rw [toList_get s k hlt]; exact hp))
        go_wp2_with (go_at_call 17; refine (digit_any _ _).mono ?_; rintro e w' ⟨rfl, rfl⟩)
        go_round
        case rel => exact ⟨k + 1, by omega, by omega, by go_num, Lib.hid (by rw [H.out, H2.out])⟩
        case measure => simp [intOf]; omega
    · have H2 := Lib.hid (Lx.stop_end Lx.digit s.data.toList k (by simp; omega))
      go_wp2_with fail
      go_ret
      exact ⟨ret_int (by rw [H.out, H2.out]), rfl⟩

end Go.Proofs.YtdmgacoemabcfaaDoor
