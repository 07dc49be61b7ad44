/- The walks of the reference's quoted and symbol. -/
import Derived.Test.YtdmgacoemabcfaaB2
namespace Go.Proofs.Ytdmgacoemabcfaa
open Go.RowKit

theorem value_at (x : ByteArray) (k : Nat) (hk : k < x.size) (w : World) :
    Calls Try.prog 47 #[.string (x.extract k (k + 1))] w fun e w' => e = .returned (.bool (Lx.valc x[k])) ∧ w = w' :=
  (value_one (x.extract k (k + 1)) (by simp; omega) w).mono fun e w' ⟨he, hw⟩ => ⟨by
    rw [he]; refine ret_bool ?_; congr 1; rw [ByteArray.getElem_extract]; rfl, hw⟩

/-- what quoted hands back -/
def QPost (w : World) (s : ByteArray) (i : Nat) (e : Ending) (w' : World) : Prop := w = w' ∧
  ((s.size ≤ Lx.stop Lx.noq s.data.toList (i + 1) ∧ e = .returned (.tuple #[.string ⟨#[]⟩, .int .i64 2])) ∨
   (Lx.stop Lx.noq s.data.toList (i + 1) < s.size ∧
    (((s.extract (i + 1) (Lx.stop Lx.noq s.data.toList (i + 1))).data.toList.all Lx.valc = false ∧ e = .returned (.tuple #[.string ⟨#[]⟩, .int .i64 2])) ∨
     ((s.extract (i + 1) (Lx.stop Lx.noq s.data.toList (i + 1))).data.toList.all Lx.valc = true ∧ 16 < Lx.stop Lx.noq s.data.toList (i + 1) - (i + 1) ∧ e = .returned (.tuple #[.string ⟨#[]⟩, .int .i64 4])) ∨
     ((s.extract (i + 1) (Lx.stop Lx.noq s.data.toList (i + 1))).data.toList.all Lx.valc = true ∧ Lx.stop Lx.noq s.data.toList (i + 1) - (i + 1) ≤ 16 ∧ e = .returned (.tuple #[.string (s.extract (i + 1) (Lx.stop Lx.noq s.data.toList (i + 1))), .int .i64 0])))))

theorem noq_eq (c : UInt8) : Lx.noq c = ((c.toNat : Int) != 34) := by
  unfold Lx.noq
  rw [Bool.eq_iff_iff]
  simp [← UInt8.toNat_inj]
  omega

set_option maxRecDepth 100000 in
set_option maxHeartbeats 2000000 in
theorem quoted_any (s : ByteArray) (i : Nat) (hs : s.size ≤ maxLen) (hi : i < s.size) (w : World) :
    Calls Try.prog 38 #[.string s, .int .i64 i] w (QPost w s i) := by
  have b1 := Lx.stop_ge Lx.noq s.data.toList (i + 1)
  have b2 := Lx.stop_le Lx.noq s.data.toList (i + 1) (by simp; omega)
  rw [show s.data.toList.length = s.size by simp] at b2
  obtain ⟨q, HQ⟩ : ∃ q, Hid (Lx.stop Lx.noq s.data.toList (i + 1) = q) := ⟨_, Lib.hid rfl⟩
  rw [HQ.out] at b1 b2
  unfold maxLen at hs
  go_enter Try.func38, Try.ntmps38
  go_wp2_with fail
  go_loop [6] (fun v => ∃ k : Nat, i + 1 ≤ k ∧ k ≤ s.size ∧ v = .int .i64 k ∧ Hid (q = Lx.stop Lx.noq s.data.toList k)) (fun v => s.size - (intOf v).toNat)
  case atStart => exact ⟨i + 1, Nat.le_refl _, by omega, by go_num, Lib.hid HQ.out.symm⟩
  case round =>
    obtain ⟨k, hk0, hk, rfl, H⟩ := hrel
    by_cases hlt : k < s.size
    · have hl : k < s.data.toList.length := by simpa using hlt
      have hne := noq_eq s[k]
      cases hp : Lx.noq s[k]
      · have hq := Lx.stop_no Lx.noq s.data.toList k hl (by rw [toList_get s k hlt]; exact hp)
        have hqk : q = k := by rw [H.out, hq]
        rw [hp] at hne
        have hne' := hne.symm
        obtain ⟨tx, hT⟩ : ∃ tx, s.extract (i + 1) k = tx := ⟨_, rfl⟩
        have hsz : tx.size = k - (i + 1) := by rw [← hT]; simp; omega
        have hkne : ((k : Int) == (s.size : Int)) = false := by simp; omega
        have HF : Hid (∀ e, ((tx.data.toList.all Lx.valc = false ∧ e = .returned (.tuple #[.string ⟨#[]⟩, .int .i64 2])) ∨ (tx.data.toList.all Lx.valc = true ∧ 16 < tx.size ∧ e = .returned (.tuple #[.string ⟨#[]⟩, .int .i64 4])) ∨ (tx.data.toList.all Lx.valc = true ∧ tx.size ≤ 16 ∧ e = .returned (.tuple #[.string tx, .int .i64 0]))) → QPost w s i e w) := by
          refine Lib.hid fun e he => ⟨rfl, .inr ?_⟩
          rw [HQ.out, hqk, hT, ← hsz]
          exact ⟨hlt, he⟩
        have hmin : min k s.size - (i + 1) = tx.size := by omega
        clear hq hqk hne hp H
        go_wp2_with fail
        go_loop [8] (fun v => ∃ j : Nat, j ≤ tx.size ∧ v = .int .i64 j ∧ Hid ((tx.data.toList.take j).all Lx.valc = true)) (fun v => tx.size - (intOf v).toNat)
        case atStart => exact ⟨0, Nat.zero_le _, rfl, Lib.hid (by simp)⟩
        case round =>
          obtain ⟨j, hj, rfl, HA⟩ := hrel
          by_cases hjl : j < tx.size
          · have hjL : j < tx.data.toList.length := by simpa using hjl
            cases hv : Lx.valc tx[j]
            · have HX := Lib.hid (all_false_of tx.data.toList j hjL hv)
              go_wp2_with (go_at_call 47; refine (value_at _ _ hjl _).mono ?_; rintro e w' ⟨rfl, rfl⟩)
              go_ret2
              exact HF.out _ (.inl ⟨HX.out, rfl⟩)
            · have HX := Lib.hid (all_take_succ tx.data.toList j hjL HA.out hv)
              go_wp2_with (go_at_call 47; refine (value_at _ _ hjl _).mono ?_; rintro e w' ⟨rfl, rfl⟩)
              go_round
              case rel => exact ⟨j + 1, by omega, by go_num, HX⟩
              case measure => simp [intOf]; omega
          · have HX : Hid (tx.data.toList.all Lx.valc = true) := by
              have := HA.out
              rw [List.take_of_length_le (by simp; omega)] at this
              exact Lib.hid this
            by_cases h16 : 16 < tx.size
            · go_wp2_with fail
              go_ret2
              exact HF.out _ (.inr (.inl ⟨HX.out, h16, rfl⟩))
            · go_wp2_with fail
              go_ret2
              exact HF.out _ (.inr (.inr ⟨HX.out, by omega, rfl⟩))
      · have H2 := Lib.hid (Lx.stop_yes Lx.noq s.data.toList k hl (by rw [toList_get s k hlt]; exact hp))
        rw [hp] at hne
        have hne' := hne.symm
        clear hne hp
        go_wp2_with fail
        go_round
        case rel => exact ⟨k + 1, by omega, by omega, by go_num, Lib.hid (by rw [H.out, H2.out])⟩
        case measure => simp [intOf]; omega
    · have hq := Lx.stop_end Lx.noq s.data.toList k (by simp; omega)
      have HF : Hid (QPost w s i (.returned (.tuple #[.string ⟨#[]⟩, .int .i64 2])) w) := Lib.hid ⟨rfl, .inl ⟨by rw [HQ.out, H.out, hq]; omega, rfl⟩⟩
      have hkeq : ((k : Int) == (s.size : Int)) = true := by simp; omega
      clear hq H
      go_wp2_with fail
      go_ret2
      exact HF.out

end Go.Proofs.Ytdmgacoemabcfaa
