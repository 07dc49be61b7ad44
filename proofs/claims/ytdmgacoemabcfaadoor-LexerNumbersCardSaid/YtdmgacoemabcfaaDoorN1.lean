/- The walk of LexerNumbers. -/
import Derived.Test.YtdmgacoemabcfaaDoorT1
import Derived.Test.YtdmgacoemabcfaaDoorLd
set_option linter.unusedVariables false
namespace Go.Proofs.YtdmgacoemabcfaaDoor
open Go.RowKit

theorem fnew_one (k : Nat) (hk : k ≤ 1073741824) (w : World) :
    Calls Tryd.prog 5 #[.int .i64 (k : Int), .int .i64 1] w fun e w' => e = .returned (.tuple #[.agg #[.int .i64 (k : Int), .int .i64 1], .int .i64 0]) ∧ Below w.heap.size w w' := by
  have h := fnew_any (k : Int) 1 (by omega) (by omega) (by omega) (by omega) w
  have e1 : redN (k : Int) 1 = (k : Int) := by unfold redN; rw [Nat.gcd_one_right]; simp
  have e2 : redD (k : Int) 1 = 1 := by unfold redD; rw [Nat.gcd_one_right]
  rw [e1, e2] at h
  exact h

theorem text_one (k : Nat) (hk : k ≤ 1073741824) (B : Nat) (w : World) (hB : B ≤ w.heap.size) (hT : TabAt B w) :
    Calls Tryd.prog 6 #[.agg #[.int .i64 (k : Int), .int .i64 1]] w fun e w' => ∃ S : ByteArray, e = .returned (.string S) ∧ Hid (S.data.toList = Lx.zs 0 k) ∧ Below w.heap.size w w' := by
  refine (text_any k hk B w hB hT).mono ?_
  rintro e w' ⟨rfl, hb⟩
  exact ⟨_, rfl, Lib.hid (by rw [Lx.zs_zero]), hb⟩

theorem token_one (S : ByteArray) (z k : Nat) (hz : z ≤ 6) (hk : k ≤ 1073741824) (h : S.data.toList = Lx.zs z k) (w : World) :
    Calls Tryd.prog 7 #[.string S] w fun e w' =>
      ∃ g c i, e = .returned (.tuple #[.slice (some ⟨g, 0, none⟩) 1 c, .int .i64 i, .int .i64 0]) ∧ (g < w'.heap.size ∧ w'.cell? ⟨g, 0, none⟩ = some (.int .i64 1) ∧ w'.cell? ⟨g, 1, none⟩ = some (.string S) ∧ w'.cell? ⟨g, 2, none⟩ = some (.int .i64 (k : Int))) ∧ Below w.heap.size w w' := by
  have hlen := Lx.zs_len z k hz hk
  have hS : S.size ≤ 16 := by
    have e : S.size = S.data.toList.length := by simp
    rw [e, h]; exact hlen.2
  obtain ⟨o1, o2⟩ := Lx.zs_one z k hz hk
  rw [← h] at o1 o2
  refine (tokens_any S (by unfold maxLen; omega) w).mono ?_
  rintro e w' ⟨v, rfl, hr, hb⟩
  rw [o1]
  have hl1 : (Lx.toks S.data.toList).length = 1 := by rw [o2]; rfl
  have hlt : 0 < (Lx.toks S.data.toList).length := by omega
  have hget : (Lx.toks S.data.toList)[0] = ⟨1, S.data.toList, k, 0, S.data.toList.length⟩ := by
    have e : (Lx.toks S.data.toList)[0]? = some ⟨1, S.data.toList, k, 0, S.data.toList.length⟩ := by rw [o2]; rfl
    rw [List.getElem?_eq_getElem hlt] at e
    exact Option.some.inj e
  rcases hr.2 with ⟨_, h0⟩ | ⟨g, cap, cur, rfl, _, hgb, _⟩
  · omega
  · have hc := row_cells hr 0 hlt
    rw [hget] at hc
    refine ⟨g, cap, _, by rw [hl1]; rfl, ⟨(Array.getElem?_eq_some_iff.1 hgb).1, hc.1, ?_, hc.2.2.1⟩, hb⟩
    have e : S = ⟨S.data.toList.toArray⟩ := by simp
    rw [e]
    exact hc.2.1

theorem zs_more (S : ByteArray) (z k i : Nat) (hi : i + 1 ≤ z) (h : S.data.toList = Lx.zs (z - (i + 1)) k) : (⟨#[48]⟩ ++ S : ByteArray).data.toList = Lx.zs (z - i) k := by
  have e : z - i = (z - (i + 1)) + 1 := by omega
  rw [e, Lx.zs_succ, ← h]
  simp
theorem zs_size (S : ByteArray) (z k : Nat) (hz : z ≤ 6) (hk : k ≤ 1073741824) (h : S.data.toList = Lx.zs z k) : S.size ≤ 16 := by
  have e : S.size = S.data.toList.length := by simp
  rw [e, h]; exact (Lx.zs_len z k hz hk).2

set_option maxRecDepth 100000 in
set_option maxHeartbeats 2000000 in
theorem numbers_law (n zeros : Int) (hn : -9223372036854775808 ≤ n ∧ n ≤ 9223372036854775807) (hzr : -9223372036854775808 ≤ zeros ∧ zeros ≤ 9223372036854775807) (w : World)
    (htab : Lib.TabIs Tryd.prog w "internal/strconv.uint64pow10" .u64 Lib.pow10Tab) :
    Calls Tryd.prog 3 #[.int .i64 n, .int .i64 zeros] w (Told true w) := by
  have HT : Hid (TabAt w.heap.size w) := Lib.hid (Lib.tabBelow_of_tabIs htab)
  clear htab
  have HA1 := fun W => Lib.hid (around_any n 1073741825 hn.1 hn.2 (by omega) (by omega) W)
  have HA2 := fun W => Lib.hid (around_any zeros 6 hzr.1 hzr.2 (by omega) (by omega) W)
  have a1 := around_ge n 1073741825 (by omega)
  have a2 := around_lt n 1073741825 (by omega)
  have b1 := around_ge zeros 6 (by omega)
  have b2 := around_lt zeros 6 (by omega)
  generalize around n 1073741825 = kk at *
  generalize around zeros 6 = zz at *
  obtain ⟨k, rfl⟩ : ∃ k : Nat, kk = (k : Int) := ⟨kk.toNat, by omega⟩
  obtain ⟨z, rfl⟩ : ∃ z : Nat, zz = (z : Int) := ⟨zz.toNat, by omega⟩
  have hk : k ≤ 1073741824 := by omega
  have hz : z ≤ 6 := by omega
  clear a1 a2 b1 b2
  have HN := fun W => Lib.hid (fnew_one k hk W)
  have HX := fun W (h1 : w.heap.size ≤ W.heap.size) (h2 : TabAt w.heap.size W) => Lib.hid (text_one k hk w.heap.size W h1 h2)
  have HL := fun W => Lib.hid (lives_any W)
  go_enter Tryd.func3, Tryd.ntmps3
  go_wp2_with fail
  refine (HA1 _).out.mono ?_
  rintro e w' ⟨rfl, rfl⟩
  go_wp2_with fail
  refine (HN _).out.mono ?_
  rintro e w1 ⟨rfl, hb1⟩
  have hs1 := hb1.size
  have HB2 : Hid (Below w.heap.size w (w1.alloc (.cells #[.int .i64 (k : Int), .int .i64 1] 24))) := Lib.hid (hb1.alloc hs1 _)
  clear hb1
  go_wp2_with fail
  refine (HX _ (by have := HB2.out.size; exact this) (HT.out.on HB2.out)).out.mono ?_
  rintro e w3 ⟨S0, rfl, HS0, hb3⟩
  have HB3 : Hid (Below w.heap.size w w3) := Lib.hid (HB2.out.trans (hb3.mono HB2.out.size))
  clear hb3 HB2 hs1 HX HN HA1
  go_wp2_with fail
  refine (HA2 _).out.mono ?_
  rintro e w' ⟨rfl, rfl⟩
  go_wp2_with fail
  go_loopw [8, 9] (fun u v wr => ∃ (S : ByteArray) (i : Nat), u = .string S ∧ v = .int .i64 (i : Int) ∧ i ≤ z ∧ Hid (S.data.toList = Lx.zs (z - i) k) ∧ wr = w3) (fun _ v _ => (intOf v).toNat)
  case atStart => exact ⟨S0, z, rfl, rfl, Nat.le_refl _, by rw [Nat.sub_self]; exact HS0, rfl⟩
  case round =>
    obtain ⟨S, i, rfl, rfl, hi, HS, rfl⟩ := hrel
    clear HS0
    have hS : S.size ≤ 16 := zs_size S (z - i) k (by omega) hk HS.out
    by_cases h0 : i = 0
    · subst h0
      have HKS := fun W => Lib.hid (token_one S z k hz hk HS.out W)
      go_wp2_with fail
      refine (HKS _).out.mono ?_
      rintro e w4 ⟨g, c, q, rfl, ⟨hg, c0, c1, c2⟩, hb4⟩
      have HB4 : Hid (Below w.heap.size w w4) := Lib.hid (HB3.out.trans (hb4.mono HB3.out.size))
      clear hb4 HKS HS HB3
      go_wp2_with fail
      refine (HL _).out.mono ?_
      rintro e w5 ⟨rfl, hb5⟩
      have HB5 : Hid (Below w.heap.size w w5) := Lib.hid (HB4.out.trans (hb5.mono HB4.out.size))
      clear hb5 HB4
      go_wp2_with fail
      go_ret
      exact ⟨rfl, HB5.out⟩
    · obtain ⟨j, rfl⟩ : ∃ j, i = j + 1 := ⟨i - 1, by omega⟩
      have HS' : Hid ((⟨#[48]⟩ ++ S : ByteArray).data.toList = Lx.zs (z - j) k) := Lib.hid (zs_more S z k j hi HS.out)
      have hcast : ((j + 1 : Nat) : Int) = (j : Int) + 1 := by omega
      rw [hcast]
      clear h0
      go_wp2_with fail
      go_roundw
      case rel => exact ⟨_, j, rfl, rfl, by omega, HS', by trivial⟩
      case measure => simp [intOf]

end Go.Proofs.YtdmgacoemabcfaaDoor
