/- LexerLimits: the walks of Bound and Decimal, and of the law. -/
import Derived.Test.YtdmgacoemabcfaaC4
namespace Go.Proofs.Ytdmgacoemabcfaa
open Go.RowKit

set_option maxHeartbeats 400000 in
theorem bound3_any (n : Int) (h1 : -9223372036854775808 ≤ n) (h2 : n ≤ 9223372036854775807) (w : World) :
    Calls Try.prog 17 #[.int .i64 n, .int .i64 3] w fun e w' => e = .returned (.int .i64 (around n 7 - 3)) ∧ w = w' := by
  have ha1 := around_ge n 7 (by omega)
  have ha2 := around_lt n 7 (by omega)
  go_enter Try.func17, Try.ntmps17
  go_wp2_with (go_at_call 15; refine (around_any n 7 h1 h2 (by omega) (by omega) _).mono ?_; rintro e w' ⟨rfl, rfl⟩)
  go_ret
  exact ⟨rfl, rfl⟩

def SomeStr (w : World) (m : Nat) (e : Ending) (w' : World) : Prop := ∃ X : ByteArray, X.size ≤ m ∧ e = .returned (.string X) ∧ w = w'

set_option maxHeartbeats 1000000 in
theorem decimal_any (n : Nat) (h1 : 0 < n) (h2 : n ≤ 2000000000) (w : World) :
    Calls Try.prog 16 #[.int .i64 (n : Int)] w (SomeStr w 2000000000) := by
  have hne : ((n : Int) == 0) = false := by simp; omega
  go_enter Try.func16, Try.ntmps16
  go_wp2_with fail
  go_loop [4, 5, 6] (fun x v _ => ∃ (X : ByteArray) (k : Nat), x = .string X ∧ v = .int .i64 (k : Int) ∧ X.size + k ≤ n) (fun _ v _ => (intOf v).toNat)
  case atStart => exact ⟨⟨#[]⟩, n, rfl, rfl, by show 0 + n ≤ n; omega⟩
  case round =>
    obtain ⟨X, k, rfl, rfl, hk⟩ := hrel
    by_cases h0 : k = 0
    · subst h0
      go_wp2_with fail
      go_ret
      exact ⟨X, by omega, rfl, rfl⟩
    · have hk0 : ((k : Int) != 0) = true := by simp; omega
      have hm : (k : Int) % 10 < 10 := by omega
      have hm2 : 0 ≤ (k : Int) % 10 := by omega
      go_wp2_with fail
      go_round
      case rel => exact ⟨_, k / 10, rfl, by go_num, by simp only [ByteArray.size_append, ByteArray.size_extract]; omega⟩
      case measure => simp [intOf]; omega

set_option maxRecDepth 100000 in
set_option maxHeartbeats 2000000 in
theorem limits_walk (n near size : Int) (n1 : -9223372036854775808 ≤ n) (n2 : n ≤ 9223372036854775807) (m1 : -9223372036854775808 ≤ near) (m2 : near ≤ 9223372036854775807) (s1 : -9223372036854775808 ≤ size) (s2 : size ≤ 9223372036854775807) (w1 : World) :
    Calls Try.prog 5 #[.int .i64 n, .int .i64 near, .int .i64 size] w1 (Agreed w1) := by
  have a1 := around_ge n 26 (by omega)
  have a2 := around_lt n 26 (by omega)
  obtain ⟨kk, hkk⟩ : ∃ kk : Nat, around n 26 = (kk : Int) := ⟨(around n 26).toNat, by omega⟩
  have b1 := around_ge near 7 (by omega)
  have b2 := around_lt near 7 (by omega)
  obtain ⟨mm, hmm⟩ : ∃ mm : Nat, around near 7 - 3 = (mm : Int) - 3 := ⟨(around near 7).toNat, by omega⟩
  have c1 := around_ge size 20 (by omega)
  have c2 := around_lt size 20 (by omega)
  obtain ⟨ss, hss⟩ : ∃ ss : Nat, around size 20 = (ss : Int) := ⟨(around size 20).toNat, by omega⟩
  have HN := fun W => Lib.hid (around_any n 26 n1 n2 (by omega) (by omega) W)
  have HM := fun W => Lib.hid (bound3_any near m1 m2 W)
  have HS := fun W => Lib.hid (around_any size 20 s1 s2 (by omega) (by omega) W)
  rw [hkk] at HN
  rw [hmm] at HM
  rw [hss] at HS
  have hk2 : kk < 26 := by omega
  have hm2 : mm < 7 := by omega
  have hs2 : ss < 20 := by omega
  have HD := fun W => Lib.hid (decimal_any (1073741821 + mm) (by omega) (by omega) W)
  have HB1 : Hid (Below w1.heap.size w1 w1) := Lib.hid (Below.refl _ _)
  clear a1 a2 b1 b2 c1 c2 hkk hmm hss
  go_enter Try.func5, Try.ntmps5
  go_wp2_with fail
  refine (HN w1).out.mono ?_
  rintro e w' ⟨rfl, rfl⟩
  go_wp2_with fail
  go_loop [8, 9, 10] (fun x y v => ∃ (X Y : ByteArray) (k : Nat), x = .string X ∧ y = .string Y ∧ v = .int .i64 (k : Int) ∧ k ≤ kk ∧ X.size ≤ k ∧ Y.size ≤ k) (fun _ _ v => kk - (intOf v).toNat)
  case atStart => exact ⟨⟨#[]⟩, ⟨#[]⟩, 0, rfl, rfl, rfl, by omega, by decide, by decide⟩
  case round =>
    obtain ⟨X, Y, k, rfl, rfl, rfl, hk, hX, hY⟩ := hrel
    by_cases hlt : k < kk
    · go_wp2_with fail
      go_round
      case rel => exact ⟨_, _, k + 1, rfl, rfl, by go_num, by omega, by simp only [ByteArray.size_append, bsz2, List.size_toArray, List.length_cons, List.length_nil]; omega, by simp only [ByteArray.size_append, bsz2, List.size_toArray, List.length_cons, List.length_nil]; omega⟩
      case measure => simp [intOf]; omega
    · go_wp2_with fail
      refine (HM w1).out.mono ?_
      rintro e w' ⟨rfl, rfl⟩
      go_wp2_with fail
      rw [show (1073741824 : Int) + ((mm : Int) - 3) = ((1073741821 + mm : Nat) : Int) by omega]
      refine (HD w1).out.mono ?_
      rintro e w' ⟨Z, hZ, rfl, rfl⟩
      go_wp2_with fail
      refine (HS w1).out.mono ?_
      rintro e w' ⟨rfl, rfl⟩
      go_wp2_with fail
      go_loop [12, 13] (fun x v => ∃ (L : ByteArray) (i : Nat), x = .string L ∧ v = .int .i64 (i : Int) ∧ L.size + i ≤ 2010) (fun _ v => (intOf v).toNat)
      case atStart => exact ⟨⟨#[]⟩, 1990 + ss, rfl, by go_num, by show 0 + (1990 + ss) ≤ 2010; omega⟩
      case round =>
        obtain ⟨L, i, rfl, rfl, hL⟩ := hrel
        by_cases hi : 0 < i
        · go_wp2_with fail
          go_round
          case rel => exact ⟨_, i - 1, rfl, int_eq (by omega), by simp only [ByteArray.size_append, bsz2, List.size_toArray, List.length_cons, List.length_nil]; omega⟩
          case measure => simp [intOf]; omega
        · clear HN HM HS HD
          go_wp2_with fail
          with_reducible refine (agrees_any _ ?hz1 w1).mono ?_
          case hz1 => (try simp only [ByteArray.size_append, bsz2, List.size_toArray, List.length_cons, List.length_nil]); unfold maxLen; omega
          rintro e w2 ⟨rfl, hb2⟩
          have HB2 := Lib.hid (HB1.out.trans (hb2.mono HB1.out.size))
          clear hb2
          go_wp2_with fail
          with_reducible refine (agrees_any _ ?hz2 w2).mono ?_
          case hz2 => (try simp only [ByteArray.size_append, bsz2, List.size_toArray, List.length_cons, List.length_nil]); unfold maxLen; omega
          rintro e w3 ⟨rfl, hb3⟩
          have HB3 := Lib.hid (HB2.out.trans (hb3.mono HB2.out.size))
          clear hb3
          go_wp2_with fail
          with_reducible refine (agrees_any _ ?hz3 w3).mono ?_
          case hz3 => (try simp only [ByteArray.size_append, bsz2, List.size_toArray, List.length_cons, List.length_nil]); unfold maxLen; omega
          rintro e w4 ⟨rfl, hb4⟩
          have HB4 := Lib.hid (HB3.out.trans (hb4.mono HB3.out.size))
          clear hb4
          go_wp2_with fail
          with_reducible refine (agrees_any _ ?hz4 w4).mono ?_
          case hz4 => simp only [ByteArray.size_append]; unfold maxLen; omega
          rintro e w5 ⟨rfl, hb5⟩
          have HB5 := Lib.hid (HB4.out.trans (hb5.mono HB4.out.size))
          clear hb5
          go_wp2_with fail
          with_reducible refine (agrees_any _ ?hz5 w5).mono ?_
          case hz5 => (try simp only [ByteArray.size_append, bsz2, List.size_toArray, List.length_cons, List.length_nil]); unfold maxLen; omega
          rintro e w6 ⟨rfl, hb6⟩
          have HB6 := Lib.hid (HB5.out.trans (hb6.mono HB5.out.size))
          clear hb6
          go_wp2_with fail
          refine (lives_any w6).mono ?_
          rintro e w7 ⟨rfl, hb7⟩
          have HB7 := Lib.hid (HB6.out.trans (hb7.mono HB6.out.size))
          clear hb7
          go_wp2_with fail
          go_ret
          exact ⟨rfl, HB7.out⟩

theorem i64_bounds {n : Int} (h : (Lit.int .i64 n).wf = true) : -9223372036854775808 ≤ n ∧ n ≤ 9223372036854775807 := by
  simpa [Lit.wf, IntKind.min, IntKind.max, IntKind.signed, IntKind.bits] using h

end Go.Proofs.Ytdmgacoemabcfaa
