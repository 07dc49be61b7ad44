/- The walks of lives, Short, Around, Bound. -/
import Derived.Test.YtdmgacoemabcfaaC1
namespace Go.Proofs.Ytdmgacoemabcfaa
open Go.RowKit

def exA : ByteArray := ⟨#[97, 46, 107, 116, 104, 40, 51, 44, 32, 50, 41, 64, 48, 53]⟩
def exB : ByteArray := ⟨#[97, 33, 98]⟩
theorem exA_len : (Lx.toks exA.data.toList).length = 10 := by decide +kernel
theorem exA_at : (Lx.toks exA.data.toList)[9]? = some ⟨1, [48, 53], 5, 12, 14⟩ := by decide +kernel
theorem exA_err : Lx.tokErr exA.data.toList = 0 := by decide +kernel
theorem exB_err : Lx.tokErr exB.data.toList = 2 ∧ Lx.tokAt exB.data.toList = 1 := by decide +kernel

theorem tokA (w : World) : Calls Try.prog 19 #[.string ⟨#[97, 46, 107, 116, 104, 40, 51, 44, 32, 50, 41, 64, 48, 53]⟩] w fun e w' =>
    ∃ g c i, e = .returned (.tuple #[.slice (some ⟨g, 0, none⟩) 10 c, .int .i64 i, .int .i64 0]) ∧ (g < w'.heap.size ∧ w'.cell? ⟨g, 37, none⟩ = some (.string ⟨#[48, 53]⟩) ∧ w'.cell? ⟨g, 38, none⟩ = some (.int .i64 5) ∧ w'.cell? ⟨g, 39, none⟩ = some (.int .i64 12)) ∧ Below w.heap.size w w' := by
  refine (tokens_any exA (by unfold maxLen; decide) w).mono ?_
  rintro e w' ⟨v, rfl, hr, hb⟩
  rw [exA_err]
  have hlt : 9 < (Lx.toks exA.data.toList).length := by rw [exA_len]; omega
  have hget : (Lx.toks exA.data.toList)[9] = ⟨1, [48, 53], 5, 12, 14⟩ := by
    have := exA_at
    rw [List.getElem?_eq_getElem hlt] at this
    exact Option.some.inj this
  rcases hr.2 with ⟨_, h0⟩ | ⟨g, cap, cur, rfl, _, hgb, _⟩
  · rw [exA_len] at h0; omega
  · have hc := row_cells hr 9 hlt
    rw [hget] at hc
    refine ⟨g, cap, _, by rw [exA_len]; rfl, ⟨(Array.getElem?_eq_some_iff.1 hgb).1, hc.2.1, hc.2.2.1, hc.2.2.2⟩, hb⟩

theorem tokB (w : World) : Calls Try.prog 19 #[.string ⟨#[97, 33, 98]⟩] w fun e w' =>
    ∃ a n c, e = .returned (.tuple #[.slice a n c, .int .i64 1, .int .i64 2]) ∧ Below w.heap.size w w' := by
  refine (tokens_any exB (by unfold maxLen; decide) w).mono ?_
  rintro e w' ⟨v, rfl, hr, hb⟩
  rw [exB_err.1, exB_err.2]
  rcases hr.2 with ⟨rfl, _⟩ | ⟨g, cap, cur, rfl, _⟩
  · exact ⟨_, _, _, rfl, hb⟩
  · exact ⟨_, _, _, rfl, hb⟩

set_option maxRecDepth 100000 in
set_option maxHeartbeats 1000000 in
theorem lives_any (w : World) : Calls Try.prog 13 #[] w (Agreed w) := by
  go_enter Try.func13, Try.ntmps13
  go_wp2_with fail
  refine (tokA w).mono ?_
  rintro e1 w1 ⟨g, c, i, rfl, ⟨hg, k1, k2, k3⟩, hb1⟩
  have HB1 := Lib.hid hb1
  clear hb1
  go_wp2_with fail
  refine (tokB w1).mono ?_
  rintro e2 w2 ⟨a2, n2, c2, rfl, hb2⟩
  have l1 := (hb2.cell (p := ⟨g, 37, none⟩) hg).trans k1
  have l2 := (hb2.cell (p := ⟨g, 38, none⟩) hg).trans k2
  have l3 := (hb2.cell (p := ⟨g, 39, none⟩) hg).trans k3
  have HB2 := Lib.hid hb2
  clear hb2 k1 k2 k3
  go_wp2_with fail
  go_ret
  exact ⟨rfl, HB1.out.trans (HB2.out.mono HB1.out.size)⟩

theorem short_any (s : ByteArray) (_hs : s.size ≤ maxLen) (m : Nat) (hm : m ≤ 10000) (w : World) :
    Calls Try.prog 14 #[.string s, .int .i64 m] w fun e w' => e = .returned (.string (s.extract 0 (min m s.size))) ∧ w = w' := by
  unfold maxLen at _hs
  have hfull : s.extract 0 s.size = s := by simp
  by_cases h : m < s.size
  · have H : Hid (min m s.size = m) := Lib.hid (by omega)
    go_enter Try.func14, Try.ntmps14
    go_wp2
    go_ret
    exact ⟨by rw [H.out]; rfl, rfl⟩
  · have H : Hid (s.extract 0 (min m s.size) = s) := Lib.hid (by rw [show min m s.size = s.size by omega, hfull])
    clear hfull
    go_enter Try.func14, Try.ntmps14
    go_wp2
    go_ret
    exact ⟨by rw [H.out]; rfl, rfl⟩

/-- Around: n modulo most, never negative -/
def around (n m : Int) : Int := (if n < 0 then -(n + 1) else n) % m
theorem around_ge (n m : Int) (hm : 0 < m) : 0 ≤ around n m := Int.emod_nonneg _ (by omega)
theorem around_lt (n m : Int) (hm : 0 < m) : around n m < m := Int.emod_lt_of_pos _ hm

theorem around_any (n m : Int) (h1 : -9223372036854775808 ≤ n) (h2 : n ≤ 9223372036854775807) (hm : 0 < m) (hm2 : m ≤ 9223372036854775807) (w : World) :
    Calls Try.prog 15 #[.int .i64 n, .int .i64 m] w fun e w' => e = .returned (.int .i64 (around n m)) ∧ w = w' := by
  have H : Hid (around n m = (if n < 0 then -(n + 1) else n) % m) := Lib.hid rfl
  by_cases h : n < 0
  · have hne : (m == 0) = false := by simp; omega
    go_enter Try.func15, Try.ntmps15
    go_wp2
    go_ret
    exact ⟨ret_int (by rw [H.out, if_pos (by omega), ← Int.neg_tmod, Int.tmod_eq_emod_of_nonneg (by omega)]), rfl⟩
  · have hne : (m == 0) = false := by simp; omega
    go_enter Try.func15, Try.ntmps15
    go_wp2
    go_ret
    exact ⟨ret_int (by rw [H.out, if_neg (by omega)]), rfl⟩

end Go.Proofs.Ytdmgacoemabcfaa
