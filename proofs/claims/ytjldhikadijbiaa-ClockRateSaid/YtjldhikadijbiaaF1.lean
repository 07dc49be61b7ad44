/- The walks of Around, Bound, Pick, floor and Readings. -/
import Derived.Test.YtjldhikadijbiaaD3
namespace Go.Proofs.Ytjldhikadijbiaa
open Go.RowKit

theorem around_any (n m : Int) (hn : i64 n) (hm : 0 < m) (hm2 : m ≤ 9223372036854775807) (w : World) :
    Calls Try.prog 13 #[.int .i64 n, .int .i64 m] w fun e w' => e = .returned (.int .i64 (Ck.around n m)) ∧ w' = w := by
  unfold i64 at hn
  have H : Hid (Ck.around n m = (if n < 0 then -(n + 1) else n) % m) := Lib.hid rfl
  by_cases h : n < 0
  · have hne : (m == 0) = false := by simp; omega
    go_enter Try.func13, Try.ntmps13
    go_wp2
    go_ret
    exact ⟨ret_int (by rw [H.out, if_pos (by omega), ← Int.neg_tmod, Int.tmod_eq_emod_of_nonneg (by omega)]), rfl⟩
  · have hne : (m == 0) = false := by simp; omega
    go_enter Try.func13, Try.ntmps13
    go_wp2
    go_ret
    exact ⟨ret_int (by rw [H.out, if_neg (by omega)]), rfl⟩

theorem bound_any (n m : Int) (hn : i64 n) (hm : 0 ≤ m) (hm2 : m ≤ 1000000) (w : World) :
    Calls Try.prog 32 #[.int .i64 n, .int .i64 m] w fun e w' => e = .returned (.int .i64 (Ck.bound n m)) ∧ w' = w := by
  have H : Hid (Ck.bound n m = Ck.around n (2 * m + 1) - m) := Lib.hid rfl
  have HA := fun W => Lib.hid (around_any n (2 * m + 1) hn (by omega) (by omega) W)
  have a0 := Ck.around_ge n (2 * m + 1) (by omega)
  have a1 := Ck.around_lt n (2 * m + 1) (by omega)
  generalize Ck.around n (2 * m + 1) = ar at *
  generalize Ck.bound n m = bd at *
  go_enter Try.func32, Try.ntmps32
  go_wp2_with (go_at_call 13; refine (HA _).out.mono ?_; rintro e w' ⟨rfl, rfl⟩)
  go_ret
  exact ⟨ret_int H.out.symm, rfl⟩

def pick (l : List Int) (i : Nat) (m : Int) : Int := if i < l.length then Ck.around (l.getD i 0) m else 0
theorem pick_in (l : List Int) (i : Nat) (m : Int) (hm : 0 < m) : 0 ≤ pick l i m ∧ pick l i m < m := by
  unfold pick
  split
  · exact ⟨Ck.around_ge _ _ hm, Ck.around_lt _ _ hm⟩
  · omega

set_option maxHeartbeats 400000 in
theorem pick_any (A : Option Addr) (cap : Nat) (l : List Int) (hl : l.length ≤ 9223372036854775807) (k : Nat) (hk : k ≤ 10) (m : Int) (hm : 0 < m) (hm2 : m ≤ 10000) (w : World) (hx : Ints w w.heap.size A l) :
    Calls Try.prog 33 #[.slice A l.length cap, .int .i64 (k : Int), .int .i64 m] w fun e w' => e = .returned (.int .i64 (pick l k m)) ∧ w' = w := by
  have hk0 : decide ((k : Int) < 0) = false := by simp
  by_cases h : k < l.length
  · have H : Hid (pick l k m = Ck.around l[k] m) := Lib.hid (by unfold pick; rw [if_pos h, List.getD_eq_getElem?_getD, List.getElem?_eq_getElem h, Option.getD_some])
    obtain ⟨b, off, rfl, hb, hc⟩ := hx.2 (by omega)
    have c0 := hc k h
    have HA := fun W => Lib.hid (around_any l[k] m (hx.1 _ (List.getElem_mem h)) hm (by omega) W)
    have hg : decide ((l.length : Int) ≤ k) = false := by simp; omega
    generalize pick l k m = res at *
    generalize l[k] = z at *
    clear hc hx
    go_enter Try.func33, Try.ntmps33
    go_wp2_with (go_at_call 13; refine (HA _).out.mono ?_; rintro e w' ⟨rfl, rfl⟩)
    go_ret
    exact ⟨ret_int H.out.symm, rfl⟩
  · have H : Hid (pick l k m = 0) := Lib.hid (by unfold pick; rw [if_neg h])
    generalize pick l k m = res at *
    clear hx
    have hg : decide ((l.length : Int) ≤ k) = true := by simp; omega
    go_enter Try.func33, Try.ntmps33
    go_wp2_with fail
    go_ret
    exact ⟨ret_int H.out.symm, rfl⟩

theorem floor_any (n : Int) (h1 : -1000000 ≤ n) (h2 : n ≤ 1000000) (w : World) :
    Calls Try.prog 56 #[.int .i64 n] w fun e w' => e = .returned (.int .i64 (n / 1024)) ∧ w' = w := by
  by_cases h : n < 0
  · go_enter Try.func56, Try.ntmps56
    go_wp2
    go_ret
    exact ⟨ret_int (by omega), rfl⟩
  · go_enter Try.func56, Try.ntmps56
    go_wp2
    go_ret
    exact ⟨ret_int (by omega), rfl⟩

theorem intCells_snoc (l : List Int) (z : Int) : intCells l ++ [.int .i64 z] = intCells (l ++ [z]) := by simp [intCells]

theorem cell_one_new (w : World) (t : TypeId) (u : Value) : ∀ j x, [u][j]? = some x → (w.alloc (.cells #[u] t)).cell? ((⟨w.heap.size, 0, none⟩ : Addr).add j) = some x := by
  intro j x h
  have hb := Blk.new w t #[u]
  rw [add_none, hb.cell, Nat.zero_add]
  cases j with
  | zero => simpa using h
  | succ j => simp at h

/-- readings of a clock in new memory -/
def Made (d base : Int) (w : World) (e : Ending) (w' : World) : Prop :=
  ∃ A c rs a, e = .returned (.slice A rs.length c) ∧ rs.length = 40 ∧ Ck.Runs d base rs a ∧ Ints w' w'.heap.size A rs ∧ Below w.heap.size w w'

set_option maxRecDepth 100000 in
set_option maxHeartbeats 4000000 in
theorem readings_any (d base : Int) (d0 : 0 ≤ d) (d1 : d ≤ 512) (b0 : -1000 ≤ base) (b1 : base ≤ 1000) (A : Option Addr) (cap : Nat) (l : List Int) (hl : l.length ≤ 9223372036854775807) (w : World) (hx : Ints w w.heap.size A l) :
    Calls Try.prog 34 #[.int .i64 d, .int .i64 base, .slice A l.length cap, .int .i64 40] w (Made d base w) := by
  obtain ⟨i0, hi, hz0, hz1, hz2⟩ := info_parts info3
  have HX := Lib.hid hx
  clear hx
  go_enter Try.func34, Try.ntmps34
  go_wp2_with fail
  go_loopw [9, 10, 11] (fun v9 v10 v11 wr => ∃ (rs : List Int) (a : Int) (k : Nat), v10 = .int .i64 a ∧ v11 = .int .i64 (k : Int) ∧ Hid (rs.length = k) ∧ k ≤ 40 ∧ -20480 ≤ a ∧ a ≤ 20480 ∧ Hid (wr.ownsRow w.heap.size 3 1 v9 k (intCells rs)) ∧ Hid (Below w.heap.size w wr) ∧ Hid (Ck.Runs d base rs a ∧ ∀ z ∈ rs, i64 z)) (fun _ _ v _ => 40 - (intOf v).toNat)
  case atStart => exact ⟨[], 0, 0, rfl, rfl, Lib.hid rfl, by omega, by omega, by omega, Lib.hid ⟨rfl, .inl ⟨rfl, rfl⟩⟩, Lib.hid (Below.refl _ _), Lib.hid ⟨Ck.Runs.nil d base, by simp⟩⟩
  case round =>
    obtain ⟨rs, a, k, rfl, rfl, HK, hk, a0, a1, HO, HBW, HRN⟩ := hrel
    by_cases hlt : k < 40
    · have hszw := HBW.out.size
      have HFl := fun W => Lib.hid (floor_any a (by omega) (by omega) W)
      by_cases h0 : 0 < l.length
      · obtain ⟨b, off, rfl, hbl, hcell⟩ := HX.out.2 h0
        have hmod : k / 4 % l.length < l.length := Nat.mod_lt _ h0
        have HC0 := Lib.hid (hcell (k / 4 % l.length) hmod)
        have hz := HX.out.1 _ (List.getElem_mem hmod)
        generalize l[k / 4 % l.length] = z at *
        have HBd := fun W => Lib.hid (bound_any z d hz d0 (by omega) W)
        obtain ⟨t1, t2⟩ := Ck.bound_in z d d0
        generalize Ck.bound z d = bd at *
        have HN : Hid (Ck.Runs d base (rs ++ [base + (k : Int) + a / 1024]) (a + bd) ∧ (∀ z ∈ rs ++ [base + (k : Int) + a / 1024], i64 z) ∧ (rs ++ [base + (k : Int) + a / 1024]).length = k + 1) := Lib.hid ⟨by have := HRN.out.1.snoc t1 t2; rw [HK.out] at this; exact this, fun y hy => by
          rcases List.mem_append.1 hy with h | h
          · exact HRN.out.2 y h
          · simp at h; unfold i64; omega, by simp [HK.out]⟩
        have HBn := Lib.hid (HN.out.1.bound d0 d1 (by rw [HN.out.2.2]; omega))
        clear hcell hz
        have hmodI : (k : Int) / 4 % l.length < l.length := Int.emod_lt_of_pos _ (by omega)
        have hmod0 : 0 ≤ (k : Int) / 4 % l.length := Int.emod_nonneg _ (by omega)
        have hne : ((l.length : Int) == 0) = false := by rw [beq_eq_false_iff_ne]; omega
        go_wp2_with (first
          | (go_at_call 56; refine (HFl _).out.mono ?_; rintro e w' ⟨rfl, hw⟩; obtain rfl := hw.symm; clear hw)
          | (go_at_call 32; refine (HBd _).out.mono ?_; rintro e w' ⟨rfl, hw⟩; obtain rfl := hw.symm; clear hw)
          | (at_builtin; refine wpList_append_own _ rfl _ _ 22 rfl w.heap.size 3 i0 _ 1 8 Try.underlying22 hi hz0 hz1 hz2 rfl (by decide) _ _ _ rfl (HO.out.alloc _) ⟨wr.heap.size, 0, none⟩ 1 1 [.int .i64 (base + (k : Int) + a / 1024)] rfl rfl (cell_one_new _ _ _) (by simp [Value.oneCell']) (by unfold maxLen; omega) (by omega) (by simp; omega) ?_; intro v' w1 hown' hgrow hnl; clear hnl; have HO' := Lib.hid hown'; have HG := Lib.hid ((HBW.out.alloc HBW.out.size _).grown hgrow (by simp; omega) (fun g hg => (HO.out.lt g hg).1)); have c0 := (HG.out.cell (p := ⟨b, off + k / 4 % l.length, none⟩) hbl).trans HC0.out; clear hown' hgrow))
        go_roundw
        case rel => exact ⟨rs ++ [base + (k : Int) + a / 1024], a + bd, k + 1, rfl, by go_num, Lib.hid HN.out.2.2, by omega, HBn.out.1, HBn.out.2, Lib.hid (by rw [← intCells_snoc]; exact HO'.out), HG, Lib.hid ⟨HN.out.1, HN.out.2.1⟩⟩
        case measure => simp [intOf]; omega
      · have HN : Hid (Ck.Runs d base (rs ++ [base + (k : Int) + a / 1024]) a ∧ (∀ z ∈ rs ++ [base + (k : Int) + a / 1024], i64 z) ∧ (rs ++ [base + (k : Int) + a / 1024]).length = k + 1) := Lib.hid ⟨by have := HRN.out.1.snoc (b := 0) (by omega) (by omega); rw [HK.out, Int.add_zero] at this; exact this, fun y hy => by
          rcases List.mem_append.1 hy with h | h
          · exact HRN.out.2 y h
          · simp at h; unfold i64; omega, by simp [HK.out]⟩
        go_wp2_with (first
          | (go_at_call 56; refine (HFl _).out.mono ?_; rintro e w' ⟨rfl, hw⟩; obtain rfl := hw.symm; clear hw)
          | (at_builtin; refine wpList_append_own _ rfl _ _ 22 rfl w.heap.size 3 i0 _ 1 8 Try.underlying22 hi hz0 hz1 hz2 rfl (by decide) _ _ _ rfl (HO.out.alloc _) ⟨wr.heap.size, 0, none⟩ 1 1 [.int .i64 (base + (k : Int) + a / 1024)] rfl rfl (cell_one_new _ _ _) (by simp [Value.oneCell']) (by unfold maxLen; omega) (by omega) (by simp; omega) ?_; intro v' w1 hown' hgrow hnl; clear hnl; have HO' := Lib.hid hown'; have HG := Lib.hid ((HBW.out.alloc HBW.out.size _).grown hgrow (by simp; omega) (fun g hg => (HO.out.lt g hg).1)); clear hown' hgrow))
        go_roundw
        case rel => exact ⟨rs ++ [base + (k : Int) + a / 1024], a, k + 1, rfl, by go_num, Lib.hid HN.out.2.2, by omega, a0, a1, Lib.hid (by rw [← intCells_snoc]; exact HO'.out), HG, Lib.hid ⟨HN.out.1, HN.out.2.1⟩⟩
        case measure => simp [intOf]; omega
    · obtain rfl : k = 40 := by omega
      have hex : ∃ A c, u9 = .slice A 40 c := by
        rcases HO.out.2 with ⟨_, h⟩ | ⟨g, cp, cur, hv, _⟩
        · omega
        · exact ⟨_, _, hv⟩
      obtain ⟨A', c', rfl⟩ := hex
      go_wp2_with fail
      go_ret
      exact ⟨A', c', rs, a, by rw [HK.out]; rfl, HK.out, HRN.out.1, Ints.of_own HO.out HK.out HRN.out.2, HBW.out⟩

end Go.Proofs.Ytjldhikadijbiaa
