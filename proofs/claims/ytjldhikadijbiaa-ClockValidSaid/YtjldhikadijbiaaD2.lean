/- The walk of ClockValid. -/
import Derived.Test.YtjldhikadijbiaaD1
namespace Go.Proofs.Ytjldhikadijbiaa
open Go.RowKit

/-- what ClockValid does behind its copy, from the calls on -/
structure Kept (w w1 : World) (A : Option Addr) (x : List Ck.Ex) : Prop where
  ex : Exs w1 w1.heap.size A x
  bel : Below w.heap.size w w1
theorem Kept.later {w w1 w2 : World} {A : Option Addr} {x : List Ck.Ex} (h : Kept w w1 A x) (hb : Below w1.heap.size w1 w2) : Kept w w2 A x :=
  ⟨h.ex.later hb, h.bel.trans (hb.mono h.bel.size)⟩
theorem ints_nil (w : World) (B : Nat) (A : Option Addr) : Ints w B A [] := ⟨by simp, fun h => by simp at h⟩

set_option maxRecDepth 100000 in
set_option maxHeartbeats 2000000 in
theorem valid_law (d : Int) (A : Option Addr) (cap : Nat) (l : List Ck.Ex) (w : World) (hx : InEx w A cap l) :
    Calls Try.prog 4 #[.int .i64 d, .slice A l.length cap] w (Told true w) := by
  obtain ⟨i0, hi, hz0, hz1, hz2⟩ := info_parts info51
  obtain ⟨hX, hs⟩ := hx
  obtain ⟨m, hm⟩ : ∃ m : Nat, m = (l.take 18).length := ⟨_, rfl⟩
  have hml : m = min 18 l.length := by rw [hm, List.length_take]
  have hT := hX.take 18
  have HN : Hid (∀ ad, A = some ad → ∀ j u, (exCells (l.take 18))[j]? = some u → w.cell? (ad.add j) = some u) := Lib.hid (by rintro ad rfl; exact hT.news)
  have HX0 := Lib.hid hT
  have HI := Lib.hid hT.1
  have HLen : Hid ((exCells (l.take 18)).length = m * 3) := Lib.hid (by rw [exCells_length, hm])
  have HOne := Lib.hid (exCells_one (l.take 18))
  have HM := Lib.hid hm
  clear hm
  clear hT hX
  generalize l.take 18 = x at *
  have hx18 : m ≤ 18 := by omega
  have HAG : Hid (Ck.valid d x = false → Ck.ticks d x 0 = (0, 0, 1) ∧ Ck.offset d x 0 = (0, 0, 1) ∧ Ck.agrees d x 0 [] = false) := Lib.hid (fun h => ⟨by unfold Ck.ticks; rw [if_pos h], by unfold Ck.offset; rw [if_pos (Or.inl h)], by unfold Ck.agrees; rw [h]; rfl⟩)
  go_enter Try.func4, Try.ntmps4
  go_upto_region 2 with fail
  go_cut [5] (fun v5 w1 => ∃ A1 c1, v5 = .slice A1 m c1 ∧ Kept w w1 A1 x)
  case first =>
    rcases hs with ⟨rfl, h0, rfl⟩ | ⟨ad, rfl, hc, hmx⟩
    · have hl : l = [] := List.length_eq_zero_iff.1 h0
      obtain rfl : m = 0 := by omega
      subst hl
      clear h0 hml
      go_wp2_with (at_builtin; refine wpList_append_own_none _ rfl _ _ 23 rfl w.heap.size 51 i0 3 Try.underlying23 hi (.slice none 0 0) 0 [] rfl ⟨rfl, .inl ⟨rfl, rfl⟩⟩ rfl ?_)
      go_meet
      exact ⟨none, 0, rfl, HX0.out, Below.refl _ _⟩
    · unfold maxLen at hmx
      have HN' := Lib.hid (HN.out ad rfl)
      by_cases h18 : 18 < l.length
      · obtain rfl : m = 18 := by omega
        clear hml
        go_wp2_with (at_builtin; refine wpList_append_own _ rfl _ _ 23 rfl w.heap.size 51 i0 _ 3 24 Try.underlying23 hi hz0 hz1 hz2 rfl (by decide) (.slice none 0 0) 0 [] rfl ⟨rfl, .inl ⟨rfl, rfl⟩⟩ ad 18 cap (exCells x) rfl HLen.out HN'.out HOne.out (by unfold maxLen; omega) (by omega) (Nat.le_refl _) ?_; intro v' w1 hown' hgrow _; have HO := Lib.hid hown'; have HG := Lib.hid hgrow; clear hown' hgrow)
        go_meet
        have hb : Below w.heap.size w w1 := (Below.refl _ w).grown HG.out (Nat.le_refl _) (by simp [Value.ownBlock])
        have ho := HO.out
        simp only [Nat.zero_add, List.nil_append] at ho
        rcases ho.2 with ⟨_, h⟩ | ⟨g, cp, cur, hv, _⟩
        · omega
        · subst hv
          exact ⟨_, cp, rfl, Exs.of_own ho HM.out.symm HI.out, hb⟩
      · obtain rfl : m = l.length := by omega
        clear hml
        go_wp2_with (at_builtin; refine wpList_append_own _ rfl _ _ 23 rfl w.heap.size 51 i0 _ 3 24 Try.underlying23 hi hz0 hz1 hz2 rfl (by decide) (.slice none 0 0) 0 [] rfl ⟨rfl, .inl ⟨rfl, rfl⟩⟩ ad l.length cap (exCells x) rfl HLen.out HN'.out HOne.out (by unfold maxLen; omega) (by omega) (Nat.le_refl _) ?_; intro v' w1 hown' hgrow _; have HO := Lib.hid hown'; have HG := Lib.hid hgrow; clear hown' hgrow)
        go_meet
        have hb : Below w.heap.size w w1 := (Below.refl _ w).grown HG.out (Nat.le_refl _) (by simp [Value.ownBlock])
        have ho := HO.out
        simp only [Nat.zero_add, List.nil_append] at ho
        have hex : ∃ A c, v' = .slice A l.length c := by
          rcases ho.2 with ⟨rfl, h⟩ | ⟨g, cp, cur, hv, _⟩
          · exact ⟨none, 0, by rw [h]⟩
          · exact ⟨_, _, hv⟩
        obtain ⟨A', c', rfl⟩ := hex
        exact ⟨_, c', rfl, Exs.of_own ho HM.out.symm HI.out, hb⟩
  case rest =>
    obtain ⟨A1, c1, rfl, hK⟩ := hcut
    have HM' := HM.out
    clear HN HX0 HI HLen HOne HM hz0 hz1 hz2 hi hml hs
    obtain rfl := HM'
    have HK := Lib.hid hK
    have HV := Lib.hid (valid_any d A1 c1 x (by omega) wc hK.ex)
    have HVR := Lib.hid fun (W : World) (h : Kept w W A1 x) => rvalid_any d A1 c1 x (by omega) W h.ex
    have HT := Lib.hid fun (W : World) (h : Kept w W A1 x) => ticks_any d A1 c1 x (by omega) 0 W h.ex
    have HO := Lib.hid fun (W : World) (h : Kept w W A1 x) => offset_any d A1 c1 x (by omega) 0 W h.ex
    have HA := Lib.hid fun (W : World) (h : Kept w W A1 x) => agrees_any d A1 c1 x (by omega) 0 none 0 [] (by decide) W h.ex (ints_nil _ _ _)
    clear hK
    cases hv : Ck.valid d x
    · obtain ⟨t1, t2, t3⟩ := HAG.out hv
      rw [hv] at HV HVR
      rw [t1] at HT
      rw [t2] at HO
      rw [t3] at HA
      clear hv t1 t2 t3
      go_wp2_with fail
      refine HV.out.mono ?_
      rintro e w2 ⟨rfl, hb2⟩
      have HK2 := Lib.hid (HK.out.later hb2)
      have HX := Lib.hid (HVR.out w2 HK2.out)
      clear hb2 HV HVR HK
      go_wp2_with fail
      refine HX.out.mono ?_
      rintro e w3 ⟨rfl, hb3⟩
      have HK3 := Lib.hid (HK2.out.later hb3)
      have HX := Lib.hid (HT.out w3 HK3.out)
      clear hb3 HT HK2
      go_wp2_with fail
      refine HX.out.mono ?_
      rintro e w4 ⟨rfl, hb4⟩
      have HK4 := Lib.hid (HK3.out.later hb4)
      have HX := Lib.hid (HO.out w4 HK4.out)
      clear hb4 HO HK3
      go_wp2_with fail
      refine HX.out.mono ?_
      rintro e w5 ⟨rfl, hb5⟩
      have HK5 := Lib.hid (HK4.out.later hb5)
      have HX := Lib.hid (HA.out w5 HK5.out)
      clear hb5 HA HK4
      go_wp2_with fail
      refine HX.out.mono ?_
      rintro e w6 ⟨rfl, hb6⟩
      have HK6 := Lib.hid (HK5.out.later hb6)
      clear hb6 HK5 HX
      go_wp2_with fail
      refine (lives_any w6).mono ?_
      rintro e w7 ⟨rfl, hb7⟩
      have HK7 := Lib.hid (HK6.out.later hb7)
      clear hb7 HK6
      go_wp2_with fail
      go_ret
      exact ⟨rfl, HK7.out.bel⟩
    · rw [hv] at HV HVR
      generalize Ck.ticks d x 0 = tk at *
      generalize Ck.offset d x 0 = ok at *
      obtain ⟨p, q, s⟩ := tk
      obtain ⟨p', q', s'⟩ := ok
      clear hv HA HAG
      go_wp2_with fail
      refine HV.out.mono ?_
      rintro e w2 ⟨rfl, hb2⟩
      have HK2 := Lib.hid (HK.out.later hb2)
      have HX := Lib.hid (HVR.out w2 HK2.out)
      clear hb2 HV HVR HK
      go_wp2_with fail
      refine HX.out.mono ?_
      rintro e w3 ⟨rfl, hb3⟩
      have HK3 := Lib.hid (HK2.out.later hb3)
      have HX := Lib.hid (HT.out w3 HK3.out)
      clear hb3 HT HK2
      go_wp2_with fail
      refine HX.out.mono ?_
      rintro e w4 ⟨rfl, hb4⟩
      have HK4 := Lib.hid (HK3.out.later hb4)
      have HX := Lib.hid (HO.out w4 HK4.out)
      clear hb4 HO HK3
      go_wp2_with fail
      refine HX.out.mono ?_
      rintro e w5 ⟨rfl, hb5⟩
      have HK5 := Lib.hid (HK4.out.later hb5)
      clear hb5 HK4 HX
      go_wp2_with fail
      refine (lives_any w5).mono ?_
      rintro e w6 ⟨rfl, hb6⟩
      have HK6 := Lib.hid (HK5.out.later hb6)
      clear hb6 HK5
      go_wp2_with fail
      go_ret
      exact ⟨rfl, HK6.out.bel⟩

end Go.Proofs.Ytjldhikadijbiaa
