/- The walk of LexerNames. -/
import Derived.Test.YtdmgacoemabcfaaN1
import Derived.Deep.DeepCutAuto
import Derived.Deep.CutBlock
namespace Go.Proofs.Ytdmgacoemabcfaa
open Go.RowKit

theorem bsz3 (a : Array UInt8) : (ByteArray.mk a).size = a.size := rfl
theorem own_slice {w : World} {base n : Nat} {e : TypeId} {size : Nat} {v : Value} {xs : List Value} (h : w.ownsRow base e size v n xs) : ∃ A c, v = .slice A n c ∧ (0 < n → ∃ g, A = some ⟨g, 0, none⟩ ∧ g < w.heap.size) := by
  rcases h.2 with ⟨rfl, rfl⟩ | ⟨g, cp, cur, hv, _, hb, _⟩
  · exact ⟨none, 0, rfl, fun h => by omega⟩
  · exact ⟨_, _, hv, fun _ => ⟨g, rfl, (Array.getElem?_eq_some_iff.1 hb).1⟩⟩

/-- a row of tokens in memory, below B -/
def TokRow (w : World) (A : Option Addr) (ts : List Lx.Tk) : Prop :=
  0 < ts.length → ∃ g, A = some ⟨g, 0, none⟩ ∧ g < w.heap.size ∧ ∀ k (hk : k < ts.length), w.cell? ⟨g, k * 4, none⟩ = some (.int .i64 (ts[k].kind : Int)) ∧ w.cell? ⟨g, k * 4 + 1, none⟩ = some (.string ⟨ts[k].text.toArray⟩) ∧ w.cell? ⟨g, k * 4 + 2, none⟩ = some (.int .i64 (ts[k].n : Int)) ∧ w.cell? ⟨g, k * 4 + 3, none⟩ = some (.int .i64 (ts[k].at_ : Int))
theorem TokRow.later {w w' : World} {A : Option Addr} {ts : List Lx.Tk} (h : TokRow w A ts) (hb : Below w.heap.size w w') : TokRow w' A ts := fun hn => by
  obtain ⟨g, rfl, hg, hc⟩ := h hn
  refine ⟨g, rfl, Nat.lt_of_lt_of_le hg hb.size, fun k hk => ?_⟩
  obtain ⟨a, b, c, d⟩ := hc k hk
  exact ⟨(hb.cell (p := ⟨g, k * 4, none⟩) hg).trans a, (hb.cell (p := ⟨g, k * 4 + 1, none⟩) hg).trans b, (hb.cell (p := ⟨g, k * 4 + 2, none⟩) hg).trans c, (hb.cell (p := ⟨g, k * 4 + 3, none⟩) hg).trans d⟩
def Lexed (l : List UInt8) (w : World) (e : Ending) (w' : World) : Prop :=
  ∃ A c, e = .returned (.tuple #[.slice A (Lx.toks l).length c, .int .i64 (Lx.tokAt l : Nat), .int .i64 (Lx.tokErr l : Nat)]) ∧ TokRow w' A (Lx.toks l) ∧ Below w.heap.size w w'
theorem lexed_any (s : ByteArray) (hs : s.size ≤ maxLen) (w : World) : Calls Try.prog 19 #[.string s] w (Lexed s.data.toList w) := by
  refine (tokens_any s hs w).mono ?_
  rintro e w' ⟨v, rfl, hr, hb⟩
  obtain ⟨A, c, rfl, hA⟩ := own_slice hr
  refine ⟨A, c, rfl, fun hn => ?_, hb⟩
  obtain ⟨g, rfl, hg⟩ := hA hn
  exact ⟨g, rfl, hg, fun k hk => row_cells hr k hk⟩

set_option maxRecDepth 100000 in
set_option maxHeartbeats 2000000 in
theorem names_walk (s : ByteArray) (hs : s.size ≤ maxLen) (w : World) : Calls Try.prog 8 #[.string s] w (Agreed w) := by
  have hf : (s.extract 0 (min 20 s.size)).size ≤ 20 := by simp; omega
  have HS := fun W => Lib.hid (short_any s hs 20 (by omega) W)
  generalize s.extract 0 (min 20 s.size) = few at *
  have hq : (⟨#[34]⟩ ++ few ++ ⟨#[34]⟩ : ByteArray).data.toList = 34 :: (few.data.toList ++ [34]) := by simp
  have HQ := Lib.hid hq
  have hqs : (⟨#[34]⟩ ++ few ++ ⟨#[34]⟩ : ByteArray).size ≤ maxLen := by simp only [ByteArray.size_append, bsz3, List.size_toArray, List.length_cons, List.length_nil]; unfold maxLen; omega
  have HW := Lib.hid (Lx.word_iff few.data.toList (by rw [list_len]; omega))
  have HV := Lib.hid (Lx.text_iff few.data.toList (by rw [list_len]; omega))
  have HLq := fun W => Lib.hid (lexed_any (⟨#[34]⟩ ++ few ++ ⟨#[34]⟩) hqs W)
  rw [hq] at HLq
  have HL := fun W => Lib.hid (lexed_any few (by unfold maxLen; omega) W)
  have HNm := fun W => Lib.hid (name_any few (by unfold maxLen; omega) W)
  have HVl := fun W => Lib.hid (value_any few (by unfold maxLen; omega) W)
  clear hq hqs
  go_enter Try.func8, Try.ntmps8
  go_wp2_with fail
  refine (HS w).out.mono ?_
  rintro e w1 ⟨rfl, rfl⟩
  go_wp2_with fail
  refine (HL _).out.mono ?_
  rintro e w1 ⟨A1, c1, rfl, hr1, hb1⟩
  have HB1 := Lib.hid hb1
  have HR1 := Lib.hid hr1
  clear hb1 hr1
  go_wp2_with fail
  refine (HLq _).out.mono ?_
  rintro e w2 ⟨A2, c2, rfl, hr2, hb2⟩
  have HB2 := Lib.hid (HB1.out.trans (hb2.mono HB1.out.size))
  have HR2 := Lib.hid hr2
  have HR1' := Lib.hid (HR1.out.later hb2)
  clear hb2 hr2 HR1 HB1
  go_upto_region 4 with fail
  go_cut [10] (fun v w' => w' = w2 ∧ ∃ b, v = .bool b ∧ Hid (b = true ↔ Lx.OneWord few.data.toList))
  case first =>
    have HOW : Hid (Lx.OneWord few.data.toList ↔ Lx.tokErr few.data.toList = 0 ∧ ∃ t, Lx.toks few.data.toList = [t] ∧ t.kind = 0 ∧ t.text = few.data.toList) := Lib.hid Iff.rfl
    generalize Lx.OneWord few.data.toList = OW at *
    generalize Lx.tokErr few.data.toList = te at *
    generalize Lx.tokAt few.data.toList = ta at *
    generalize Lx.toks few.data.toList = ts at *
    by_cases h1 : te = 0
    · subst h1
      by_cases h2 : ts.length = 1
      · obtain ⟨t, rfl⟩ : ∃ t, ts = [t] := by
          match ts, h2 with
          | [t], _ => exact ⟨t, rfl⟩
        obtain ⟨g, rfl, hg, hc⟩ := HR1'.out (by simp)
        obtain ⟨k1, k2, _, _⟩ := hc 0 (by simp)
        simp only [List.getElem_cons_zero, Nat.zero_mul, Nat.zero_add] at k1 k2
        clear hc h2
        by_cases h3 : t.kind = 0
        · have hk : ((t.kind : Int) == 0) = true := by rw [beq_iff_eq]; omega
          have HY : Hid ((t.text == few.toList) = true ↔ OW) := Lib.hid (by
            rw [beq_iff_eq, Go.ByteArray.toList_eq]
            constructor
            · intro h4; exact HOW.out.2 ⟨rfl, t, rfl, h3, h4⟩
            · intro h
              obtain ⟨_, t', e, _, e'⟩ := HOW.out.1 h
              injection e with e
              rw [← e] at e'
              exact e')
          clear h3
          go_wp2_with fail
          go_meet
          exact ⟨rfl, _, rfl, HY⟩
        · have hk : ((t.kind : Int) == 0) = false := by rw [beq_eq_false_iff_ne]; omega
          have HY : Hid (¬ OW) := Lib.hid (fun h => by
            obtain ⟨_, t', e, e', _⟩ := HOW.out.1 h
            injection e with e
            rw [← e] at e'
            exact h3 e')
          clear h3
          go_wp2_with fail
          go_meet
          exact ⟨rfl, false, rfl, Lib.hid (tells_no HY.out)⟩
      · have hk : ((ts.length : Int) == 1) = false := by rw [beq_eq_false_iff_ne]; omega
        have HY : Hid (¬ OW) := Lib.hid (fun h => by
          obtain ⟨_, t', e, _⟩ := HOW.out.1 h
          rw [e] at h2
          exact h2 rfl)
        clear h2
        go_wp2_with fail
        go_meet
        exact ⟨rfl, false, rfl, Lib.hid (tells_no HY.out)⟩
    · have hk : ((te : Int) == 0) = false := by rw [beq_eq_false_iff_ne]; omega
      have HY : Hid (¬ OW) := Lib.hid (fun h => h1 (HOW.out.1 h).1)
      clear h1
      go_wp2_with fail
      go_meet
      exact ⟨rfl, false, rfl, Lib.hid (tells_no HY.out)⟩
  case rest =>
    obtain ⟨hwc, b4, rfl, HB4⟩ := hcut
    subst hwc
    go_upto_region 5 with fail
    go_cut [11] (fun v w' => w' = wc ∧ ∃ b, v = .bool b ∧ Hid (b = true ↔ Lx.OneText (34 :: (few.data.toList ++ [34])) few.data.toList))
    case first =>
      have HOW : Hid (Lx.OneText (34 :: (few.data.toList ++ [34])) few.data.toList ↔ Lx.tokErr (34 :: (few.data.toList ++ [34])) = 0 ∧ ∃ t, Lx.toks (34 :: (few.data.toList ++ [34])) = [t] ∧ t.kind = 2 ∧ t.text = few.data.toList) := Lib.hid Iff.rfl
      generalize Lx.OneText (34 :: (few.data.toList ++ [34])) few.data.toList = OW at *
      generalize Lx.tokErr (34 :: (few.data.toList ++ [34])) = te at *
      generalize Lx.tokAt (34 :: (few.data.toList ++ [34])) = ta at *
      generalize Lx.toks (34 :: (few.data.toList ++ [34])) = ts at *
      by_cases h1 : te = 0
      · subst h1
        by_cases h2 : ts.length = 1
        · obtain ⟨t, rfl⟩ : ∃ t, ts = [t] := by
            match ts, h2 with
            | [t], _ => exact ⟨t, rfl⟩
          obtain ⟨g, rfl, hg, hc⟩ := HR2.out (by simp)
          obtain ⟨k1, k2, _, _⟩ := hc 0 (by simp)
          simp only [List.getElem_cons_zero, Nat.zero_mul, Nat.zero_add] at k1 k2
          clear hc h2
          by_cases h3 : t.kind = 2
          · have hk : ((t.kind : Int) == 2) = true := by rw [beq_iff_eq]; omega
            have HY : Hid ((t.text == few.toList) = true ↔ OW) := Lib.hid (by
              rw [beq_iff_eq, Go.ByteArray.toList_eq]
              constructor
              · intro h4; exact HOW.out.2 ⟨rfl, t, rfl, h3, h4⟩
              · intro h
                obtain ⟨_, t', e, _, e'⟩ := HOW.out.1 h
                injection e with e
                rw [← e] at e'
                exact e')
            clear h3
            go_wp2_with fail
            go_meet
            exact ⟨rfl, _, rfl, HY⟩
          · have hk : ((t.kind : Int) == 2) = false := by rw [beq_eq_false_iff_ne]; omega
            have HY : Hid (¬ OW) := Lib.hid (fun h => by
              obtain ⟨_, t', e, e', _⟩ := HOW.out.1 h
              injection e with e
              rw [← e] at e'
              exact h3 e')
            clear h3
            go_wp2_with fail
            go_meet
            exact ⟨rfl, false, rfl, Lib.hid (tells_no HY.out)⟩
        · have hk : ((ts.length : Int) == 1) = false := by rw [beq_eq_false_iff_ne]; omega
          have HY : Hid (¬ OW) := Lib.hid (fun h => by
            obtain ⟨_, t', e, _⟩ := HOW.out.1 h
            rw [e] at h2
            exact h2 rfl)
          clear h2
          go_wp2_with fail
          go_meet
          exact ⟨rfl, false, rfl, Lib.hid (tells_no HY.out)⟩
      · have hk : ((te : Int) == 0) = false := by rw [beq_eq_false_iff_ne]; omega
        have HY : Hid (¬ OW) := Lib.hid (fun h => h1 (HOW.out.1 h).1)
        clear h1
        go_wp2_with fail
        go_meet
        exact ⟨rfl, false, rfl, Lib.hid (tells_no HY.out)⟩
    case rest =>
      obtain ⟨hwc, b5, rfl, HB5⟩ := hcut
      subst hwc
      go_wp2_with fail
      refine (HNm _).out.mono ?_
      rintro e w4 ⟨x4, rfl, hx4, hb4⟩
      obtain rfl : x4 = b4 := by
        have := (HB4.out.trans HW.out).trans hx4.symm
        cases x4 <;> cases b4 <;> simp_all
      have HC4 := Lib.hid (HB2.out.trans (hb4.mono HB2.out.size))
      clear hb4 hx4
      cases x4
      all_goals
        go_wp2_with fail
        refine (HVl _).out.mono ?_
        rintro e w5 ⟨x5, rfl, hx5, hb5⟩
        obtain rfl : x5 = b5 := by
          have := (HB5.out.trans HV.out).trans hx5.symm
          cases x5 <;> cases b5 <;> simp_all
        have HC5 := Lib.hid (HC4.out.trans (hb5.mono HC4.out.size))
        clear hb5 hx5
        cases x5
        all_goals
          go_wp2_with fail
          refine (lives_any w5).mono ?_
          rintro e w6 ⟨rfl, hb6⟩
          have HC6 := Lib.hid (HC5.out.trans (hb6.mono HC5.out.size))
          clear hb6
          go_wp2_with fail
          go_ret
          exact ⟨rfl, HC6.out⟩

end Go.Proofs.Ytdmgacoemabcfaa
