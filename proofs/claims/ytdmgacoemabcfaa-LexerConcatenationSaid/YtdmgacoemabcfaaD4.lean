/- LexerCovers: the walk of covers. -/
import Derived.Test.YtdmgacoemabcfaaC4
import Derived.Test.YtdmgacoemabcfaaLz
namespace Go.Proofs.Ytdmgacoemabcfaa
open Go.RowKit

set_option maxRecDepth 100000 in
set_option maxHeartbeats 1000000 in
theorem covers_err (s : ByteArray) (hs : s.size ≤ maxLen) (h : Lx.tokErr s.data.toList ≠ 0) (w : World) : Calls Try.prog 18 #[.string s] w (Agreed w) := by
  have HA := fun W => Lib.hid (tokens_any s hs W)
  unfold TokPost at HA
  have h0 := Lx.toks_of_err s.data.toList h
  have h1 := Lx.tokAt_le s.data.toList
  rw [show s.data.toList.length = s.size by simp] at h1
  rw [h0] at HA
  generalize Lx.tokAt s.data.toList = i at *
  generalize Lx.tokErr s.data.toList = e at *
  have hne : ((e : Int) != 0) = true := by simp; omega
  unfold maxLen at hs
  clear h0
  go_enter Try.func18, Try.ntmps18
  go_wp2_with fail
  refine (HA w).out.mono ?_
  rintro e1 w1 ⟨v1, rfl, hr1, hb1⟩
  obtain ⟨a1, c1, rfl⟩ : ∃ a c, v1 = .slice a 0 c := by
    rcases hr1.2 with ⟨rfl, _⟩ | ⟨g, cap, _, rfl, _⟩
    · exact ⟨_, _, rfl⟩
    · exact ⟨_, _, rfl⟩
  have HB1 := Lib.hid hb1
  clear hr1 hb1
  go_wp2_with fail
  go_ret
  exact ⟨rfl, HB1.out⟩

theorem chain_drop_head {l : List UInt8} {i k : Nat} {ts : List Lx.Tk} (hk : k < ts.length) (h : Lx.Chain l i (ts.drop k)) :
    i ≤ ts[k].at_ ∧ (∀ c ∈ Lx.sub l i ts[k].at_, Lx.white c = true) ∧ ts[k].at_ + (Lx.full ts[k]).length = ts[k].ends ∧ ts[k].ends ≤ l.length ∧ ts[k].at_ < ts[k].ends ∧ Lx.sub l ts[k].at_ ts[k].ends = Lx.full ts[k] ∧ Lx.Chain l ts[k].ends (ts.drop (k + 1)) := by
  rw [List.drop_eq_getElem_cons hk] at h
  exact h

def AllWhite (X : ByteArray) : Prop := ∀ c ∈ X.data.toList, Lx.white c = true
theorem allWhite_app {X Y : ByteArray} (hx : AllWhite X) (hy : AllWhite Y) : AllWhite (X ++ Y) := by
  intro c hc
  rw [ByteArray.data_append, Array.toList_append] at hc
  rcases List.mem_append.1 hc with h | h
  · exact hx c h
  · exact hy c h
theorem allWhite_sub {s : ByteArray} {a b : Nat} (h : ∀ c ∈ Lx.sub s.data.toList a b, Lx.white c = true) : AllWhite (s.extract a b) := by
  intro c hc
  rw [Lib.extract_data] at hc
  exact h c hc

set_option maxRecDepth 100000 in
set_option maxHeartbeats 8000000 in
theorem covers_ok (s : ByteArray) (hs : s.size ≤ maxLen) (h : Lx.tokErr s.data.toList = 0) (w : World) : Calls Try.prog 18 #[.string s] w (Agreed w) := by
  have HA := fun W => Lib.hid (tokens_any s hs W)
  unfold TokPost at HA
  obtain ⟨q1, q2, -, -⟩ := Lx.toks_of_ok s.data.toList h
  have hch := Lx.toks_chain s.data.toList h
  rw [h, q2] at HA
  have hlen := toks_len s.data.toList
  have hsz : s.size ≤ 2000 := by simpa using q1
  generalize Lx.toks s.data.toList = ts at *
  have HCH := Lib.hid hch
  clear h q1 q2 hch hs
  go_enter Try.func18, Try.ntmps18
  go_wp2_with fail
  refine (HA w).out.mono ?_
  rintro e1 w1 ⟨v1, rfl, hr1, hb1⟩
  obtain ⟨a1, c1, rfl⟩ : ∃ a c, v1 = .slice a ts.length c := by
    rcases hr1.2 with ⟨rfl, h0⟩ | ⟨g, cap, _, rfl, _⟩
    · rw [h0]; exact ⟨_, _, rfl⟩
    · exact ⟨_, _, rfl⟩
  have HC : Hid (∀ k (hk : k < ts.length), ∃ g, a1 = some ⟨g, 0, none⟩ ∧ w1.cell? ⟨g, k * 4, none⟩ = some (.int .i64 (ts[k].kind : Int)) ∧ w1.cell? ⟨g, k * 4 + 1, none⟩ = some (.string ⟨ts[k].text.toArray⟩) ∧ w1.cell? ⟨g, k * 4 + 3, none⟩ = some (.int .i64 (ts[k].at_ : Int))) := by
    refine Lib.hid fun k hk => ?_
    rcases hr1.2 with ⟨_, h0⟩ | ⟨g, cap, _, hv, _⟩
    · omega
    · have hr := hr1
      rw [hv] at hr
      have hc := row_cells hr k hk
      exact ⟨g, by injection hv, hc.1, hc.2.1, hc.2.2.2⟩
  have HB1 := Lib.hid hb1
  clear hr1 hb1
  go_wp2_with fail
  go_loopw [6, 7, 8, 9] (fun x v i _ wr => ∃ (X : ByteArray) (E k m : Nat), x = .string X ∧ v = .int .i64 (E : Int) ∧ i = .int .i64 (k : Int) ∧ k ≤ ts.length ∧ E ≤ s.size ∧ X.size ≤ E ∧ Hid (AllWhite X) ∧ Hid (Lx.Chain s.data.toList E (ts.drop k)) ∧ wr = w1.drewN m) (fun _ _ i _ _ => ts.length - (intOf i).toNat)
  case atStart => exact ⟨⟨#[]⟩, 0, 0, 0, rfl, rfl, rfl, Nat.zero_le _, Nat.zero_le _, by decide, Lib.hid (fun c hc => by cases hc), Lib.hid HCH.out, rfl⟩
  case round =>
    obtain ⟨X, E, k, m, rfl, rfl, rfl, hk, hE, hXE, HX, HCk, rfl⟩ := hrel
    by_cases hlt : k < ts.length
    · obtain ⟨g, rfl, k0, k1, k3⟩ := HC.out k hlt
      obtain ⟨c1, c2, c3, c4, c5, c6, c7⟩ := chain_drop_head hlt HCk.out
      have HC7 := Lib.hid c7
      rw [show s.data.toList.length = s.size by simp] at c4
      generalize ts[k] = t at *
      have hkI : (k : Int) < (ts.length : Int) := by omega
      have HXS : Hid (AllWhite (X ++ s.extract E t.at_)) := Lib.hid (allWhite_app HX.out (allWhite_sub c2))
      obtain ⟨TX, hTX⟩ : ∃ TX : ByteArray, TX = ⟨(Lx.full t).toArray⟩ := ⟨_, rfl⟩
      have hTs : TX.size = (Lx.full t).length := by rw [hTX]; rfl
      have hsl : s.extract t.at_ t.ends = TX := by rw [extract_sub, c6, hTX]
      have hen : t.at_ + TX.size = t.ends := by omega
      have hpos : 0 < TX.size := by omega
      have HSL := Lib.hid hsl
      have HEN := Lib.hid hen
      by_cases hkd : t.kind = 2
      · have hkb : ((t.kind : Int) == 2) = true := by simp; omega
        have hk1 : (⟨#[34]⟩ : ByteArray) ++ ⟨t.text.toArray⟩ ++ ⟨#[34]⟩ = TX := by
          rw [hTX, Lx.full, if_pos hkd]
          apply ByteArray.ext
          simp [ByteArray.data_append]
        have tl : t.text.length ≤ 2000 := by rw [Lx.full, if_pos hkd] at hTs; simp at hTs; omega
        have g1 : decide ((t.at_ : Int) < (E : Int)) = false := by simp; omega
        have g2 : TX.toList.isEmpty = false := by
          rw [← decide_eq_emptyBytes]
          simp
          intro hh
          rw [hh] at hpos
          simp at hpos
        have g3 : IntKind.i64.wrap ((t.at_ : Int) + (TX.size : Int)) = (t.ends : Int) := by rw [IntWalk.i64_in _ (by omega)]; omega
        have g4 : decide ((s.size : Int) < (t.ends : Int)) = false := by simp; omega
        have s2 : t.at_ ≤ t.ends := by omega
        have hzb : t.at_ + TX.size ≤ 2000 := by omega
        have G3 := Lib.hid g3
        clear hTX hTs hsl hen hkd c2 c3 c6 c7 g3
        go_wp2_with fail
        have g3 := G3.out
        have hsl := HSL.out
        go_quiet (fail)
        clear g3 hsl
        go_wp2_with fail
        go_roundw
        case rel =>
          refine ⟨_, t.ends, k + 1, m + nq, rfl, int_eq (by have := HEN.out; omega), by go_num, by omega, by omega, ?_, HXS, HC7, rfl⟩
          simp only [ByteArray.size_append, ByteArray.size_extract]
          have := HEN.out
          omega
        case measure => simp [intOf]; omega
      · have hkb : ((t.kind : Int) == 2) = false := by simp; omega
        have hk1 : (⟨t.text.toArray⟩ : ByteArray) = TX := by rw [hTX, Lx.full, if_neg hkd]
        rw [hk1] at k1
        have g1 : decide ((t.at_ : Int) < (E : Int)) = false := by simp; omega
        have g2 : TX.toList.isEmpty = false := by
          rw [← decide_eq_emptyBytes]
          simp
          intro hh
          rw [hh] at hpos
          simp at hpos
        have g3 : IntKind.i64.wrap ((t.at_ : Int) + (TX.size : Int)) = (t.ends : Int) := by rw [IntWalk.i64_in _ (by omega)]; omega
        have g4 : decide ((s.size : Int) < (t.ends : Int)) = false := by simp; omega
        have s2 : t.at_ ≤ t.ends := by omega
        have hzb : t.at_ + TX.size ≤ 2000 := by omega
        have G3 := Lib.hid g3
        clear hTX hTs hsl hen hkd c2 c3 c6 c7 g3 hk1
        go_wp2_with fail
        have g3 := G3.out
        have hsl := HSL.out
        go_quiet (fail)
        clear g3 hsl
        go_wp2_with fail
        go_roundw
        case rel =>
          refine ⟨_, t.ends, k + 1, m + nq, rfl, int_eq (by have := HEN.out; omega), by go_num, by omega, by omega, ?_, HXS, HC7, rfl⟩
          simp only [ByteArray.size_append, ByteArray.size_extract]
          have := HEN.out
          omega
        case measure => simp [intOf]; omega
    · obtain rfl : k = ts.length := by omega
      have hend : ∀ c ∈ s.data.toList.drop E, Lx.white c = true := by
        have := HCk.out
        rw [List.drop_length] at this
        exact this
      have hAll : AllWhite (X ++ s.extract E s.size) := allWhite_app HX.out (by
        intro c hc
        rw [Lib.extract_to_end] at hc
        exact hend c hc)
      have HB2 : Hid (∀ n, Below w.heap.size w (w1.drewN n)) := Lib.hid fun n => ⟨HB1.out.os, HB1.out.tape, HB1.out.output, HB1.out.size, HB1.out.block⟩
      have hRs : (X ++ s.extract E s.size).size ≤ 4000 := by simp only [ByteArray.size_append, ByteArray.size_extract]; omega
      have HAll := Lib.hid hAll
      obtain ⟨R, hR⟩ : ∃ R, X ++ s.extract E s.size = R := ⟨_, rfl⟩
      rw [hR] at HAll hRs
      clear hend hAll
      go_wp2_with fail
      go_loopw [10] (fun i wr => ∃ k : Nat, k ≤ R.size ∧ i = .int .i64 (k : Int) ∧ wr = w1.drewN m) (fun i _ => R.size - (intOf i).toNat)
      case atStart => exact ⟨0, Nat.zero_le _, rfl, rfl⟩
      case round =>
        obtain ⟨j, hj, rfl, rfl⟩ := hrel
        by_cases hjl : j < R.size
        · have hw := HAll.out R[j] (by
            have hjL : j < R.data.toList.length := by simpa using hjl
            have := List.getElem_mem hjL
            exact this)
          have hc4 := white_cases _ hw
          obtain ⟨c, hc⟩ : ∃ c : Int, (R[j].toNat : Int) = c := ⟨_, rfl⟩
          rw [hc] at hc4
          clear hw
          rcases hc4 with rfl | rfl | rfl | rfl
          all_goals
            go_wp2_with fail
            go_roundw
            case rel => exact ⟨j + 1, by omega, by go_num, trivial⟩
            case measure => simp [intOf]; omega
        · go_wp2_with fail
          go_ret
          exact ⟨rfl, HB2.out _⟩

theorem covers_any (s : ByteArray) (hs : s.size ≤ maxLen) (w : World) : Calls Try.prog 18 #[.string s] w (Agreed w) := by
  by_cases h : Lx.tokErr s.data.toList = 0
  · exact covers_ok s hs h w
  · exact covers_err s hs h w

end Go.Proofs.Ytdmgacoemabcfaa
