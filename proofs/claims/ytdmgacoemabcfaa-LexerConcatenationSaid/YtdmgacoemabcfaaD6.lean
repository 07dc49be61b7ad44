/- LexerConcatenation: the law's walk. -/
import Derived.Test.YtdmgacoemabcfaaD5
import Derived.Test.YtdmgacoemabcfaaLc
import Derived.Laws.StructEq
namespace Go.Proofs.Ytdmgacoemabcfaa
open Go.RowKit

theorem space_at (k : Nat) (hk : k < 4) : ∃ c : UInt8, Lx.white c = true ∧ (⟨#[32, 9, 10, 13]⟩ : ByteArray).extract k (k + 1) = ⟨#[c]⟩ := by
  have : k = 0 ∨ k = 1 ∨ k = 2 ∨ k = 3 := by omega
  rcases this with rfl | rfl | rfl | rfl
  · exact ⟨32, by decide, by decide⟩
  · exact ⟨9, by decide, by decide⟩
  · exact ⟨10, by decide, by decide⟩
  · exact ⟨13, by decide, by decide⟩

theorem toks_form {W' : World} {B n : Nat} {v : Value} {xs : List Value} (h : W'.ownsRow B 37 4 v n xs) : ∃ a c, v = .slice a n c := by
  rcases h.2 with ⟨rfl, h0⟩ | ⟨g, cap, _, rfl, _⟩
  · rw [h0]; exact ⟨_, _, rfl⟩
  · exact ⟨_, _, rfl⟩

theorem lex_at_lt (l : List UInt8) (i : Nat) (t : Lx.Tk) (h : t ∈ (Lx.lex l i).1) : t.at_ < l.length := by
  induction hn : l.length - i using Nat.strongRecOn generalizing i with
  | _ n ih =>
    by_cases hi : i < l.length
    · cases hw : Lx.white l[i] with
      | true => rw [Lx.lex_white l i hi hw] at h; exact ih (l.length - (i + 1)) (by omega) (i + 1) h rfl
      | false =>
        cases hs : Lx.stepAt l i with
        | error e => rw [Lx.lex_err l i hi hw e hs] at h; cases h
        | ok u =>
          have ht := Lx.stepAt_ends hi hs
          rw [Lx.lex_tok l i hi hw u hs] at h
          rcases List.mem_cons.1 h with rfl | h
          · omega
          · exact ih (l.length - u.ends) (by omega) u.ends h rfl
    · rw [Lx.lex_end l i (by omega)] at h; cases h
theorem toks_at_le (l : List UInt8) (t : Lx.Tk) (h : t ∈ Lx.toks l) : t.at_ ≤ 2000 := by
  unfold Lx.toks at h
  split at h
  · cases h
  · split at h
    · have := lex_at_lt l 0 t h; omega
    · cases h

theorem row_some {w : World} {B n c : Nat} {q : Option Addr} {ts : List Lx.Tk} (h : w.ownsRow B 37 4 (.slice q n c) n (rowOf ts)) (k : Nat) (hk : k < ts.length) :
    ∃ g, q = some ⟨g, 0, none⟩ ∧ g < w.heap.size ∧ w.cell? ⟨g, k * 4, none⟩ = some (.int .i64 (ts[k].kind : Int)) ∧ w.cell? ⟨g, k * 4 + 1, none⟩ = some (.string ⟨ts[k].text.toArray⟩) ∧ w.cell? ⟨g, k * 4 + 2, none⟩ = some (.int .i64 (ts[k].n : Int)) ∧ w.cell? ⟨g, k * 4 + 3, none⟩ = some (.int .i64 (ts[k].at_ : Int)) := by
  have hl := row_len h
  rcases h.2 with ⟨_, h0⟩ | ⟨g, cap, _, hv, _, hgb, _⟩
  · omega
  · have hq : q = some ⟨g, 0, none⟩ := by injection hv
    subst hq
    have hc := row_cells h k hk
    exact ⟨g, rfl, (Array.getElem?_eq_some_iff.1 hgb).1, hc⟩

set_option maxRecDepth 100000 in
set_option maxHeartbeats 4000000 in
theorem concat_walk (A : Option Addr) (n cap : Nat) (zs : List Int) (A2 : Option Addr) (n2 cap2 : Nat) (zs2 : List Int) (which : Int) (w : World) (hz : Ints w w.heap.size A n zs) (hn : n ≤ 9223372036854775807)
    (hz2 : Ints w w.heap.size A2 n2 zs2) (hn2 : n2 ≤ 9223372036854775807) (h1 : -9223372036854775808 ≤ which) (h2 : which ≤ 9223372036854775807) :
    Calls Try.prog 7 #[.slice A n cap, .slice A2 n2 cap2, .int .i64 which] w (Agreed w) := by
  have a1 := around_ge which 4 (by omega)
  have a2 := around_lt which 4 (by omega)
  obtain ⟨kk, hkk⟩ : ∃ kk : Nat, around which 4 = (kk : Int) := ⟨(around which 4).toNat, by omega⟩
  have HN := fun W => Lib.hid (around_any which 4 h1 h2 (by omega) (by omega) W)
  rw [hkk] at HN
  have hk4 : kk < 4 := by omega
  obtain ⟨c, hcw, hcs⟩ := space_at kk hk4
  have HZ := Lib.hid hz
  have HZ2 := Lib.hid hz2
  have HCS := Lib.hid hcs
  clear hz hz2 a1 a2 hkk hcs
  go_enter Try.func7, Try.ntmps7
  go_wp2_with fail
  refine (source_any A n cap zs w HZ.out hn).mono ?_
  rintro e w1 ⟨X, hX, rfl, hb1⟩
  have HB1 := Lib.hid hb1
  have HZ3 := Lib.hid (HZ2.out.later hb1)
  clear hb1
  go_wp2_with fail
  refine (short_any X (by unfold maxLen; omega) 300 (by omega) w1).mono ?_
  rintro e w' ⟨rfl, rfl⟩
  have hXs : (X.extract 0 (min 300 X.size)).size ≤ 300 := by simp; omega
  generalize X.extract 0 (min 300 X.size) = SA at *
  go_wp2_with fail
  refine (source_any A2 n2 cap2 zs2 w1 HZ3.out hn2).mono ?_
  rintro e w2 ⟨Y, hY, rfl, hb2⟩
  have HB2 := Lib.hid (HB1.out.trans (hb2.mono HB1.out.size))
  clear hb2
  go_wp2_with fail
  refine (short_any Y (by unfold maxLen; omega) 300 (by omega) w2).mono ?_
  rintro e w' ⟨rfl, rfl⟩
  have hYs : (Y.extract 0 (min 300 Y.size)).size ≤ 300 := by simp; omega
  generalize Y.extract 0 (min 300 Y.size) = SB at *
  go_wp2_with fail
  refine (HN w2).out.mono ?_
  rintro e w' ⟨rfl, rfl⟩
  have hcs := HCS.out
  go_wp2_with fail
  have hSL : (SA ++ ⟨#[c]⟩ ++ SB).data.toList = SA.data.toList ++ c :: SB.data.toList := by simp [ByteArray.data_append]
  have hcon := Lx.concat SA.data.toList SB.data.toList c hcw (by simp; omega)
  rw [← hSL] at hcon
  have HCON := Lib.hid hcon
  have hSs : (SA ++ ⟨#[c]⟩ ++ SB).size ≤ maxLen := by simp only [ByteArray.size_append, bsz2, List.size_toArray, List.length_cons, List.length_nil]; unfold maxLen; omega
  have TA := fun W => Lib.hid (tokens_any SA (by unfold maxLen; omega) W)
  have TB := fun W => Lib.hid (tokens_any SB (by unfold maxLen; omega) W)
  have TC := fun W => Lib.hid (tokens_any (SA ++ ⟨#[c]⟩ ++ SB) hSs W)
  have hlA : SA.data.toList.length = SA.size := by simp
  have HLA := Lib.hid hlA
  unfold TokPost at TA TB TC
  clear hSL hcon hlA
  by_cases hea : Lx.tokErr SA.data.toList = 0
  · by_cases heb : Lx.tokErr SB.data.toList = 0
    · obtain ⟨r1, r3⟩ := HCON.out.2.2 hea heb
      obtain ⟨-, y1, -, -⟩ := Lx.toks_of_ok _ hea
      obtain ⟨-, y2, -, -⟩ := Lx.toks_of_ok _ heb
      have hlta := toks_len SA.data.toList
      have hltb := toks_len SB.data.toList
      rw [r1, r3, HLA.out] at TC
      rw [hea, y1] at TA
      rw [heb, y2] at TB
      have HAT : Hid (∀ t ∈ Lx.toks SB.data.toList, t.at_ ≤ 2000) := Lib.hid (fun t ht => toks_at_le _ t ht)
      generalize Lx.toks SA.data.toList = ta at *
      generalize Lx.toks SB.data.toList = tb at *
      generalize Lx.tokAt (SA ++ ⟨#[c]⟩ ++ SB).data.toList = ic at *
      clear r1 r3 HCON hea heb y1 y2
      refine (TA w2).out.mono ?_
      rintro e w3 ⟨v3, rfl, hr3, hb3⟩
      obtain ⟨q3, c3, rfl⟩ := toks_form hr3
      have HB3 := Lib.hid (HB2.out.trans (hb3.mono HB2.out.size))
      have HR3 := Lib.hid hr3
      clear hr3 hb3
      go_wp2_with fail
      refine (TB w3).out.mono ?_
      rintro e w4 ⟨v4, rfl, hr4, hb4⟩
      obtain ⟨q4, c4, rfl⟩ := toks_form hr4
      have HB4 := Lib.hid (HB3.out.trans (hb4.mono HB3.out.size))
      have HR3a := Lib.hid (own_below HR3.out hb4)
      have HR4 := Lib.hid hr4
      clear hr4 hb4 HR3
      go_wp2_with fail
      refine (TC w4).out.mono ?_
      rintro e w5 ⟨v5, rfl, hr5, hb5⟩
      obtain ⟨q5, c5, rfl⟩ := toks_form hr5
      have HB5 := Lib.hid (HB4.out.trans (hb5.mono HB4.out.size))
      have HR3b := Lib.hid (own_below HR3a.out hb5)
      have HR4b := Lib.hid (own_below HR4.out hb5)
      have HR5 := Lib.hid hr5
      have hlen : (ta ++ List.map (Lx.shTk (SA.size + 1)) tb).length = ta.length + tb.length := by simp
      have hln1 : (((ta ++ List.map (Lx.shTk (SA.size + 1)) tb).length : Int) != (ta.length : Int) + (tb.length : Int)) = false := by simp
      clear hr5 hb5 HR3a HR4 TA TB TC
      generalize hz : ta ++ List.map (Lx.shTk (SA.size + 1)) tb = tz at *
      have HTZ := Lib.hid hz
      have HLEN := Lib.hid hlen
      clear hz hlen
      go_wp2_with fail
      go_loopw [21, 22, 23] (fun v _ _ wr => ∃ k : Nat, k ≤ tz.length ∧ v = .int .i64 (k : Int) ∧ Below w5.heap.size w5 wr) (fun v _ _ _ => tz.length - (intOf v).toNat)
      case atStart => exact ⟨0, Nat.zero_le _, rfl, Below.refl _ _⟩
      case round =>
        obtain ⟨k, hk, rfl, hbw⟩ := hrel
        have HBW := Lib.hid hbw
        have hsw := hbw.size
        have HFin : Hid (Below w.heap.size w wr) := Lib.hid (HB5.out.trans (hbw.mono HB5.out.size))
        have htz : tz.length ≤ 4000 := by rw [HLEN.out]; omega
        by_cases hlt : k < tz.length
        · obtain ⟨g5, rfl, hg5, p0, p1, p2, p3⟩ := row_some HR5.out k hlt
          replace p0 := (hbw.cell (p := ⟨g5, k * 4, none⟩) hg5).trans p0
          replace p1 := (hbw.cell (p := ⟨g5, k * 4 + 1, none⟩) hg5).trans p1
          replace p2 := (hbw.cell (p := ⟨g5, k * 4 + 2, none⟩) hg5).trans p2
          replace p3 := (hbw.cell (p := ⟨g5, k * 4 + 3, none⟩) hg5).trans p3
          by_cases hka : k < ta.length
          · have hel : tz[k] = ta[k] := by
              have := HTZ.out
              subst this
              exact List.getElem_append_left hka
            obtain ⟨g3, rfl, hg3, o0, o1, o2, o3⟩ := row_some HR3b.out k hka
            replace o0 := (hbw.cell (p := ⟨g3, k * 4, none⟩) hg3).trans o0
            replace o1 := (hbw.cell (p := ⟨g3, k * 4 + 1, none⟩) hg3).trans o1
            replace o2 := (hbw.cell (p := ⟨g3, k * 4 + 2, none⟩) hg3).trans o2
            replace o3 := (hbw.cell (p := ⟨g3, k * 4 + 3, none⟩) hg3).trans o3
            rw [hel] at p0 p1 p2 p3
            generalize ta[k] = t at *
            have hkI : (k : Int) < (ta.length : Int) := by omega
            have hg3' : g3 < wr.heap.size := by omega
            clear hel hbw hg3
            go_wp2_with fail
            go_quiet (fail)
            go_wp2_with fail
            go_roundw
            case rel =>
              have hfin := HBW.out.alloc HBW.out.size (.cells (cellsOf t) 37)
              exact ⟨k + 1, by omega, by go_num, hfin.os, hfin.tape, hfin.output, hfin.size, hfin.block⟩
            case measure => simp [intOf]; omega
          · have hj : k - ta.length < tb.length := by have := HLEN.out; omega
            have hel : tz[k] = Lx.shTk (SA.size + 1) tb[k - ta.length] := by
              have := HTZ.out
              subst this
              rw [List.getElem_append_right (by omega), List.getElem_map]
            obtain ⟨g4, rfl, hg4, o0, o1, o2, o3⟩ := row_some HR4b.out (k - ta.length) hj
            replace o0 := (hbw.cell (p := ⟨g4, (k - ta.length) * 4, none⟩) hg4).trans o0
            replace o1 := (hbw.cell (p := ⟨g4, (k - ta.length) * 4 + 1, none⟩) hg4).trans o1
            replace o2 := (hbw.cell (p := ⟨g4, (k - ta.length) * 4 + 2, none⟩) hg4).trans o2
            replace o3 := (hbw.cell (p := ⟨g4, (k - ta.length) * 4 + 3, none⟩) hg4).trans o3
            rw [hel] at p0 p1 p2 p3
            have htb : tb[k - ta.length].at_ ≤ 2000 := HAT.out _ (List.getElem_mem hj)
            generalize tb[k - ta.length] = t at *
            have p3' : wr.cell? ⟨g5, k * 4 + 3, none⟩ = some (.int .i64 ((t.at_ : Int) + ((SA.size : Int) + 1))) := by
              rw [p3]; exact congrArg some (int_eq (by simp [Lx.shTk]))
            have p0' : wr.cell? ⟨g5, k * 4, none⟩ = some (.int .i64 (t.kind : Int)) := p0
            have p1' : wr.cell? ⟨g5, k * 4 + 1, none⟩ = some (.string ⟨t.text.toArray⟩) := p1
            have p2' : wr.cell? ⟨g5, k * 4 + 2, none⟩ = some (.int .i64 (t.n : Int)) := p2
            have hkI : ¬ (k : Int) < (ta.length : Int) := by omega
            have hkB : decide ((k : Int) < (ta.length : Int)) = false := by simp; omega
            have hjI : (k : Int) - (ta.length : Int) < (tb.length : Int) := by omega
            have hjN : ((k : Int) - (ta.length : Int)).toNat = k - ta.length := by omega
            have hg4' : g4 < wr.heap.size := by omega
            have hg5' : g5 < wr.heap.size := by omega
            clear hel hbw hg4 p0 p1 p2 p3 hg5
            go_wp2_with fail
            go_quiet (fail)
            obtain ⟨wx, hwx⟩ : ∃ wx, wx = (wr.alloc (.cells #[.int .i64 (t.kind : Int), .string ⟨t.text.toArray⟩, .int .i64 (t.n : Int), .int .i64 ((t.at_ : Int) + ((SA.size : Int) + 1))] 37)).drewN nq := ⟨_, rfl⟩
            rw [← hwx]
            have hbx : Blk wx wr.heap.size 37 #[.int .i64 (t.kind : Int), .string ⟨t.text.toArray⟩, .int .i64 (t.n : Int), .int .i64 ((t.at_ : Int) + ((SA.size : Int) + 1))] := by rw [hwx]; exact (Blk.new wr 37 _).drewN nq
            have hbe : Below wr.heap.size wr wx := by
              rw [hwx]
              have h := (Below.refl wr.heap.size wr).alloc (Nat.le_refl _) (.cells #[.int .i64 (t.kind : Int), .string ⟨t.text.toArray⟩, .int .i64 (t.n : Int), .int .i64 ((t.at_ : Int) + ((SA.size : Int) + 1))] 37)
              exact ⟨h.os, h.tape, h.output, h.size, h.block⟩
            have x0 : wx.cell? ⟨wr.heap.size, 0, none⟩ = _ := hbx.cell 0
            have x1 : wx.cell? ⟨wr.heap.size, 1, none⟩ = _ := hbx.cell 1
            have x2 : wx.cell? ⟨wr.heap.size, 2, none⟩ = _ := hbx.cell 2
            have x3 : wx.cell? ⟨wr.heap.size, 3, none⟩ = _ := hbx.cell 3
            have hxl := hbx.lt
            have y0 := (hbe.cell (p := ⟨g4, (k - ta.length) * 4, none⟩) hg4').trans o0
            have y1 := (hbe.cell (p := ⟨g4, (k - ta.length) * 4 + 1, none⟩) hg4').trans o1
            have y2 := (hbe.cell (p := ⟨g4, (k - ta.length) * 4 + 2, none⟩) hg4').trans o2
            have y3 := (hbe.cell (p := ⟨g4, (k - ta.length) * 4 + 3, none⟩) hg4').trans o3
            have HBX : Hid (Below w5.heap.size w5 wx) := Lib.hid (HBW.out.trans (hbe.mono HBW.out.size))
            have hgx : g4 < wx.heap.size := by have := hbe.size; omega
            clear hwx hbx hbe o0 o1 o2 o3 p0' p1' p2' p3'
            go_wp2_with fail
            go_roundw
            case rel => exact ⟨k + 1, by omega, by go_num, HBX.out.alloc HBX.out.size _⟩
            case measure => simp [intOf]; omega
        · go_wp2_with fail
          refine (lives_any wr).mono ?_
          rintro e w6 ⟨rfl, hb6⟩
          have HB6 := Lib.hid (HFin.out.trans (hb6.mono HFin.out.size))
          clear hb6
          go_wp2_with fail
          go_ret
          exact ⟨rfl, HB6.out⟩
    · obtain ⟨r1, r2, r3⟩ := HCON.out.2.1 hea heb
      rw [r1, r2, r3] at TC
      obtain ⟨-, y1, -, -⟩ := Lx.toks_of_ok _ hea
      rw [hea, y1] at TA
      rw [Lx.toks_of_err _ heb] at TB
      have hib := Lx.tokAt_le SB.data.toList
      rw [show SB.data.toList.length = SB.size by simp] at hib
      have hadd : (((Lx.tokAt SB.data.toList + (SA.data.toList.length + 1) : Nat) : Int) == (Lx.tokAt SB.data.toList : Int) + ((SA.size : Int) + 1)) = true := by rw [HLA.out]; simp
      generalize Lx.tokAt SB.data.toList + (SA.data.toList.length + 1) = ic at *
      generalize Lx.toks SA.data.toList = ta at *
      generalize Lx.tokErr SB.data.toList = eb at *
      generalize Lx.tokAt SB.data.toList = ib at *
      have hea2 : ((eb : Int) != 0) = true := by simp; omega
      clear r1 r2 r3 HCON hea y1
      refine (TA w2).out.mono ?_
      rintro e w3 ⟨v3, rfl, hr3, hb3⟩
      obtain ⟨q3, c3, rfl⟩ := toks_form hr3
      have HB3 := Lib.hid (HB2.out.trans (hb3.mono HB2.out.size))
      clear hr3 hb3
      go_wp2_with fail
      refine (TB w3).out.mono ?_
      rintro e w4 ⟨v4, rfl, hr4, hb4⟩
      obtain ⟨q4, c4, rfl⟩ := toks_form hr4
      have HB4 := Lib.hid (HB3.out.trans (hb4.mono HB3.out.size))
      clear hr4 hb4
      go_wp2_with fail
      refine (TC w4).out.mono ?_
      rintro e w5 ⟨v5, rfl, hr5, hb5⟩
      obtain ⟨q5, c5, rfl⟩ := toks_form hr5
      have HB5 := Lib.hid (HB4.out.trans (hb5.mono HB4.out.size))
      clear hr5 hb5
      go_wp2_with fail
      refine (lives_any w5).mono ?_
      rintro e w6 ⟨rfl, hb6⟩
      have HB6 := Lib.hid (HB5.out.trans (hb6.mono HB5.out.size))
      clear hb6
      go_wp2_with fail
      go_ret
      exact ⟨rfl, HB6.out⟩
  · obtain ⟨r1, r2, r3⟩ := HCON.out.1 hea
    rw [r1, r2, r3] at TC
    rw [Lx.toks_of_err _ hea] at TA
    generalize Lx.tokErr SA.data.toList = ea at *
    generalize Lx.tokAt SA.data.toList = ia at *
    generalize Lx.tokErr SB.data.toList = eb at *
    generalize Lx.tokAt SB.data.toList = ib at *
    generalize Lx.toks SB.data.toList = tb at *
    have hea2 : ((ea : Int) != 0) = true := by simp; omega
    clear r1 r2 r3 HCON
    refine (TA w2).out.mono ?_
    rintro e w3 ⟨v3, rfl, hr3, hb3⟩
    obtain ⟨q3, c3, rfl⟩ := toks_form hr3
    have HB3 := Lib.hid (HB2.out.trans (hb3.mono HB2.out.size))
    clear hr3 hb3
    go_wp2_with fail
    refine (TB w3).out.mono ?_
    rintro e w4 ⟨v4, rfl, hr4, hb4⟩
    obtain ⟨q4, c4, rfl⟩ := toks_form hr4
    have HB4 := Lib.hid (HB3.out.trans (hb4.mono HB3.out.size))
    clear hr4 hb4
    go_wp2_with fail
    refine (TC w4).out.mono ?_
    rintro e w5 ⟨v5, rfl, hr5, hb5⟩
    obtain ⟨q5, c5, rfl⟩ := toks_form hr5
    have HB5 := Lib.hid (HB4.out.trans (hb5.mono HB4.out.size))
    clear hr5 hb5
    go_wp2_with fail
    refine (lives_any w5).mono ?_
    rintro e w6 ⟨rfl, hb6⟩
    have HB6 := Lib.hid (HB5.out.trans (hb6.mono HB5.out.size))
    clear hb6
    go_wp2_with fail
    go_ret
    exact ⟨rfl, HB6.out⟩

theorem i64_bounds2 {n : Int} (h : (Lit.int .i64 n).wf = true) : -9223372036854775808 ≤ n ∧ n ≤ 9223372036854775807 := by
  simpa [Lit.wf, IntKind.min, IntKind.max, IntKind.signed, IntKind.bits] using h

end Go.Proofs.Ytdmgacoemabcfaa
