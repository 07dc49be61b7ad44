/- The walk of the reference's Tokens. -/
import Derived.Test.YtdmgacoemabcfaaB3
import Derived.Test.YtdmgacoemabcfaaB4
import Derived.Test.YtdmgacoemabcfaaA6
import Derived.Deep.DeepCutAuto
import Derived.Deep.CutBlock
namespace Go.Proofs.Ytdmgacoemabcfaa
open Go.RowKit

set_option maxRecDepth 100000 in
set_option maxHeartbeats 1000000 in
theorem refSymbol_two (s : ByteArray) (i : Nat) (hs : s.size ≤ maxLen) (hi : i < s.size) (c : UInt8) (hc : s[i] = c) (h1 : c = 33 ∨ c = 94) (hi1 : i + 1 < s.size) (hd : ((s[i + 1].toNat : Int) == 61) = true) (w : World) :
    Calls Try.prog 39 #[.string s, .int .i64 i] w fun e w' => e = .returned (.string (s.extract i (i + 2))) ∧ w = w' := by
  have he := extract_one s i hi
  rw [hc] at he
  unfold maxLen at hs
  clear hc
  rcases h1 with rfl | rfl
  all_goals
    go_enter Try.func39, Try.ntmps39
    go_wp2_with fail
    go_ret
    exact ⟨rfl, rfl⟩

theorem extract_two (s : ByteArray) (i : Nat) (hi : i + 1 < s.size) : s.extract i (i + 2) = ⟨#[s[i], s[i + 1]]⟩ := by
  rw [extract_sub, Lx.sub]
  have hl : i < s.data.toList.length := by simp; omega
  have hl1 : i + 1 < s.data.toList.length := by simp; omega
  have : i + 2 - i = 2 := by omega
  rw [this, List.drop_eq_getElem_cons hl, List.drop_eq_getElem_cons hl1]
  simp
  exact ⟨rfl, rfl⟩

theorem refSym_two (s : ByteArray) (i : Nat) (hs : s.size ≤ maxLen) (hi : i < s.size) (h1 : s[i] = 33 ∨ s[i] = 94) (hi1 : i + 1 < s.size) (hd : ((s[i + 1].toNat : Int) == 61) = true) (w : World) :
    Calls Try.prog 39 #[.string s, .int .i64 i] w fun e w' => e = .returned (.string ⟨#[s[i], s[i + 1]]⟩) ∧ Below w.heap.size w w' :=
  (refSymbol_two s i hs hi _ rfl h1 hi1 hd w).mono fun e w' ⟨he, hw⟩ => ⟨by rw [he, extract_two s i hi1], by rw [← hw]; exact Below.refl _ _⟩
theorem refSym_one (s : ByteArray) (i : Nat) (hs : s.size ≤ maxLen) (hi : i < s.size) (h : Lx.sym1 s[i] = true) (w : World) :
    Calls Try.prog 39 #[.string s, .int .i64 i] w fun e w' => e = .returned (.string ⟨#[s[i]]⟩) ∧ Below w.heap.size w w' := by
  refine (refSymbol_list s i hs hi _ rfl (.inl ?_) w).mono fun e w' ⟨hb, hc⟩ => ⟨?_, hb⟩
  · constructor <;> (intro e; rw [e] at h; exact absurd h (by decide))
  · rcases hc with ⟨_, he⟩ | ⟨hf, _⟩
    · exact he
    · rw [h] at hf; cases hf
theorem refSym_none (s : ByteArray) (i : Nat) (hs : s.size ≤ maxLen) (hi : i < s.size) (h : Lx.sym1 s[i] = false)
    (h1 : (¬ s[i] = 33 ∧ ¬ s[i] = 94) ∨ s.size ≤ i + 1 ∨ ∃ _h : i + 1 < s.size, ((s[i + 1].toNat : Int) == 61) = false) (w : World) :
    Calls Try.prog 39 #[.string s, .int .i64 i] w fun e w' => e = .returned (.string ⟨#[]⟩) ∧ Below w.heap.size w w' := by
  refine (refSymbol_list s i hs hi _ rfl h1 w).mono fun e w' ⟨hb, hc⟩ => ⟨?_, hb⟩
  rcases hc with ⟨hf, _⟩ | ⟨_, he⟩
  · rw [h] at hf; cases hf
  · exact he

theorem quoted_open (s : ByteArray) (i : Nat) (hs : s.size ≤ maxLen) (hi : i < s.size) (_h : s.size ≤ Lx.stop Lx.noq s.data.toList (i + 1)) (w : World) :
    Calls Try.prog 38 #[.string s, .int .i64 i] w fun e w' => e = .returned (.tuple #[.string ⟨#[]⟩, .int .i64 2]) ∧ w = w' :=
  (quoted_any s i hs hi w).mono fun e w' ⟨hw, hc⟩ => ⟨(by
    rcases hc with ⟨_, he⟩ | ⟨hf, _⟩
    · exact he
    · omega), hw⟩
theorem quoted_bad (s : ByteArray) (i : Nat) (hs : s.size ≤ maxLen) (hi : i < s.size) (_h : Lx.stop Lx.noq s.data.toList (i + 1) < s.size) (ha : (s.extract (i + 1) (Lx.stop Lx.noq s.data.toList (i + 1))).data.toList.all Lx.valc = false) (w : World) :
    Calls Try.prog 38 #[.string s, .int .i64 i] w fun e w' => e = .returned (.tuple #[.string ⟨#[]⟩, .int .i64 2]) ∧ w = w' :=
  (quoted_any s i hs hi w).mono fun e w' ⟨hw, hc⟩ => ⟨(by
    rcases hc with ⟨hf, _⟩ | ⟨_, ⟨_, he⟩ | ⟨hf, _⟩ | ⟨hf, _⟩⟩
    · omega
    · exact he
    · rw [ha] at hf; cases hf
    · rw [ha] at hf; cases hf), hw⟩
theorem quoted_long (s : ByteArray) (i : Nat) (hs : s.size ≤ maxLen) (hi : i < s.size) (_h : Lx.stop Lx.noq s.data.toList (i + 1) < s.size) (ha : (s.extract (i + 1) (Lx.stop Lx.noq s.data.toList (i + 1))).data.toList.all Lx.valc = true) (_h16 : 16 < Lx.stop Lx.noq s.data.toList (i + 1) - (i + 1)) (w : World) :
    Calls Try.prog 38 #[.string s, .int .i64 i] w fun e w' => e = .returned (.tuple #[.string ⟨#[]⟩, .int .i64 4]) ∧ w = w' :=
  (quoted_any s i hs hi w).mono fun e w' ⟨hw, hc⟩ => ⟨(by
    rcases hc with ⟨hf, _⟩ | ⟨_, ⟨hf, _⟩ | ⟨_, _, he⟩ | ⟨_, hf, _⟩⟩
    · omega
    · rw [ha] at hf; cases hf
    · exact he
    · omega), hw⟩
theorem quoted_good (s : ByteArray) (i : Nat) (hs : s.size ≤ maxLen) (hi : i < s.size) (_h : Lx.stop Lx.noq s.data.toList (i + 1) < s.size) (ha : (s.extract (i + 1) (Lx.stop Lx.noq s.data.toList (i + 1))).data.toList.all Lx.valc = true) (_h16 : Lx.stop Lx.noq s.data.toList (i + 1) - (i + 1) ≤ 16) (w : World) :
    Calls Try.prog 38 #[.string s, .int .i64 i] w fun e w' => e = .returned (.tuple #[.string (s.extract (i + 1) (Lx.stop Lx.noq s.data.toList (i + 1))), .int .i64 0]) ∧ w = w' :=
  (quoted_any s i hs hi w).mono fun e w' ⟨hw, hc⟩ => ⟨(by
    rcases hc with ⟨hf, _⟩ | ⟨_, ⟨hf, _⟩ | ⟨_, hf, _⟩ | ⟨_, _, he⟩⟩
    · omega
    · rw [ha] at hf; cases hf
    · omega
    · exact he), hw⟩

theorem own_below {w w' : World} {B e size n : Nat} {v : Value} {xs : List Value} (h : w.ownsRow B e size v n xs) (hb : Below w.heap.size w w') : w'.ownsRow B e size v n xs := by
  refine h.kept (row := none) ⟨hb.os, hb.tape, hb.output, hb.size, fun i hi _ => hb.block i hi⟩ ?_
  rcases h.2 with ⟨rfl, _⟩ | ⟨g, cap, cur, rfl, _⟩
  · exact .inl rfl
  · exact .inr (by simp [Value.ownBlock])

def RMet (wr : World) (b : Nat) (s : ByteArray) (i : Nat) (v8 v9 : Value) (wx : World) : Prop :=
  Below wr.heap.size wr wx ∧
    ((∃ e : Nat, Lx.stepAt s.data.toList i = .error e ∧ 0 < e ∧ v9 = .int .i64 (e : Int)) ∨
     (∃ t : Lx.Tk, Lx.stepAt s.data.toList i = .ok t ∧ v9 = .int .i64 0 ∧ v8 = .int .i64 (t.ends : Int) ∧ Blk wx b 66 (cellsOf t)))

/-- what the reference's Tokens hands back -/
def RefPost (w : World) (l : List UInt8) (e : Ending) (W' : World) : Prop :=
  ∃ v, e = .returned (.tuple #[v, .int .i64 (Lx.tokAt l : Nat), .int .i64 (Lx.tokErr l : Nat)]) ∧
    W'.ownsRow w.heap.size 66 4 v (Lx.toks l).length (rowOf (Lx.toks l)) ∧ Below w.heap.size w W'

theorem info66 : (Try.prog.info? 66).map (fun i => (i.zero, i.size, i.bytes)) = some (some (.agg #[.int .i64 0, .string ⟨#[]⟩, .int .i64 0, .int .i64 0]), 4, 40) := by kernel_rfl

set_option maxHeartbeats 400000 in
theorem ref_long (s : ByteArray) (hs : s.size ≤ maxLen) (hl : 2000 < s.size) (w : World) :
    Calls Try.prog 24 #[.string s] w (RefPost w s.data.toList) := by
  have hb : 2000 < s.data.toList.length := by simpa using hl
  have H : Hid (Lx.toks s.data.toList = [] ∧ Lx.tokAt s.data.toList = 2000 ∧ Lx.tokErr s.data.toList = 4) := Lib.hid (by
    simp only [Lx.toks, Lx.tokAt, Lx.tokErr, if_pos hb, and_self])
  clear hb
  unfold maxLen at hs
  go_enter Try.func24, Try.ntmps24
  go_wp2
  go_ret3
  refine ⟨.slice none 0 0, by rw [H.out.2.1, H.out.2.2]; rfl, ?_, Below.refl _ _⟩
  rw [H.out.1]
  exact World.ownsRow_nil _ _ _ _

set_option maxRecDepth 100000 in
set_option maxHeartbeats 16000000 in
theorem ref_short (s : ByteArray) (hl : s.size ≤ 2000) (w : World) :
    Calls Try.prog 24 #[.string s] w (RefPost w s.data.toList) := by
  obtain ⟨i0, hi, hz0, hz1, hz2⟩ := info_parts info66
  have hms : s.size ≤ maxLen := by unfold maxLen; omega
  have hnl : decide ((2000 : Int) < (s.size : Int)) = false := by simp; omega
  go_enter Try.func24, Try.ntmps24
  go_wp2_with fail
  go_loopw [5, 6, 7, 8, 9] (fun v5 v6 _ _ _ wr => ∃ (i : Nat) (pre : List Lx.Tk), i ≤ s.size ∧ v6 = .int .i64 (i : Int) ∧ wr.ownsRow w.heap.size 66 4 v5 pre.length (rowOf pre) ∧ Below w.heap.size w wr ∧ pre.length ≤ i ∧
    Hid (Lx.lex s.data.toList 0 = (pre ++ (Lx.lex s.data.toList i).1, (Lx.lex s.data.toList i).2))) (fun _ v6 _ _ _ _ => s.size - (intOf v6).toNat)
  case atStart => exact ⟨0, [], Nat.zero_le _, rfl, World.ownsRow_nil _ _ _ _, Below.refl _ _, Nat.le_refl _, Lib.hid (by simp)⟩
  case round =>
    obtain ⟨i, pre, hi1, rfl, hrow, hB, hpl, HL⟩ := hrel
    have HR := Lib.hid hrow
    have HB := Lib.hid hB
    have hbs := hB.size
    clear hrow hB
    by_cases hil : i < s.size
    · have hll : i < s.data.toList.length := by simpa using hil
      have hlen : ¬ 2000 < s.data.toList.length := by simp; omega
      cases hw : Lx.white s[i]
      · go_upto_if 29 with (first | (go_at_call 33; refine (refWhite_any _ _).mono ?_; rintro e w' ⟨rfl, rfl⟩) | (go_at_call 34; refine (refLetter_any _ _).mono ?_; rintro e w' ⟨rfl, rfl⟩))
        go_cut [8, 9] (fun v8 v9 wx => RMet wr wr.heap.size s i v8 v9 wx)
        case first =>
          have hgd := getD_toList s i hil
          cases hlt : Lx.letter s[i]
          · cases hd : Lx.digit s[i]
            · cases hq : ((s[i].toNat : Int) == 34)
              · have hq' : (s[i] == 34) = false := by
                  have : ¬ (s[i].toNat : Int) = 34 := by simpa using hq
                  simp [← UInt8.toNat_inj]; omega
                have hst0 : Lx.stepAt s.data.toList i = if Lx.symLen s.data.toList i == 0 then .error 2 else .ok ⟨3, Lx.sub s.data.toList i (i + Lx.symLen s.data.toList i), 0, i, i + Lx.symLen s.data.toList i⟩ := by
                  unfold Lx.stepAt; simp only [hgd, hlt, hd, hq', Bool.false_eq_true, if_false]
                clear hgd hq'
                have hBel : ∀ wk X, Hid (Below (wr.alloc (.cells #[.int .i64 3, .string ⟨#[]⟩, .int .i64 0, .int .i64 (i : Int)] 66)).heap.size (wr.alloc (.cells #[.int .i64 3, .string ⟨#[]⟩, .int .i64 0, .int .i64 (i : Int)] 66)) wk) → Below wr.heap.size wr (wk.setCell ⟨wr.heap.size, 1, none⟩ X) := fun wk X h =>
                  (((Below.refl _ wr).alloc (Nat.le_refl _) _).trans (h.out.mono (by simp))).setCell (p := ⟨wr.heap.size, 1, none⟩) (Nat.le_refl _) X
                have HBel := Lib.hid hBel
                clear hBel
                cases hs1 : Lx.sym1 s[i]
                · by_cases htwo : (s[i] = 33 ∨ s[i] = 94) ∧ ∃ h : i + 1 < s.size, ((s[i + 1].toNat : Int) == 61) = true
                  · obtain ⟨hcc, hlt1, hd61⟩ := htwo
                    have hsl := symLen_two s i hil hs1 (by rcases hcc with h | h <;> rw [h] <;> simp) hlt1 (by simpa using hd61)
                    have HST : Hid (Lx.stepAt s.data.toList i = .ok ⟨3, Lx.sub s.data.toList i (i + 2), 0, i, i + 2⟩) := Lib.hid (by rw [hst0, hsl]; rfl)
                    have HX : Hid ((⟨#[s[i], s[i + 1]]⟩ : ByteArray) = ⟨(Lx.sub s.data.toList i (i + 2)).toArray⟩) := Lib.hid (by rw [← extract_two s i hlt1, extract_sub])
                    have HC : Hid (∀ W, Calls Try.prog 39 #[.string s, .int .i64 i] W fun e w' => e = .returned (.string ⟨#[s[i], s[i + 1]]⟩) ∧ Below W.heap.size W w') := Lib.hid (fun W => refSym_two s i hms hil hcc hlt1 hd61 W)
                    clear hst0 hs1 hcc hd61 hsl
                    go_wp2_with (first | (go_at_call 36; refine (refDigit_any _ _).mono ?_; rintro e w' ⟨rfl, rfl⟩) | (go_at_call 39; refine (HC.out _).mono ?_; rintro e wk ⟨rfl, hbk⟩; have hBk : Blk wk wr.heap.size 66 #[.int .i64 3, .string ⟨#[]⟩, .int .i64 0, .int .i64 (i : Int)] := (hbk.block _ (by simp)).trans (Blk.new wr 66 _); have c0 : wk.cell? ⟨wr.heap.size, 1, none⟩ = some (.string ⟨#[]⟩) := hBk.cell 1; have f0 := hBk.frozen 1; have hlk := hBk.lt; have HBk := Lib.hid hBk; have Hbk := Lib.hid hbk; clear hBk hbk))
                    go_meet
                    refine ⟨HBel.out _ _ Hbk, .inr ⟨_, HST.out, rfl, rfl, ?_⟩⟩
                    have h4 := HBk.out.set_ 1 (.string ⟨#[s[i], s[i + 1]]⟩)
                    rw [HX.out] at h4 ⊢
                    exact h4
                  · have hnone : (¬ s[i] = 33 ∧ ¬ s[i] = 94) ∨ s.size ≤ i + 1 ∨ ∃ h : i + 1 < s.size, ((s[i + 1].toNat : Int) == 61) = false := by
                      by_cases e1 : s[i] = 33 ∨ s[i] = 94
                      · by_cases e2 : i + 1 < s.size
                        · refine .inr (.inr ⟨e2, ?_⟩)
                          cases e3 : ((s[i + 1].toNat : Int) == 61)
                          · rfl
                          · exact absurd ⟨e1, e2, e3⟩ htwo
                        · exact .inr (.inl (by omega))
                      · exact .inl ⟨fun h => e1 (.inl h), fun h => e1 (.inr h)⟩
                    have hsl : Lx.symLen s.data.toList i = 0 := by
                      rcases hnone with ⟨a1, a2⟩ | a | ⟨a, b⟩
                      · exact symLen_none s i hil hs1 ⟨fun h => a1 (UInt8.toNat_inj.1 (by simp; omega)), fun h => a2 (UInt8.toNat_inj.1 (by simp; omega))⟩
                      · exact symLen_last s i hil hs1 a
                      · exact symLen_other s i hil hs1 a (by simpa using b)
                    have HST : Hid (Lx.stepAt s.data.toList i = .error 2) := Lib.hid (by rw [hst0, hsl]; rfl)
                    have HC : Hid (∀ W, Calls Try.prog 39 #[.string s, .int .i64 i] W fun e w' => e = .returned (.string ⟨#[]⟩) ∧ Below W.heap.size W w') := Lib.hid (fun W => refSym_none s i hms hil hs1 hnone W)
                    clear hst0 hs1 hnone hsl htwo
                    go_wp2_with (first | (go_at_call 36; refine (refDigit_any _ _).mono ?_; rintro e w' ⟨rfl, rfl⟩) | (go_at_call 39; refine (HC.out _).mono ?_; rintro e wk ⟨rfl, hbk⟩; have hBk : Blk wk wr.heap.size 66 #[.int .i64 3, .string ⟨#[]⟩, .int .i64 0, .int .i64 (i : Int)] := (hbk.block _ (by simp)).trans (Blk.new wr 66 _); have c0 : wk.cell? ⟨wr.heap.size, 1, none⟩ = some (.string ⟨#[]⟩) := hBk.cell 1; have f0 := hBk.frozen 1; have hlk := hBk.lt; have HBk := Lib.hid hBk; have Hbk := Lib.hid hbk; clear hBk hbk))
                    go_meet
                    exact ⟨HBel.out _ _ Hbk, .inl ⟨2, HST.out, by omega, rfl⟩⟩
                · have HST : Hid (Lx.stepAt s.data.toList i = .ok ⟨3, Lx.sub s.data.toList i (i + 1), 0, i, i + 1⟩) := Lib.hid (by rw [hst0, symLen_one s i hil hs1]; rfl)
                  have HX : Hid ((⟨#[s[i]]⟩ : ByteArray) = ⟨(Lx.sub s.data.toList i (i + 1)).toArray⟩) := Lib.hid (by rw [← extract_one s i hil, extract_sub])
                  have HC : Hid (∀ W, Calls Try.prog 39 #[.string s, .int .i64 i] W fun e w' => e = .returned (.string ⟨#[s[i]]⟩) ∧ Below W.heap.size W w') := Lib.hid (fun W => refSym_one s i hms hil hs1 W)
                  clear hst0 hs1
                  go_wp2_with (first | (go_at_call 36; refine (refDigit_any _ _).mono ?_; rintro e w' ⟨rfl, rfl⟩) | (go_at_call 39; refine (HC.out _).mono ?_; rintro e wk ⟨rfl, hbk⟩; have hBk : Blk wk wr.heap.size 66 #[.int .i64 3, .string ⟨#[]⟩, .int .i64 0, .int .i64 (i : Int)] := (hbk.block _ (by simp)).trans (Blk.new wr 66 _); have c0 : wk.cell? ⟨wr.heap.size, 1, none⟩ = some (.string ⟨#[]⟩) := hBk.cell 1; have f0 := hBk.frozen 1; have hlk := hBk.lt; have HBk := Lib.hid hBk; have Hbk := Lib.hid hbk; clear hBk hbk))
                  go_meet
                  refine ⟨HBel.out _ _ Hbk, .inr ⟨_, HST.out, rfl, rfl, ?_⟩⟩
                  have h4 := HBk.out.set_ 1 (.string ⟨#[s[i]]⟩)
                  rw [HX.out] at h4 ⊢
                  exact h4
              · have hq' : (s[i] == 34) = true := by
                  have : (s[i].toNat : Int) = 34 := by simpa using hq
                  simp [← UInt8.toNat_inj]; omega
                have hst0 : Lx.stepAt s.data.toList i = if s.data.toList.length ≤ Lx.stop Lx.noq s.data.toList (i + 1) then .error 2 else if (Lx.sub s.data.toList (i + 1) (Lx.stop Lx.noq s.data.toList (i + 1))).all Lx.valc then (if 16 < Lx.stop Lx.noq s.data.toList (i + 1) - (i + 1) then .error 4 else .ok ⟨2, Lx.sub s.data.toList (i + 1) (Lx.stop Lx.noq s.data.toList (i + 1)), 0, i, Lx.stop Lx.noq s.data.toList (i + 1) + 1⟩) else .error 2 := by
                  unfold Lx.stepAt; simp only [hgd, hlt, hd, hq', if_true, Bool.false_eq_true, if_false]
                have hsb : s.data.toList.length = s.size := by simp
                have hqs := Lx.stop_ge Lx.noq s.data.toList (i + 1)
                have HBel : Hid (∀ cs, Below wr.heap.size wr (wr.alloc (.cells cs 66))) := Lib.hid fun cs => (Below.refl _ wr).alloc (Nat.le_refl _) _
                clear hgd hq'
                by_cases hop : s.size ≤ Lx.stop Lx.noq s.data.toList (i + 1)
                · have HST : Hid (Lx.stepAt s.data.toList i = .error 2) := Lib.hid (by rw [hst0, if_pos (by omega)])
                  have HC : Hid (∀ W, Calls Try.prog 38 #[.string s, .int .i64 i] W fun e w' => e = .returned (.tuple #[.string ⟨#[]⟩, .int .i64 2]) ∧ W = w') := Lib.hid (fun W => quoted_open s i hms hil hop W)
                  clear hst0 hop hqs hsb
                  go_wp2_with (first | (go_at_call 36; refine (refDigit_any _ _).mono ?_; rintro e w' ⟨rfl, rfl⟩) | (go_at_call 38; refine (HC.out _).mono ?_; rintro e wk ⟨rfl, rfl⟩))
                  go_meet
                  exact ⟨HBel.out _, .inl ⟨2, HST.out, by omega, rfl⟩⟩
                · rw [if_neg (by omega)] at hst0
                  obtain ⟨q, HQ⟩ : ∃ q, Hid (Lx.stop Lx.noq s.data.toList (i + 1) = q) := ⟨_, Lib.hid rfl⟩
                  obtain ⟨tx, HT⟩ : ∃ tx, Hid (s.extract (i + 1) q = tx) := ⟨_, Lib.hid rfl⟩
                  have hT1 : tx = ⟨(Lx.sub s.data.toList (i + 1) q).toArray⟩ := by rw [← HT.out, extract_sub]
                  have hT2 : Lx.sub s.data.toList (i + 1) q = tx.data.toList := by rw [hT1]
                  have hT3 : tx.size = q - (i + 1) := by rw [← HT.out]; have := HQ.out; simp; omega
                  rw [HQ.out, hT2] at hst0
                  have hqlt : q < s.size := by rw [← HQ.out]; omega
                  have hqge : i + 1 ≤ q := by rw [← HQ.out]; exact hqs
                  have hC0 := quoted_bad s i hms hil (by omega)
                  have hC1 := quoted_long s i hms hil (by omega)
                  have hC2 := quoted_good s i hms hil (by omega)
                  rw [HQ.out, HT.out] at hC0 hC1 hC2
                  have HT1 := Lib.hid hT1
                  clear hT1 hop hqs hsb
                  cases hall : tx.data.toList.all Lx.valc
                  · have HST : Hid (Lx.stepAt s.data.toList i = .error 2) := Lib.hid (by rw [hst0, hall]; rfl)
                    have HC := Lib.hid (hC0 hall)
                    clear hst0 hC0 hC1 hC2 hT2 hall
                    go_wp2_with (first | (go_at_call 36; refine (refDigit_any _ _).mono ?_; rintro e w' ⟨rfl, rfl⟩) | (go_at_call 38; refine (HC.out _).mono ?_; rintro e wk ⟨rfl, rfl⟩))
                    go_meet
                    exact ⟨HBel.out _, .inl ⟨2, HST.out, by omega, rfl⟩⟩
                  · by_cases h16 : 16 < q - (i + 1)
                    · have HST : Hid (Lx.stepAt s.data.toList i = .error 4) := Lib.hid (by rw [hst0, hall, if_pos rfl, if_pos h16])
                      have HC := Lib.hid (hC1 hall h16)
                      clear hst0 hC0 hC1 hC2 hT2 hall
                      go_wp2_with (first | (go_at_call 36; refine (refDigit_any _ _).mono ?_; rintro e w' ⟨rfl, rfl⟩) | (go_at_call 38; refine (HC.out _).mono ?_; rintro e wk ⟨rfl, rfl⟩))
                      go_meet
                      exact ⟨HBel.out _, .inl ⟨4, HST.out, by omega, rfl⟩⟩
                    · have HST : Hid (Lx.stepAt s.data.toList i = .ok ⟨2, tx.data.toList, 0, i, q + 1⟩) := Lib.hid (by rw [hst0, hall, if_pos rfl, if_neg h16])
                      have HC := Lib.hid (hC2 hall (by omega))
                      have HZ := Lib.hid hT3
                      have hzb : tx.size ≤ 2000 := by omega
                      clear hst0 hC0 hC1 hC2 hT2 hT3 hall
                      go_wp2_with (first | (go_at_call 36; refine (refDigit_any _ _).mono ?_; rintro e w' ⟨rfl, rfl⟩) | (go_at_call 38; refine (HC.out _).mono ?_; rintro e wk ⟨rfl, rfl⟩))
                      go_meet
                      exact ⟨HBel.out _, .inr ⟨_, HST.out, rfl, int_eq (by have := HZ.out; simp; omega), Blk.new wr 66 _⟩⟩
            · have HST : Hid (Lx.stepAt s.data.toList i = if 1073741824 < Lx.numv (Lx.sub s.data.toList i (Lx.stop Lx.digit s.data.toList i)) then .error 5 else .ok ⟨1, Lx.sub s.data.toList i (Lx.stop Lx.digit s.data.toList i), Lx.numv (Lx.sub s.data.toList i (Lx.stop Lx.digit s.data.toList i)), i, Lx.stop Lx.digit s.data.toList i⟩) := Lib.hid (by
                unfold Lx.stepAt; simp only [hgd, hlt, hd, if_true, Bool.false_eq_true, if_false])
              have HBel : Hid (∀ cs, Below wr.heap.size wr (wr.alloc (.cells cs 66))) := Lib.hid fun cs => (Below.refl _ wr).alloc (Nat.le_refl _) _
              have c1 := Lx.stop_ge Lx.digit s.data.toList i
              have c2 := Lx.stop_le Lx.digit s.data.toList i (by simpa using hi1)
              rw [show s.data.toList.length = s.size by simp] at c2
              have HC := fun W => Lib.hid (refNumber_any s i hms hi1 W)
              have HX := Lib.hid (extract_sub s i (Lx.stop Lx.digit s.data.toList i))
              generalize Lx.numv (Lx.sub s.data.toList i (Lx.stop Lx.digit s.data.toList i)) = nv at *
              generalize Lx.stop Lx.digit s.data.toList i = e1 at *
              clear hgd
              by_cases hc : 1073741824 < nv
              · go_wp2_with (first | (go_at_call 36; refine (refDigit_any _ _).mono ?_; rintro e w' ⟨rfl, rfl⟩) | (go_at_call 37; refine (HC _).out.mono ?_; rintro e wk ⟨rfl, rfl⟩))
                go_meet
                exact ⟨HBel.out _, .inl ⟨5, by rw [HST.out, if_pos hc], by omega, rfl⟩⟩
              · go_wp2_with (first | (go_at_call 36; refine (refDigit_any _ _).mono ?_; rintro e w' ⟨rfl, rfl⟩) | (go_at_call 37; refine (HC _).out.mono ?_; rintro e wk ⟨rfl, rfl⟩))
                go_meet
                refine ⟨HBel.out _, .inr ⟨_, by rw [HST.out, if_neg hc], rfl, rfl, ?_⟩⟩
                rw [HX.out]
                exact Blk.new wr 66 _
          · have HST : Hid (Lx.stepAt s.data.toList i = if 16 < Lx.stop Lx.wordc s.data.toList i - i then .error 4 else .ok ⟨0, Lx.sub s.data.toList i (Lx.stop Lx.wordc s.data.toList i), 0, i, Lx.stop Lx.wordc s.data.toList i⟩) := Lib.hid (by
              unfold Lx.stepAt; simp only [hgd, hlt, if_true])
            have HBel : Hid (∀ cs, Below wr.heap.size wr (wr.alloc (.cells cs 66))) := Lib.hid fun cs => (Below.refl _ wr).alloc (Nat.le_refl _) _
            have c1 := Lx.stop_ge Lx.wordc s.data.toList i
            have c2 := Lx.stop_le Lx.wordc s.data.toList i (by simpa using hi1)
            rw [show s.data.toList.length = s.size by simp] at c2
            have HC := fun W => Lib.hid (refWord_any s i hms hi1 W)
            have HX := Lib.hid (extract_sub s i (Lx.stop Lx.wordc s.data.toList i))
            generalize Lx.stop Lx.wordc s.data.toList i = e1 at *
            clear hgd
            by_cases hc : 16 < e1 - i
            · go_wp2_with (go_at_call 35; refine (HC _).out.mono ?_; rintro e wk ⟨rfl, rfl⟩)
              go_meet
              exact ⟨HBel.out _, .inl ⟨4, by rw [HST.out, if_pos hc], by omega, rfl⟩⟩
            · go_wp2_with (go_at_call 35; refine (HC _).out.mono ?_; rintro e wk ⟨rfl, rfl⟩)
              go_meet
              refine ⟨HBel.out _, .inr ⟨_, by rw [HST.out, if_neg hc], rfl, rfl, ?_⟩⟩
              rw [HX.out]
              exact Blk.new wr 66 _
        case rest =>
          obtain ⟨hbx, hcase⟩ := hcut
          have HBx : Hid (Below w.heap.size w wc) := Lib.hid (HB.out.trans (hbx.mono hbs))
          rcases hcase with ⟨e, hst, he, rfl⟩ | ⟨t, hst, rfl, rfl, hblk⟩
          · have hne : ((e : Int) != 0) = true := by simp; omega
            have HT : Hid (Lx.toks s.data.toList = [] ∧ Lx.tokAt s.data.toList = i ∧ Lx.tokErr s.data.toList = e) := Lib.hid (by
              have h1 := HL.out
              rw [Lx.lex_err _ _ hll hw e hst] at h1
              simp only [Lx.toks, Lx.tokAt, Lx.tokErr, if_neg hlen, h1, and_self])
            clear hbx hst
            go_wp2_with fail
            go_ret3
            refine ⟨.slice none 0 0, by rw [HT.out.2.1, HT.out.2.2]; rfl, ?_, HBx.out⟩
            rw [HT.out.1]
            exact World.ownsRow_nil _ _ _ _
          · have k0 : wc.cell? ⟨wr.heap.size, 0, none⟩ = some (.int .i64 (t.kind : Int)) := hblk.cell 0
            have k1 : wc.cell? ⟨wr.heap.size, 1, none⟩ = some (.string ⟨t.text.toArray⟩) := hblk.cell 1
            have k2 : wc.cell? ⟨wr.heap.size, 2, none⟩ = some (.int .i64 (t.n : Int)) := hblk.cell 2
            have k3 : wc.cell? ⟨wr.heap.size, 3, none⟩ = some (.int .i64 (t.at_ : Int)) := hblk.cell 3
            have hrc : wc.ownsRow w.heap.size 66 4 u5 pre.length (rowOf pre) := own_below HR.out hbx
            have hlen2 := Lx.stepAt_ends hll hst
            rw [show s.data.toList.length = s.size by simp] at hlen2
            obtain ⟨e1, e2, -⟩ := hlen2
            have HT := Lib.hid (Lx.lex_tok _ _ hll hw t hst)
            have hsz := HBx.out.size
            have HRC := Lib.hid hrc
            clear hst hblk hbx hrc
            go_wp2_with (at_builtin; refine wpList_append_own _ rfl _ _ 44 rfl w.heap.size 66 i0 _ 4 40 Try.underlying44 hi hz0 hz1 hz2 rfl (by decide) _ _ _ rfl (HRC.out.alloc _) ⟨wc.heap.size, 0, none⟩ 1 1 [.int .i64 (t.kind : Int), .string ⟨t.text.toArray⟩, .int .i64 (t.n : Int), .int .i64 (t.at_ : Int)] rfl rfl (cell_four_new _ _ _ _ _ _) (by simp [Value.oneCell']) (by unfold maxLen; omega) (by omega) (by simp; omega) ?_; intro v' w1 hown' hgrow _; have HO := Lib.hid hown'; have HG := Lib.hid hgrow; clear hown' hgrow)
            go_roundw
            case rel =>
              refine ⟨t.ends, pre ++ [t], by omega, rfl, ?_, ?_, by simp; omega, Lib.hid (by rw [HL.out, HT.out]; simp)⟩
              · have e1 : (pre ++ [t]).length = pre.length + 1 := by simp
                have e2 : rowOf (pre ++ [t]) = rowOf pre ++ (cellsOf t).toList := by simp [rowOf]
                rw [e1, e2]
                exact HO.out
              · refine (HBx.out.alloc HBx.out.size _).grown HG.out (by simp; omega) (fun j e => (own_lt HRC.out j e).1)
            case measure => simp [intOf]; omega
      · have H2 := Lib.hid (Lx.lex_white s.data.toList i hll hw)
        go_wp2_with (go_at_call 33; refine (refWhite_any _ _).mono ?_; rintro e w' ⟨rfl, rfl⟩)
        go_roundw
        case rel => exact ⟨i + 1, pre, by omega, by go_num, HR.out, HB.out, by omega, Lib.hid (by rw [HL.out, H2.out])⟩
        case measure => simp [intOf]; omega
    · have hlen : ¬ 2000 < s.data.toList.length := by simp; omega
      have HT : Hid (Lx.toks s.data.toList = pre ∧ Lx.tokAt s.data.toList = 0 ∧ Lx.tokErr s.data.toList = 0) := Lib.hid (by
        have h1 := HL.out
        rw [Lx.lex_end s.data.toList i (by simp; omega)] at h1
        simp only [List.append_nil] at h1
        simp only [Lx.toks, Lx.tokAt, Lx.tokErr, if_neg hlen, h1, and_self])
      clear hlen
      go_wp2_with fail
      go_ret3
      exact ⟨u5, by rw [HT.out.2.1, HT.out.2.2]; rfl, by rw [HT.out.1]; exact HR.out, HB.out⟩

theorem ref_any (s : ByteArray) (hs : s.size ≤ maxLen) (w : World) : Calls Try.prog 24 #[.string s] w (RefPost w s.data.toList) := by
  by_cases h : 2000 < s.size
  · exact ref_long s hs h w
  · exact ref_short s (by omega) w

end Go.Proofs.Ytdmgacoemabcfaa
