/- The walk of each, the iterator that yields the tokens, at any caller that keeps its word. -/
import Derived.Test.YtdmgacoemabcfaaDoorA4
import Derived.Deep.DeepCutAuto
import Derived.Deep.CutBlock
import Derived.RangeFuncNested
import Derived.OwnWalkIn
import Derived.TacticsInMore
import Derived.LoopNIn
import Derived.LoopIn
namespace Go.Proofs.YtdmgacoemabcfaaDoor
open Go.RowKit
def atOf (w : World) (Q : Nat) : Nat := match w.cell? ⟨Q, 1, none⟩ with | some (.int _ n) => n.toNat | _ => 0
theorem Src.atOf {w : World} {Q : Nat} {s : ByteArray} {i e : Nat} (h : Src w Q s i e) : atOf w Q = i := by
  have : w.cell? ⟨Q, 1, none⟩ = some (.int .i64 (i : Int)) := Blk.cell h 1
  simp [YtdmgacoemabcfaaDoor.atOf, this]

def cellsOf (t : Lx.Tk) : Array Value := #[.int .i64 (t.kind : Int), .string ⟨t.text.toArray⟩, .int .i64 (t.n : Int), .int .i64 (t.at_ : Int)]

/-- where the switch's ways meet: the local t's block b holds the token, or the source bears an error -/
def Met (wr : World) (Q b : Nat) (s : ByteArray) (i : Nat) (v5 : Value) (wx : World) : Prop :=
  wr.grownBy wx (some Q) ∧ ∃ sz : Nat, v5 = .int .i64 (sz : Int) ∧
    ((∃ e k x n a, Lx.stepAt s.data.toList i = .error e ∧ 0 < e ∧ Src wx Q s i e ∧ Blk wx b 33 #[.int .i64 k, .string x, .int .i64 n, .int .i64 a]) ∨
     (∃ t, Lx.stepAt s.data.toList i = .ok t ∧ i + sz + t.text.length = t.ends ∧ Src wx Q s i 0 ∧ Blk wx b 33 (cellsOf t)))

def Done (s : ByteArray) (Q : Nat) (J : List Lx.Tk → World → Prop) (W : World) : Prop :=
  J (Lx.lex s.data.toList 0).1 W ∧ (match (Lx.lex s.data.toList 0).2 with | none => Src W Q s s.size 0 | some x => Src W Q s x.1 x.2)

def Head (s : ByteArray) (Q : Nat) (J : List Lx.Tk → World → Prop) (wr : World) : Prop :=
  ∃ (i : Nat) (pre : List Lx.Tk), i ≤ s.size ∧ Src wr Q s i 0 ∧ J pre wr ∧ pre.length ≤ i ∧
    Lx.lex s.data.toList 0 = (pre ++ (Lx.lex s.data.toList i).1, (Lx.lex s.data.toList i).2)

theorem zero_facts {w : World} {b : Nat} {v0 v1 v2 v3 : Value} (h : Blk w b 33 #[v0, v1, v2, v3]) :
    (w.cell? ⟨b, 0, none⟩ = some v0 ∧ w.cell? ⟨b, 1, none⟩ = some v1 ∧ w.cell? ⟨b, 2, none⟩ = some v2 ∧ w.cell? ⟨b, 3, none⟩ = some v3) ∧
    (w.frozen? ⟨b, 0, none⟩ = false ∧ w.frozen? ⟨b, 1, none⟩ = false ∧ w.frozen? ⟨b, 2, none⟩ = false ∧ w.frozen? ⟨b, 3, none⟩ = false) :=
  ⟨⟨h.cell 0, h.cell 1, h.cell 2, h.cell 3⟩, h.frozen 0, h.frozen 1, h.frozen 2, h.frozen 3⟩

/-- what storing a token into the local's block leaves -/
theorem stored4 {w1 wk : World} {Q nq : Nat} {s : ByteArray} {i e : Nat} {o : Obj} {z0 z1 z2 z3 : Value} (hlt : Q < w1.heap.size)
    (hg : ((w1.alloc o).drewN nq).grownBy wk (some Q)) (hS : Src wk Q s i e) (hB : Blk wk w1.heap.size 33 #[z0, z1, z2, z3]) (v0 v1 v2 v3 : Value) :
    w1.grownBy ((((wk.setCell ⟨w1.heap.size, 0, none⟩ v0).setCell ⟨w1.heap.size, 1, none⟩ v1).setCell ⟨w1.heap.size, 2, none⟩ v2).setCell ⟨w1.heap.size, 3, none⟩ v3) (some Q) ∧
    Src ((((wk.setCell ⟨w1.heap.size, 0, none⟩ v0).setCell ⟨w1.heap.size, 1, none⟩ v1).setCell ⟨w1.heap.size, 2, none⟩ v2).setCell ⟨w1.heap.size, 3, none⟩ v3) Q s i e ∧
    Blk ((((wk.setCell ⟨w1.heap.size, 0, none⟩ v0).setCell ⟨w1.heap.size, 1, none⟩ v1).setCell ⟨w1.heap.size, 2, none⟩ v2).setCell ⟨w1.heap.size, 3, none⟩ v3) w1.heap.size 33 #[v0, v1, v2, v3] := by
  have hg1 : w1.grownBy wk (some Q) := World.grownBy.trans (only_drewN (only_alloc (only_refl w1 _) o) nq) hg
  refine ⟨?_, ?_, ?_⟩
  · exact only_setCell (only_setCell (only_setCell (only_setCell hg1 (.inr (Nat.le_refl _)) _) (.inr (Nat.le_refl _)) _) (.inr (Nat.le_refl _)) _) (.inr (Nat.le_refl _)) _
  · exact (((hS.far (Nat.ne_of_lt hlt) _).far (Nat.ne_of_lt hlt) _).far (Nat.ne_of_lt hlt) _).far (Nat.ne_of_lt hlt) _
  · exact (((hB.set_ 0 v0).set_ 1 v1).set_ 2 v2).set_ 3 v3

theorem extract_sub (s : ByteArray) (a b : Nat) : s.extract a b = ⟨(Lx.sub s.data.toList a b).toArray⟩ := by
  have h := Lib.extract_data s a b
  generalize s.extract a b = x at *
  obtain ⟨⟨l⟩⟩ := x
  simp only at h
  rw [h]
  rfl

theorem getD_toList (s : ByteArray) (i : Nat) (h : i < s.size) : s.data.toList.getD i 0 = s[i] := by
  have hl : i < s.data.toList.length := by simpa using h
  rw [List.getD_eq_getElem?_getD, List.getElem?_eq_getElem hl]
  rfl

theorem textPost_bad {f : Nat} {args : Array Value} {W : World} {Q : Nat} {s tx : ByteArray} {i m : Nat} (hall : tx.data.toList.all Lx.valc = false) (h : Calls Tryd.prog f args W (TextPost W Q s tx i m)) :
    Calls Tryd.prog f args W fun e w' => e = .returned (tokVal 0 ⟨#[]⟩ 0 0) ∧ Left W Q s i 2 w' := h.mono fun e w' hp => by
  rcases hp with ⟨_, h1, h2⟩ | ⟨h0, _⟩ | ⟨h0, _⟩
  · exact ⟨h1, h2⟩
  · rw [hall] at h0; cases h0
  · rw [hall] at h0; cases h0
theorem textPost_long {f : Nat} {args : Array Value} {W : World} {Q : Nat} {s tx : ByteArray} {i m : Nat} (hall : tx.data.toList.all Lx.valc = true) (hm : 16 < m) (h : Calls Tryd.prog f args W (TextPost W Q s tx i m)) :
    Calls Tryd.prog f args W fun e w' => e = .returned (tokVal 2 tx 0 i) ∧ Left W Q s i 4 w' := h.mono fun e w' hp => by
  rcases hp with ⟨h0, _⟩ | ⟨_, _, h1, h2⟩ | ⟨_, h0, _⟩
  · rw [hall] at h0; cases h0
  · exact ⟨h1, h2⟩
  · omega
theorem textPost_good {f : Nat} {args : Array Value} {W : World} {Q : Nat} {s tx : ByteArray} {i m : Nat} (hall : tx.data.toList.all Lx.valc = true) (hm : m ≤ 16) (h : Calls Tryd.prog f args W (TextPost W Q s tx i m)) :
    Calls Tryd.prog f args W fun e w' => e = .returned (tokVal 2 tx 0 i) ∧ Left W Q s i 0 w' := h.mono fun e w' hp => by
  rcases hp with ⟨h0, _⟩ | ⟨_, h0, _⟩ | ⟨_, _, h1, h2⟩
  · rw [hall] at h0; cases h0
  · omega
  · exact ⟨h1, h2⟩

theorem white_not (c : UInt8) (h : Lx.white c = false) : ((c.toNat : Int) == 9) = false ∧ ((c.toNat : Int) == 10) = false ∧ ((c.toNat : Int) == 13) = false ∧ ((c.toNat : Int) == 32) = false := by
  unfold Lx.white at h
  simp only [Bool.or_eq_false_iff, beq_eq_false_iff_ne, ne_eq, ← UInt8.toNat_inj] at h
  simp at h
  simp
  omega

theorem sub_length (l : List UInt8) (a b : Nat) (h1 : a ≤ b) (h2 : b ≤ l.length) : (Lx.sub l a b).length = b - a := by
  unfold Lx.sub
  simp
  omega

theorem sym1_cases (c : UInt8) (h : Lx.sym1 c = true) : (c.toNat : Int) = 43 ∨ (c.toNat : Int) = 45 ∨ (c.toNat : Int) = 42 ∨ (c.toNat : Int) = 47 ∨ (c.toNat : Int) = 40 ∨ (c.toNat : Int) = 41 ∨ (c.toNat : Int) = 123 ∨ (c.toNat : Int) = 125 ∨ (c.toNat : Int) = 44 ∨ (c.toNat : Int) = 46 ∨ (c.toNat : Int) = 64 ∨ (c.toNat : Int) = 61 := by
  unfold Lx.sym1 at h
  simp only [Bool.or_eq_true, beq_iff_eq, ← UInt8.toNat_inj] at h
  simp at h
  omega
theorem sym1_not (c : UInt8) (h : Lx.sym1 c = false) : ((c.toNat : Int) == 43) = false ∧ ((c.toNat : Int) == 45) = false ∧ ((c.toNat : Int) == 42) = false ∧ ((c.toNat : Int) == 47) = false ∧ ((c.toNat : Int) == 40) = false ∧ ((c.toNat : Int) == 41) = false ∧ ((c.toNat : Int) == 123) = false ∧ ((c.toNat : Int) == 125) = false ∧ ((c.toNat : Int) == 44) = false ∧ ((c.toNat : Int) == 46) = false ∧ ((c.toNat : Int) == 64) = false ∧ ((c.toNat : Int) == 61) = false := by
  unfold Lx.sym1 at h
  simp only [Bool.or_eq_false_iff, beq_eq_false_iff_ne, ne_eq, ← UInt8.toNat_inj] at h
  simp at h
  simp
  omega
theorem symLen_one (s : ByteArray) (i : Nat) (hi : i < s.size) (h : Lx.sym1 s[i] = true) : Lx.symLen s.data.toList i = 1 := by
  unfold Lx.symLen
  rw [getD_toList s i hi, if_pos h]
theorem symLen_two (s : ByteArray) (i : Nat) (hi : i < s.size) (h : Lx.sym1 s[i] = false) (hc : (s[i].toNat : Int) = 33 ∨ (s[i].toNat : Int) = 94) (hi1 : i + 1 < s.size) (hd : (s[i + 1].toNat : Int) = 61) : Lx.symLen s.data.toList i = 2 := by
  unfold Lx.symLen
  rw [getD_toList s i hi, getD_toList s (i + 1) hi1, if_neg (by simp [h]), if_pos]
  simp only [Bool.and_eq_true, Bool.or_eq_true, beq_iff_eq, decide_eq_true_eq, ← UInt8.toNat_inj]
  simp
  omega
theorem symLen_last (s : ByteArray) (i : Nat) (hi : i < s.size) (h : Lx.sym1 s[i] = false) (hi1 : s.size ≤ i + 1) : Lx.symLen s.data.toList i = 0 := by
  unfold Lx.symLen
  rw [getD_toList s i hi, if_neg (by simp [h]), if_neg]
  simp
  omega
theorem symLen_other (s : ByteArray) (i : Nat) (hi : i < s.size) (h : Lx.sym1 s[i] = false) (hi1 : i + 1 < s.size) (hd : (s[i + 1].toNat : Int) ≠ 61) : Lx.symLen s.data.toList i = 0 := by
  unfold Lx.symLen
  rw [getD_toList s i hi, getD_toList s (i + 1) hi1, if_neg (by simp [h]), if_neg]
  simp only [Bool.and_eq_true, Bool.or_eq_true, beq_iff_eq, decide_eq_true_eq, ← UInt8.toNat_inj]
  simp
  omega
theorem symLen_none (s : ByteArray) (i : Nat) (hi : i < s.size) (h : Lx.sym1 s[i] = false) (hc : (s[i].toNat : Int) ≠ 33 ∧ (s[i].toNat : Int) ≠ 94) : Lx.symLen s.data.toList i = 0 := by
  unfold Lx.symLen
  rw [getD_toList s i hi, if_neg (by simp [h]), if_neg]
  simp only [Bool.and_eq_true, Bool.or_eq_true, beq_iff_eq, decide_eq_true_eq, ← UInt8.toNat_inj]
  simp
  omega

theorem white_cases (c : UInt8) (h : Lx.white c = true) : (c.toNat : Int) = 9 ∨ (c.toNat : Int) = 10 ∨ (c.toNat : Int) = 13 ∨ (c.toNat : Int) = 32 := by
  unfold Lx.white at h
  simp only [Bool.or_eq_true, beq_iff_eq] at h
  rcases h with ((h | h) | h) | h <;> subst h <;> decide

set_option maxRecDepth 100000 in
set_option maxHeartbeats 16000000 in
theorem each_in (n l Q : Nat) (s : ByteArray) (hs : s.size ≤ 2000) (J : List Lx.Tk → World → Prop)
    (hJ : Hid (∀ pre W W', J pre W → W.grownBy W' (some Q) → J pre W'))
    (hY : Hid (∀ pre t W0 W i, J pre W0 → W0.grownBy W (some Q) → Src W Q s i 0 → pre.length < s.size → YieldAt Fence.wide n Tryd.prog l #[.agg (cellsOf t)] W fun e W' =>
      e = .returned (.bool true) ∧ J (pre ++ [t]) W' ∧ Below (Q + 1) W W' ∧ ∀ b, W0.heap.size ≤ b → b < W.heap.size → W'.heap[b]? = W.heap[b]?))
    (W : World) (hQ : Src W Q s 0 0) (hJ0 : J [] W) :
    Calls Tryd.prog 13 #[.pointer (some ⟨Q, 0, none⟩), .func (.yield l) #[] #[]] W fun e W' => (∃ v, e = .returned v) ∧ Done s Q J W' := by
  have hst : Head s Q J W := ⟨0, [], Nat.zero_le _, hQ, hJ0, Nat.le_refl _, by simp⟩
  clear hQ hJ0
  go_enter Tryd.func13, Tryd.ntmps13
  go_wp2_with fail
  go_loopw [4, 5, 6] (fun _ _ _ wr => Head s Q J wr) (fun _ _ _ wr => s.size - atOf wr Q)
  case atStart => exact hst
  case round =>
    obtain ⟨i, pre, hi, hS, hJp, hpl, hlex⟩ := hrel
    have h0 : wr.cell? ⟨Q, 0, none⟩ = some (.string s) := hS.cell 0
    have h1 : wr.cell? ⟨Q, 1, none⟩ = some (.int .i64 (i : Int)) := hS.cell 1
    have h2 : wr.cell? ⟨Q, 2, none⟩ = some (.int .i64 (0 : Nat)) := hS.cell 2
    have hlt := hS.lt
    have HS := Lib.hid hS
    have HL := Lib.hid hlex
    have HJp := Lib.hid hJp
    clear hS hlex hJp hst
    by_cases hil : i < s.size
    · have hll : i < s.data.toList.length := by simpa using hil
      have hiI : (i : Int) < (s.size : Int) := by omega
      cases hw : Lx.white s[i]
      · go_wp2_with fail
        go_quiet (fail)
        have HS1 : Hid (Src (wr.drewN nq) Q s i 0) := Lib.hid (HS.out.drewN nq)
        have HJ1 : Hid (J pre (wr.drewN nq)) := Lib.hid (hJ.out pre wr _ HJp.out (only_drewN (only_refl _ _) nq))
        have HA : Hid (s.size - atOf wr Q = s.size - i) := Lib.hid (by rw [HS.out.atOf])
        have g0 : (wr.drewN nq).cell? ⟨Q, 0, none⟩ = some (.string s) := h0
        have g1 : (wr.drewN nq).cell? ⟨Q, 1, none⟩ = some (.int .i64 (i : Int)) := h1
        have g2 : (wr.drewN nq).cell? ⟨Q, 2, none⟩ = some (.int .i64 (0 : Nat)) := h2
        have glt : Q < (wr.drewN nq).heap.size := hlt
        clear h0 h1 h2 hlt HS HJp
        generalize wr.drewN nq = w1 at *
        go_wp2_with fail
        go_quiet (fail)
        go_upto_block 2 with fail
        go_cut [5] (fun v5 wx => Met w1 Q w1.heap.size s i v5 wx)
        case first =>
          obtain ⟨n9, n10, n13, n32⟩ := white_not _ hw
          have HSa : Hid (∀ k, Src ((w1.alloc (.cells #[.int .i64 0, .string ⟨#[]⟩, .int .i64 0, .int .i64 0] 33)).drewN k) Q s i 0) := Lib.hid (fun k => (HS1.out.alloc _).drewN k)
          have HBa : Hid (∀ k, Blk ((w1.alloc (.cells #[.int .i64 0, .string ⟨#[]⟩, .int .i64 0, .int .i64 0] 33)).drewN k) w1.heap.size 33 #[.int .i64 0, .string ⟨#[]⟩, .int .i64 0, .int .i64 0]) := Lib.hid (fun k => (Blk.new w1 33 _).drewN k)
          have hQb : some w1.heap.size ≠ some Q := by simp; omega
          have hms : s.size ≤ maxLen := by unfold maxLen; omega
          have hgd := getD_toList s i hil
          cases hl : Lx.letter s[i]
          · cases hd : Lx.digit s[i]
            · cases hq : ((s[i].toNat : Int) == 34)
              · have hq' : (s[i] == 34) = false := by
                  have : ¬ (s[i].toNat : Int) = 34 := by simpa using hq
                  simp [← UInt8.toNat_inj]; omega
                have hst0 : Lx.stepAt s.data.toList i = if Lx.symLen s.data.toList i == 0 then .error 2 else .ok ⟨3, Lx.sub s.data.toList i (i + Lx.symLen s.data.toList i), 0, i, i + Lx.symLen s.data.toList i⟩ := by
                  unfold Lx.stepAt; simp only [hgd, hl, hd, hq', Bool.false_eq_true, if_false]
                clear hgd hq'
                cases hs1 : Lx.sym1 s[i]
                · have hn := sym1_not _ hs1
                  obtain ⟨m43, m45, m42, m47, m40, m41, m123, m125, m44, m46, m64, m61⟩ := hn
                  cases h33 : ((s[i].toNat : Int) == 33)
                  · cases h94 : ((s[i].toNat : Int) == 94)
                    · have HST : Hid (Lx.stepAt s.data.toList i = .error 2) := Lib.hid (by rw [hst0, symLen_none s i hil hs1 ⟨by simpa using h33, by simpa using h94⟩]; rfl)
                      have HC : Hid (∀ W, Src W Q s i 0 → Calls Tryd.prog 20 #[.pointer (some ⟨Q, 0, none⟩)] W fun e w' => e = .returned (tokVal 3 (s.extract i (i + 0)) 0 i) ∧ Left W Q s i 2 w') := Lib.hid (fun W hW => symbol_none Q s i hms hil W hW m43 m45 m42 m47 m40 m41 m123 m125 m44 m46 m64 m61 h33 h94)
                      clear hst0 hs1 m43 m45 m42 m47 m40 m41 m123 m125 m44 m46 m64 m61
                      go_wp2_with (first | (go_at_call 15; refine (letter_any _ _).mono ?_; rintro e w' ⟨rfl, rfl⟩) | (go_at_call 17; refine (digit_any _ _).mono ?_; rintro e w' ⟨rfl, rfl⟩) | (go_at_call 20; refine (HC.out _ (by exact HSa.out _)).mono ?_; rintro e wk ⟨rfl, hgk, hSk⟩; have HGk := Lib.hid hgk; have HSk := Lib.hid hSk; have hBk := (HBa.out _).grown hgk hQb; have HBk := Lib.hid hBk; obtain ⟨⟨z0, z1, z2, z3⟩, f0, f1, f2, f3⟩ := zero_facts hBk; clear hgk hSk hBk; unfold tokVal))
                      go_meet
                      have h4 := stored4 glt HGk.out HSk.out HBk.out
                      exact ⟨(h4 _ _ _ _).1, 0, rfl, .inl ⟨2, _, _, _, _, HST.out, by omega, (h4 _ _ _ _).2.1, (h4 _ _ _ _).2.2⟩⟩
                    · have hcc : (s[i].toNat : Int) = 33 ∨ (s[i].toNat : Int) = 94 := by simp at h94; omega
                      by_cases hi1 : i + 1 < s.size
                      · by_cases hd2 : (s[i + 1].toNat : Int) = 61
                        · have HST : Hid (Lx.stepAt s.data.toList i = .ok ⟨3, Lx.sub s.data.toList i (i + 2), 0, i, i + 2⟩) := Lib.hid (by rw [hst0, symLen_two s i hil hs1 hcc hi1 hd2]; rfl)
                          have HC : Hid (∀ W, Src W Q s i 0 → Calls Tryd.prog 20 #[.pointer (some ⟨Q, 0, none⟩)] W fun e w' => e = .returned (tokVal 3 (s.extract i (i + 2)) 0 i) ∧ Left W Q s i 0 w') := Lib.hid (fun W hW => symbol_two Q s i hms hil W hW _ rfl hcc hi1 hd2)
                          clear hst0 hs1 hcc hd2 m43 m45 m42 m47 m40 m41 m123 m125 m44 m46 m64 m61
                          go_wp2_with (first | (go_at_call 15; refine (letter_any _ _).mono ?_; rintro e w' ⟨rfl, rfl⟩) | (go_at_call 17; refine (digit_any _ _).mono ?_; rintro e w' ⟨rfl, rfl⟩) | (go_at_call 20; refine (HC.out _ (by exact HSa.out _)).mono ?_; rintro e wk ⟨rfl, hgk, hSk⟩; have HGk := Lib.hid hgk; have HSk := Lib.hid hSk; have hBk := (HBa.out _).grown hgk hQb; have HBk := Lib.hid hBk; obtain ⟨⟨z0, z1, z2, z3⟩, f0, f1, f2, f3⟩ := zero_facts hBk; clear hgk hSk hBk; unfold tokVal))
                          go_meet
                          have h4 := stored4 glt HGk.out HSk.out HBk.out (.int .i64 (3 : Nat)) (.string (s.extract i (i + 2))) (.int .i64 (0 : Nat)) (.int .i64 (i : Nat))
                          refine ⟨h4.1, 0, rfl, .inr ⟨_, HST.out, by dsimp only; rw [sub_length _ _ _ (by omega) (by simp; omega)]; omega, h4.2.1, ?_⟩⟩
                          have := h4.2.2
                          rw [extract_sub] at this ⊢
                          exact this
                        · have HST : Hid (Lx.stepAt s.data.toList i = .error 2) := Lib.hid (by rw [hst0, symLen_other s i hil hs1 hi1 hd2]; rfl)
                          have HC : Hid (∀ W, Src W Q s i 0 → Calls Tryd.prog 20 #[.pointer (some ⟨Q, 0, none⟩)] W fun e w' => e = .returned (tokVal 3 (s.extract i (i + 0)) 0 i) ∧ Left W Q s i 2 w') := Lib.hid (fun W hW => symbol_other Q s i hms hil W hW _ rfl hcc hi1 _ rfl (by simpa using hd2))
                          clear hst0 hs1 hcc hd2 m43 m45 m42 m47 m40 m41 m123 m125 m44 m46 m64 m61
                          go_wp2_with (first | (go_at_call 15; refine (letter_any _ _).mono ?_; rintro e w' ⟨rfl, rfl⟩) | (go_at_call 17; refine (digit_any _ _).mono ?_; rintro e w' ⟨rfl, rfl⟩) | (go_at_call 20; refine (HC.out _ (by exact HSa.out _)).mono ?_; rintro e wk ⟨rfl, hgk, hSk⟩; have HGk := Lib.hid hgk; have HSk := Lib.hid hSk; have hBk := (HBa.out _).grown hgk hQb; have HBk := Lib.hid hBk; obtain ⟨⟨z0, z1, z2, z3⟩, f0, f1, f2, f3⟩ := zero_facts hBk; clear hgk hSk hBk; unfold tokVal))
                          go_meet
                          have h4 := stored4 glt HGk.out HSk.out HBk.out
                          exact ⟨(h4 _ _ _ _).1, 0, rfl, .inl ⟨2, _, _, _, _, HST.out, by omega, (h4 _ _ _ _).2.1, (h4 _ _ _ _).2.2⟩⟩
                      · have HST : Hid (Lx.stepAt s.data.toList i = .error 2) := Lib.hid (by rw [hst0, symLen_last s i hil hs1 (by omega)]; rfl)
                        have HC : Hid (∀ W, Src W Q s i 0 → Calls Tryd.prog 20 #[.pointer (some ⟨Q, 0, none⟩)] W fun e w' => e = .returned (tokVal 3 (s.extract i (i + 0)) 0 i) ∧ Left W Q s i 2 w') := Lib.hid (fun W hW => symbol_last Q s i hms hil W hW _ rfl hcc (by omega))
                        clear hst0 hs1 hcc m43 m45 m42 m47 m40 m41 m123 m125 m44 m46 m64 m61
                        go_wp2_with (first | (go_at_call 15; refine (letter_any _ _).mono ?_; rintro e w' ⟨rfl, rfl⟩) | (go_at_call 17; refine (digit_any _ _).mono ?_; rintro e w' ⟨rfl, rfl⟩) | (go_at_call 20; refine (HC.out _ (by exact HSa.out _)).mono ?_; rintro e wk ⟨rfl, hgk, hSk⟩; have HGk := Lib.hid hgk; have HSk := Lib.hid hSk; have hBk := (HBa.out _).grown hgk hQb; have HBk := Lib.hid hBk; obtain ⟨⟨z0, z1, z2, z3⟩, f0, f1, f2, f3⟩ := zero_facts hBk; clear hgk hSk hBk; unfold tokVal))
                        go_meet
                        have h4 := stored4 glt HGk.out HSk.out HBk.out
                        exact ⟨(h4 _ _ _ _).1, 0, rfl, .inl ⟨2, _, _, _, _, HST.out, by omega, (h4 _ _ _ _).2.1, (h4 _ _ _ _).2.2⟩⟩
                  · have hcc : (s[i].toNat : Int) = 33 ∨ (s[i].toNat : Int) = 94 := by simp at h33; omega
                    by_cases hi1 : i + 1 < s.size
                    · by_cases hd2 : (s[i + 1].toNat : Int) = 61
                      · have HST : Hid (Lx.stepAt s.data.toList i = .ok ⟨3, Lx.sub s.data.toList i (i + 2), 0, i, i + 2⟩) := Lib.hid (by rw [hst0, symLen_two s i hil hs1 hcc hi1 hd2]; rfl)
                        have HC : Hid (∀ W, Src W Q s i 0 → Calls Tryd.prog 20 #[.pointer (some ⟨Q, 0, none⟩)] W fun e w' => e = .returned (tokVal 3 (s.extract i (i + 2)) 0 i) ∧ Left W Q s i 0 w') := Lib.hid (fun W hW => symbol_two Q s i hms hil W hW _ rfl hcc hi1 hd2)
                        clear hst0 hs1 hcc hd2 m43 m45 m42 m47 m40 m41 m123 m125 m44 m46 m64 m61
                        go_wp2_with (first | (go_at_call 15; refine (letter_any _ _).mono ?_; rintro e w' ⟨rfl, rfl⟩) | (go_at_call 17; refine (digit_any _ _).mono ?_; rintro e w' ⟨rfl, rfl⟩) | (go_at_call 20; refine (HC.out _ (by exact HSa.out _)).mono ?_; rintro e wk ⟨rfl, hgk, hSk⟩; have HGk := Lib.hid hgk; have HSk := Lib.hid hSk; have hBk := (HBa.out _).grown hgk hQb; have HBk := Lib.hid hBk; obtain ⟨⟨z0, z1, z2, z3⟩, f0, f1, f2, f3⟩ := zero_facts hBk; clear hgk hSk hBk; unfold tokVal))
                        go_meet
                        have h4 := stored4 glt HGk.out HSk.out HBk.out (.int .i64 (3 : Nat)) (.string (s.extract i (i + 2))) (.int .i64 (0 : Nat)) (.int .i64 (i : Nat))
                        refine ⟨h4.1, 0, rfl, .inr ⟨_, HST.out, by dsimp only; rw [sub_length _ _ _ (by omega) (by simp; omega)]; omega, h4.2.1, ?_⟩⟩
                        have := h4.2.2
                        rw [extract_sub] at this ⊢
                        exact this
                      · have HST : Hid (Lx.stepAt s.data.toList i = .error 2) := Lib.hid (by rw [hst0, symLen_other s i hil hs1 hi1 hd2]; rfl)
                        have HC : Hid (∀ W, Src W Q s i 0 → Calls Tryd.prog 20 #[.pointer (some ⟨Q, 0, none⟩)] W fun e w' => e = .returned (tokVal 3 (s.extract i (i + 0)) 0 i) ∧ Left W Q s i 2 w') := Lib.hid (fun W hW => symbol_other Q s i hms hil W hW _ rfl hcc hi1 _ rfl (by simpa using hd2))
                        clear hst0 hs1 hcc hd2 m43 m45 m42 m47 m40 m41 m123 m125 m44 m46 m64 m61
                        go_wp2_with (first | (go_at_call 15; refine (letter_any _ _).mono ?_; rintro e w' ⟨rfl, rfl⟩) | (go_at_call 17; refine (digit_any _ _).mono ?_; rintro e w' ⟨rfl, rfl⟩) | (go_at_call 20; refine (HC.out _ (by exact HSa.out _)).mono ?_; rintro e wk ⟨rfl, hgk, hSk⟩; have HGk := Lib.hid hgk; have HSk := Lib.hid hSk; have hBk := (HBa.out _).grown hgk hQb; have HBk := Lib.hid hBk; obtain ⟨⟨z0, z1, z2, z3⟩, f0, f1, f2, f3⟩ := zero_facts hBk; clear hgk hSk hBk; unfold tokVal))
                        go_meet
                        have h4 := stored4 glt HGk.out HSk.out HBk.out
                        exact ⟨(h4 _ _ _ _).1, 0, rfl, .inl ⟨2, _, _, _, _, HST.out, by omega, (h4 _ _ _ _).2.1, (h4 _ _ _ _).2.2⟩⟩
                    · have HST : Hid (Lx.stepAt s.data.toList i = .error 2) := Lib.hid (by rw [hst0, symLen_last s i hil hs1 (by omega)]; rfl)
                      have HC : Hid (∀ W, Src W Q s i 0 → Calls Tryd.prog 20 #[.pointer (some ⟨Q, 0, none⟩)] W fun e w' => e = .returned (tokVal 3 (s.extract i (i + 0)) 0 i) ∧ Left W Q s i 2 w') := Lib.hid (fun W hW => symbol_last Q s i hms hil W hW _ rfl hcc (by omega))
                      clear hst0 hs1 hcc m43 m45 m42 m47 m40 m41 m123 m125 m44 m46 m64 m61
                      go_wp2_with (first | (go_at_call 15; refine (letter_any _ _).mono ?_; rintro e w' ⟨rfl, rfl⟩) | (go_at_call 17; refine (digit_any _ _).mono ?_; rintro e w' ⟨rfl, rfl⟩) | (go_at_call 20; refine (HC.out _ (by exact HSa.out _)).mono ?_; rintro e wk ⟨rfl, hgk, hSk⟩; have HGk := Lib.hid hgk; have HSk := Lib.hid hSk; have hBk := (HBa.out _).grown hgk hQb; have HBk := Lib.hid hBk; obtain ⟨⟨z0, z1, z2, z3⟩, f0, f1, f2, f3⟩ := zero_facts hBk; clear hgk hSk hBk; unfold tokVal))
                      go_meet
                      have h4 := stored4 glt HGk.out HSk.out HBk.out
                      exact ⟨(h4 _ _ _ _).1, 0, rfl, .inl ⟨2, _, _, _, _, HST.out, by omega, (h4 _ _ _ _).2.1, (h4 _ _ _ _).2.2⟩⟩
                · have HST : Hid (Lx.stepAt s.data.toList i = .ok ⟨3, Lx.sub s.data.toList i (i + 1), 0, i, i + 1⟩) := Lib.hid (by rw [hst0, symLen_one s i hil hs1]; rfl)
                  have HC : Hid (∀ W, Src W Q s i 0 → Calls Tryd.prog 20 #[.pointer (some ⟨Q, 0, none⟩)] W fun e w' => e = .returned (tokVal 3 (s.extract i (i + 1)) 0 i) ∧ Left W Q s i 0 w') := Lib.hid (fun W hW => symbol_one Q s i hms hil W hW _ rfl (sym1_cases _ hs1))
                  clear hst0 hs1
                  go_wp2_with (first | (go_at_call 15; refine (letter_any _ _).mono ?_; rintro e w' ⟨rfl, rfl⟩) | (go_at_call 17; refine (digit_any _ _).mono ?_; rintro e w' ⟨rfl, rfl⟩) | (go_at_call 20; refine (HC.out _ (by exact HSa.out _)).mono ?_; rintro e wk ⟨rfl, hgk, hSk⟩; have HGk := Lib.hid hgk; have HSk := Lib.hid hSk; have hBk := (HBa.out _).grown hgk hQb; have HBk := Lib.hid hBk; obtain ⟨⟨z0, z1, z2, z3⟩, f0, f1, f2, f3⟩ := zero_facts hBk; clear hgk hSk hBk; unfold tokVal))
                  go_meet
                  have h4 := stored4 glt HGk.out HSk.out HBk.out (.int .i64 (3 : Nat)) (.string (s.extract i (i + 1))) (.int .i64 (0 : Nat)) (.int .i64 (i : Nat))
                  refine ⟨h4.1, 0, rfl, .inr ⟨_, HST.out, by dsimp only; rw [sub_length _ _ _ (by omega) (by simp; omega)]; omega, h4.2.1, ?_⟩⟩
                  have := h4.2.2
                  rw [extract_sub] at this ⊢
                  exact this
              · have hq' : (s[i] == 34) = true := by
                  have : (s[i].toNat : Int) = 34 := by simpa using hq
                  simp [← UInt8.toNat_inj]; omega
                have hqs := Lx.stop_ge Lx.noq s.data.toList (i + 1)
                have HST : Hid (Lx.stepAt s.data.toList i = if s.data.toList.length ≤ Lx.stop Lx.noq s.data.toList (i + 1) then .error 2 else if (Lx.sub s.data.toList (i + 1) (Lx.stop Lx.noq s.data.toList (i + 1))).all Lx.valc then (if 16 < Lx.stop Lx.noq s.data.toList (i + 1) - (i + 1) then .error 4 else .ok ⟨2, Lx.sub s.data.toList (i + 1) (Lx.stop Lx.noq s.data.toList (i + 1)), 0, i, Lx.stop Lx.noq s.data.toList (i + 1) + 1⟩) else .error 2) := Lib.hid (by
                  unfold Lx.stepAt; simp only [hgd, hl, hd, hq', if_true, Bool.false_eq_true, if_false])
                clear hgd hq'
                by_cases hop : s.size ≤ Lx.stop Lx.noq s.data.toList (i + 1)
                · have HOP := Lib.hid hop
                  clear hop hqs
                  go_wp2_with (first | (go_at_call 15; refine (letter_any _ _).mono ?_; rintro e w' ⟨rfl, rfl⟩) | (go_at_call 17; refine (digit_any _ _).mono ?_; rintro e w' ⟨rfl, rfl⟩) | (go_at_call 19; refine (text_open Q s i hms hil _ (by exact HSa.out _) HOP.out).mono ?_; rintro e wk ⟨rfl, hgk, hSk⟩; have HGk := Lib.hid hgk; have HSk := Lib.hid hSk; have hBk := (HBa.out _).grown hgk hQb; have HBk := Lib.hid hBk; obtain ⟨⟨z0, z1, z2, z3⟩, f0, f1, f2, f3⟩ := zero_facts hBk; clear hgk hSk hBk; unfold tokVal))
                  go_meet
                  have h4 := stored4 glt HGk.out HSk.out HBk.out (.int .i64 (0 : Nat)) (.string ⟨#[]⟩) (.int .i64 (0 : Nat)) (.int .i64 (0 : Nat))
                  exact ⟨h4.1, 2, rfl, .inl ⟨2, _, _, _, _, by rw [HST.out, if_pos (by have := HOP.out; simpa using this)], by omega, h4.2.1, h4.2.2⟩⟩
                · obtain ⟨m, hm⟩ : ∃ m, Lx.stop Lx.noq s.data.toList (i + 1) = i + 1 + m := ⟨Lx.stop Lx.noq s.data.toList (i + 1) - (i + 1), by omega⟩
                  have hm2 : i + 1 + m < s.size := by omega
                  obtain ⟨tx, hT⟩ : ∃ tx, s.extract (i + 1) (i + 1 + m) = tx := ⟨_, rfl⟩
                  have hsl := sub_length s.data.toList (i + 1) (i + 1 + m) (by omega) (by simp; omega)
                  have htx : tx = ⟨(Lx.sub s.data.toList (i + 1) (i + 1 + m)).toArray⟩ := by rw [← hT, extract_sub]
                  have HTX := Lib.hid htx
                  have HSL := Lib.hid hsl
                  have HSTm : Hid (Lx.stepAt s.data.toList i = if tx.data.toList.all Lx.valc then (if 16 < m then .error 4 else .ok ⟨2, Lx.sub s.data.toList (i + 1) (i + 1 + m), 0, i, i + 1 + m + 1⟩) else .error 2) := by
                    refine Lib.hid ?_
                    rw [HST.out, if_neg (by simp; omega), hm, htx]
                    have : i + 1 + m - (i + 1) = m := by omega
                    rw [this]
                  have HTC : Hid (∀ W, Src W Q s i 0 → Calls Tryd.prog 19 #[.pointer (some ⟨Q, 0, none⟩)] W (TextPost W Q s tx i m)) := Lib.hid (fun W hW => text_closed Q s i hms hil W hW m hm hm2 tx hT)
                  clear hop hqs hm hT htx hsl HST
                  cases hall : tx.data.toList.all Lx.valc
                  · have HAL := Lib.hid hall
                    clear hall
                    go_wp2_with (first | (go_at_call 15; refine (letter_any _ _).mono ?_; rintro e w' ⟨rfl, rfl⟩) | (go_at_call 17; refine (digit_any _ _).mono ?_; rintro e w' ⟨rfl, rfl⟩) | (go_at_call 19; refine (textPost_bad HAL.out (HTC.out _ (by exact HSa.out _))).mono ?_; rintro e wk ⟨rfl, hgk, hSk⟩; have HGk := Lib.hid hgk; have HSk := Lib.hid hSk; have hBk := (HBa.out _).grown hgk hQb; have HBk := Lib.hid hBk; obtain ⟨⟨z0, z1, z2, z3⟩, f0, f1, f2, f3⟩ := zero_facts hBk; clear hgk hSk hBk; unfold tokVal))
                    go_meet
                    have h4 := stored4 glt HGk.out HSk.out HBk.out (.int .i64 (0 : Nat)) (.string ⟨#[]⟩) (.int .i64 (0 : Nat)) (.int .i64 (0 : Nat))
                    exact ⟨h4.1, 2, rfl, .inl ⟨2, _, _, _, _, by rw [HSTm.out, HAL.out]; rfl, by omega, h4.2.1, h4.2.2⟩⟩
                  · have HAL := Lib.hid hall
                    clear hall
                    by_cases hm16 : 16 < m
                    · go_wp2_with (first | (go_at_call 15; refine (letter_any _ _).mono ?_; rintro e w' ⟨rfl, rfl⟩) | (go_at_call 17; refine (digit_any _ _).mono ?_; rintro e w' ⟨rfl, rfl⟩) | (go_at_call 19; refine (textPost_long HAL.out hm16 (HTC.out _ (by exact HSa.out _))).mono ?_; rintro e wk ⟨rfl, hgk, hSk⟩; have HGk := Lib.hid hgk; have HSk := Lib.hid hSk; have hBk := (HBa.out _).grown hgk hQb; have HBk := Lib.hid hBk; obtain ⟨⟨z0, z1, z2, z3⟩, f0, f1, f2, f3⟩ := zero_facts hBk; clear hgk hSk hBk; unfold tokVal))
                      go_meet
                      have h4 := stored4 glt HGk.out HSk.out HBk.out (.int .i64 (2 : Nat)) (.string tx) (.int .i64 (0 : Nat)) (.int .i64 (i : Nat))
                      exact ⟨h4.1, 2, rfl, .inl ⟨4, _, _, _, _, by rw [HSTm.out, HAL.out, if_pos rfl, if_pos hm16], by omega, h4.2.1, h4.2.2⟩⟩
                    · go_wp2_with (first | (go_at_call 15; refine (letter_any _ _).mono ?_; rintro e w' ⟨rfl, rfl⟩) | (go_at_call 17; refine (digit_any _ _).mono ?_; rintro e w' ⟨rfl, rfl⟩) | (go_at_call 19; refine (textPost_good HAL.out (Nat.not_lt.1 hm16) (HTC.out _ (by exact HSa.out _))).mono ?_; rintro e wk ⟨rfl, hgk, hSk⟩; have HGk := Lib.hid hgk; have HSk := Lib.hid hSk; have hBk := (HBa.out _).grown hgk hQb; have HBk := Lib.hid hBk; obtain ⟨⟨z0, z1, z2, z3⟩, f0, f1, f2, f3⟩ := zero_facts hBk; clear hgk hSk hBk; unfold tokVal))
                      go_meet
                      have h4 := stored4 glt HGk.out HSk.out HBk.out (.int .i64 (2 : Nat)) (.string tx) (.int .i64 (0 : Nat)) (.int .i64 (i : Nat))
                      refine ⟨h4.1, 2, rfl, .inr ⟨_, by rw [HSTm.out, HAL.out, if_pos rfl, if_neg (by omega)], by dsimp only; rw [HSL.out]; omega, h4.2.1, ?_⟩⟩
                      have := h4.2.2
                      rw [HTX.out] at this ⊢
                      exact this
            · have HST : Hid (Lx.stepAt s.data.toList i = if 1073741824 < Lx.numv (Lx.sub s.data.toList i (Lx.stop Lx.digit s.data.toList i)) then .error 5 else .ok ⟨1, Lx.sub s.data.toList i (Lx.stop Lx.digit s.data.toList i), Lx.numv (Lx.sub s.data.toList i (Lx.stop Lx.digit s.data.toList i)), i, Lx.stop Lx.digit s.data.toList i⟩) := Lib.hid (by
                unfold Lx.stepAt; simp only [hgd, hl, hd, if_true, Bool.false_eq_true, if_false])
              clear hgd
              go_wp2_with (first | (go_at_call 15; refine (letter_any _ _).mono ?_; rintro e w' ⟨rfl, rfl⟩) | (go_at_call 17; refine (digit_any _ _).mono ?_; rintro e w' ⟨rfl, rfl⟩) | (go_at_call 18; refine (number_any Q s i hms hi _ (by exact HSa.out _)).mono ?_; rintro e wk ⟨rfl, hgk, hSk⟩; have HGk := Lib.hid hgk; have HSk := Lib.hid hSk; have hBk := (HBa.out _).grown hgk hQb; have HBk := Lib.hid hBk; obtain ⟨⟨z0, z1, z2, z3⟩, f0, f1, f2, f3⟩ := zero_facts hBk; clear hgk hSk hBk; unfold tokVal))
              go_meet
              have h4 := stored4 glt HGk.out HSk.out HBk.out (.int .i64 (1 : Nat)) (.string (s.extract i (Lx.stop Lx.digit s.data.toList i))) (.int .i64 (Lx.numv (Lx.sub s.data.toList i (Lx.stop Lx.digit s.data.toList i)) : Nat)) (.int .i64 (i : Nat))
              have c1 := Lx.stop_ge Lx.digit s.data.toList i
              have c2 := Lx.stop_le Lx.digit s.data.toList i (by simpa using hi)
              have c3 := sub_length _ _ _ c1 c2
              have c4 := HST.out
              by_cases hc : 1073741824 < Lx.numv (Lx.sub s.data.toList i (Lx.stop Lx.digit s.data.toList i))
              · rw [if_pos hc] at h4 c4
                exact ⟨h4.1, 0, rfl, .inl ⟨5, _, _, _, _, c4, by omega, h4.2.1, h4.2.2⟩⟩
              · rw [if_neg hc] at h4 c4
                refine ⟨h4.1, 0, rfl, .inr ⟨_, c4, by dsimp only; rw [c3]; omega, h4.2.1, ?_⟩⟩
                have := h4.2.2
                rw [extract_sub] at this ⊢
                exact this
          · have HST : Hid (Lx.stepAt s.data.toList i = if 16 < Lx.stop Lx.wordc s.data.toList i - i then .error 4 else .ok ⟨0, Lx.sub s.data.toList i (Lx.stop Lx.wordc s.data.toList i), 0, i, Lx.stop Lx.wordc s.data.toList i⟩) := Lib.hid (by
              unfold Lx.stepAt; simp only [hgd, hl, if_true])
            clear hgd
            go_wp2_with (first | (go_at_call 15; refine (letter_any _ _).mono ?_; rintro e w' ⟨rfl, rfl⟩) | (go_at_call 16; refine (word_any Q s i hms hi _ (by exact HSa.out _)).mono ?_; rintro e wk ⟨rfl, hgk, hSk⟩; have HGk := Lib.hid hgk; have HSk := Lib.hid hSk; have hBk := (HBa.out _).grown hgk hQb; have HBk := Lib.hid hBk; obtain ⟨⟨z0, z1, z2, z3⟩, f0, f1, f2, f3⟩ := zero_facts hBk; clear hgk hSk hBk; unfold tokVal))
            go_meet
            have h4 := stored4 glt HGk.out HSk.out HBk.out (.int .i64 (0 : Nat)) (.string (s.extract i (Lx.stop Lx.wordc s.data.toList i))) (.int .i64 (0 : Nat)) (.int .i64 (i : Nat))
            have c1 := Lx.stop_ge Lx.wordc s.data.toList i
            have c2 := Lx.stop_le Lx.wordc s.data.toList i (by simpa using hi)
            have c3 := sub_length _ _ _ c1 c2
            have c4 := HST.out
            by_cases hc : 16 < Lx.stop Lx.wordc s.data.toList i - i
            · rw [if_pos hc] at h4 c4
              exact ⟨h4.1, 0, rfl, .inl ⟨4, _, _, _, _, c4, by omega, h4.2.1, h4.2.2⟩⟩
            · rw [if_neg hc] at h4 c4
              refine ⟨h4.1, 0, rfl, .inr ⟨_, c4, by dsimp only; rw [c3]; omega, h4.2.1, ?_⟩⟩
              have := h4.2.2
              rw [extract_sub] at this ⊢
              exact this
        case rest =>
          obtain ⟨hg, sz, rfl, hcase⟩ := hcut
          rcases hcase with ⟨e, k, x, m, a, hst, he, hS, hb⟩ | ⟨t, hst, hsz, hS, hb⟩
          · have k2 : wc.cell? ⟨Q, 2, none⟩ = some (.int .i64 (e : Int)) := hS.cell 2
            have hne : ((e : Int) != 0) = true := by simp; omega
            have HF : Hid (Done s Q J wc) := Lib.hid (by
              refine ⟨?_, ?_⟩
              · rw [HL.out, Lx.lex_err _ _ hll hw e hst]
                simp
                exact hJ.out _ _ _ HJ1.out hg
              · rw [HL.out, Lx.lex_err _ _ hll hw e hst]
                exact hS)
            clear hg hst hS hb
            go_wp2
            exact bodyPost_ret (results_none rfl _ _ _) rfl ⟨⟨_, rfl⟩, HF.out⟩
          · have k0 : wc.cell? ⟨w1.heap.size, 0, none⟩ = some (.int .i64 (t.kind : Int)) := hb.cell 0
            have k1 : wc.cell? ⟨w1.heap.size, 1, none⟩ = some (.string ⟨t.text.toArray⟩) := hb.cell 1
            have k2 : wc.cell? ⟨w1.heap.size, 2, none⟩ = some (.int .i64 (t.n : Int)) := hb.cell 2
            have k3 : wc.cell? ⟨w1.heap.size, 3, none⟩ = some (.int .i64 (t.at_ : Int)) := hb.cell 3
            have q2 : wc.cell? ⟨Q, 2, none⟩ = some (.int .i64 0) := hS.cell 2
            obtain ⟨fn, tmps, assign, body, hy, hR⟩ := hY.out pre t w1 wc i HJ1.out hg hS (by omega)
            have HR := Lib.hid hR
            unfold cellsOf at hy
            have HG := Lib.hid hg
            have HB := Lib.hid hb
            have HS2 := Lib.hid hS
            clear hg hb hS hR
            go_upto_region 14 with fail
            rw [← wpIn_wide (n := n + 1)]
            gi_wp2
            refine HR.out.mono ?_
            rintro e W3 ⟨rfl, hJ3, hbel, hkeep⟩
            have HJ3 := Lib.hid hJ3
            have hB3 : Blk W3 w1.heap.size 33 (cellsOf t) := (hkeep _ (Nat.le_refl _) HB.out.lt).trans HB.out
            have hS3 : Src W3 Q s i 0 := (hbel.block Q (by omega)).trans HS2.out
            have l1 : W3.cell? ⟨w1.heap.size, 1, none⟩ = some (.string ⟨t.text.toArray⟩) := hB3.cell 1
            have l2 : W3.cell? ⟨Q, 1, none⟩ = some (.int .i64 (i : Int)) := hS3.cell 1
            have l3 := hS3.frozen 1
            have HS3 := Lib.hid hS3
            have hend := Lx.stepAt_ends hll hst
            have hb2 : s.data.toList.length = s.size := by simp
            have HT : Hid (Lx.lex s.data.toList i = (t :: (Lx.lex s.data.toList t.ends).1, (Lx.lex s.data.toList t.ends).2)) := Lib.hid (Lx.lex_tok _ _ hll hw t hst)
            obtain ⟨e1, e2, _⟩ := hend
            rw [hb2] at e2
            have HZ := Lib.hid hsz
            have hzb : i + sz + t.text.length ≤ 2000 := by omega
            clear hJ3 hbel hkeep hB3 hS3 k0 k1 k2 k3 q2 hy hst hsz hb2 HR
            gi_wp2
            go_wp2
            go_region
            go_wp2
            go_roundw
            case rel =>
              have hcell : Value.int .i64 ((i : Int) + ((sz : Int) + (t.text.length : Int))) = .int .i64 ((t.ends : Nat) : Int) := int_eq (by have := HZ.out; omega)
              rw [hcell]
              refine ⟨t.ends, pre ++ [t], e2, (HS3.out.to t.ends).drew, hJ.out _ _ _ HJ3.out (only_drew (only_setCell (only_refl _ _) (.inl rfl) _)), ?_, ?_⟩
              · simp; omega
              · rw [HL.out, HT.out]; simp
            case measure =>
              rw [HA.out]
              have hcell : Value.int .i64 ((i : Int) + ((sz : Int) + (t.text.length : Int))) = .int .i64 ((t.ends : Nat) : Int) := int_eq (by have := HZ.out; omega)
              rw [hcell, (HS3.out.to t.ends).drew.atOf]
              omega
      · have HW : Hid (Lx.lex s.data.toList i = Lx.lex s.data.toList (i + 1)) := Lib.hid (Lx.lex_white _ _ hll hw)
        have hf := HS.out.frozen 1
        have hc4 := white_cases s[i] hw
        obtain ⟨c, hc⟩ : ∃ c : Int, (s[i].toNat : Int) = c := ⟨_, rfl⟩
        rw [hc] at hc4
        clear hw
        rcases hc4 with rfl | rfl | rfl | rfl
        all_goals
          go_wp2_with fail
          go_quiet (fail)
          have HS1 : Hid (Src (wr.drewN nq) Q s i 0) := Lib.hid (HS.out.drewN nq)
          have HJ1 : Hid (J pre (wr.drewN nq)) := Lib.hid (hJ.out pre wr _ HJp.out (only_drewN (only_refl _ _) nq))
          have HA : Hid (s.size - atOf wr Q = s.size - i) := Lib.hid (by rw [HS.out.atOf])
          have g0 : (wr.drewN nq).cell? ⟨Q, 0, none⟩ = some (.string s) := h0
          have g1 : (wr.drewN nq).cell? ⟨Q, 1, none⟩ = some (.int .i64 (i : Int)) := h1
          have g2 : (wr.drewN nq).cell? ⟨Q, 2, none⟩ = some (.int .i64 (0 : Nat)) := h2
          have gf : (wr.drewN nq).frozen? ⟨Q, 1, none⟩ = false := hf
          have glt : Q < (wr.drewN nq).heap.size := hlt
          clear h0 h1 h2 hlt HS HJp hf
          generalize wr.drewN nq = w1 at *
          go_wp2_with fail
          go_quiet (fail)
          go_wp2
          go_roundw
          case rel =>
            have hcell : Value.int .i64 ((i : Int) + 1) = .int .i64 (((i + 1 : Nat) : Nat) : Int) := int_eq (by omega)
            rw [hcell]
            exact ⟨i + 1, pre, by omega, by repeat (first | (with_reducible exact HS1.out) | (with_reducible refine Src.drewN ?_ _) | (with_reducible refine Src.drew ?_) | (with_reducible refine Src.alloc ?_ _) | (with_reducible refine Src.far ?_ (Nat.ne_of_lt glt) _) | (refine Src.to (i := i) ?_ _)), hJ.out _ _ _ HJ1.out (by repeat (first | (with_reducible exact only_refl _ _) | (with_reducible refine only_drewN ?_ _) | (with_reducible refine only_drew ?_) | (with_reducible refine only_alloc ?_ _) | (with_reducible refine only_setCell ?_ (.inl rfl) _) | (with_reducible refine only_setCell ?_ (.inr (Nat.le_refl _)) _))), by omega, by rw [HL.out, HW.out]⟩
          case measure =>
            rw [HA.out]
            have hcell : Value.int .i64 ((i : Int) + 1) = .int .i64 (((i + 1 : Nat) : Nat) : Int) := int_eq (by omega)
            rw [hcell]
            refine Nat.lt_of_le_of_lt (Nat.le_of_eq <| congrArg (s.size - ·) (Src.atOf (s := s) (i := i + 1) (e := 0) (by repeat (first | (with_reducible exact HS1.out) | (with_reducible refine Src.drewN ?_ _) | (with_reducible refine Src.drew ?_) | (with_reducible refine Src.alloc ?_ _) | (with_reducible refine Src.far ?_ (Nat.ne_of_lt glt) _) | (refine Src.to (i := i) ?_ _))))) (by show s.size - (i + 1) < _; omega)
    · have HE : Hid (Done s Q J wr) := Lib.hid (by
        have hi2 : i = s.size := by omega
        refine ⟨?_, ?_⟩
        · rw [HL.out, Lx.lex_end _ _ (by simp; omega)]
          simpa using HJp.out
        · rw [HL.out, Lx.lex_end _ _ (by simp; omega)]
          show Src wr Q s s.size 0
          rw [← hi2]
          exact HS.out)
      have HE2 : Hid (∀ k, Done s Q J (wr.drewN k)) := Lib.hid (fun k => ⟨hJ.out _ _ _ HE.out.1 (only_drewN (only_refl _ _) k), HE.out.2⟩)
      clear HE
      have hiI : ¬ (i : Int) < (s.size : Int) := by omega
      go_wp2_with fail
      go_quiet (fail)
      go_wp2
      go_end0
      exact ⟨⟨_, rfl⟩, HE2.out _⟩
end Go.Proofs.YtdmgacoemabcfaaDoor
