/- The walks of labels.Name and labels.Value. -/
import Derived.Test.YtdmgacoemabcfaaC4
import Derived.Test.YtdmgacoemabcfaaLn
import Derived.Lib.OthersKept
namespace Go.Proofs.Ytdmgacoemabcfaa
open Go.RowKit

theorem get_get (s : ByteArray) (i : Nat) (h : i < s.size) : s.get! (i + 0) = s[i]'h := by
  show s.get! i = _
  simp [ByteArray.get!, getElem!_pos, h]
  rfl

/-- a rune of a string is its byte, or not in ASCII, as its byte is not -/
theorem dec (s : ByteArray) (pos : Nat) (h : pos < s.size) : ((Utf8.decode s pos).1 < 128 ∧ (Utf8.decode s pos).1 = (s[pos]'h).toNat ∧ (Utf8.decode s pos).2 = 1) ∨
    (128 ≤ (Utf8.decode s pos).1 ∧ 128 ≤ (s[pos]'h).toNat ∧ (Utf8.decode s pos).1 ≤ 2097151 ∧ 1 ≤ (Utf8.decode s pos).2) := by
  by_cases hb : (s[pos]'h).toNat < 128
  · rw [decode_ascii s pos h hb]
    exact Or.inl ⟨hb, rfl, rfl⟩
  · refine Or.inr ?_
    have hlt := (s[pos]'h).toNat_lt
    unfold Utf8.decode
    simp only [get_get s pos h]
    generalize (s[pos]'h).toNat = b at *
    rw [if_neg hb]
    generalize (s.get! (pos + 1)).toNat = b1
    generalize (s.get! (pos + 2)).toNat = b2
    generalize (s.get! (pos + 3)).toNat = b3
    unfold Utf8.runeError
    split
    · split
      · dsimp only; omega
      · dsimp only; omega
    · split
      · split
        · rename_i hc
          rw [Bool.and_eq_true, decide_eq_true_eq] at hc
          dsimp only; omega
        · dsimp only; omega
      · split
        · split
          · rename_i hc
            rw [Bool.and_eq_true, decide_eq_true_eq] at hc
            dsimp only; omega
          · dsimp only; omega
        · dsimp only; omega

theorem byte_at (s : ByteArray) (i : Nat) (h : i < s.size) : s.data.toList.getD i 0 = s[i]'h := by
  have h' : i < s.data.toList.length := by simpa using h
  rw [List.getD, List.getElem?_eq_getElem h']
  simp
  rfl
theorem list_len (s : ByteArray) : s.data.toList.length = s.size := by simp
theorem letter_nums (b : UInt8) : Lx.letter b = true ↔ 97 ≤ b.toNat ∧ b.toNat ≤ 122 := by
  unfold Lx.letter
  simp [UInt8.le_iff_toNat_le]
theorem wordc_nums (b : UInt8) : Lx.wordc b = true ↔ (97 ≤ b.toNat ∧ b.toNat ≤ 122) ∨ (48 ≤ b.toNat ∧ b.toNat ≤ 57) ∨ b.toNat = 95 := by
  unfold Lx.wordc Lx.letter Lx.digit
  simp [UInt8.le_iff_toNat_le, ← UInt8.toNat_inj]
  omega
theorem valc_nums (b : UInt8) : Lx.valc b = true ↔ 33 ≤ b.toNat ∧ b.toNat ≤ 126 ∧ b.toNat ≠ 34 ∧ b.toNat ≠ 92 ∧ b.toNat ≠ 44 ∧ b.toNat ≠ 123 ∧ b.toNat ≠ 125 := by
  unfold Lx.valc
  simp [UInt8.le_iff_toNat_le, ← UInt8.toNat_inj]
  omega

theorem iterPos_of {w : World} {k : Nat} {s : ByteArray} {p : Nat} (h : w.heap[k]? = some (.stringIter s p)) : w.iterPos k = p := by simp [World.iterPos, h]

theorem tells_no {p : Prop} (h : ¬ p) : (false = true ↔ p) := ⟨fun h => (by cases h), fun h' => absurd h' h⟩
theorem tells_yes {p : Prop} (h : p) : (true = true ↔ p) := ⟨fun _ => h, fun _ => rfl⟩

/-- it tells whether something holds -/
def Tells (p : Prop) (w : World) (e : Ending) (w' : World) : Prop := ∃ b, e = .returned (.bool b) ∧ (b = true ↔ p) ∧ Below w.heap.size w w'

/-- the bytes before pos are those of a name -/
def NameTo (l : List UInt8) (pos : Nat) : Prop := (∀ j, j < pos → Lx.wordc (l.getD j 0) = true) ∧ (0 < pos → Lx.letter (l.getD 0 0) = true)

theorem name_step {l : List UInt8} {pos : Nat} {b : UInt8} (h : NameTo l pos) (hb : l.getD pos 0 = b) (hw : Lx.wordc b = true) (hl : Lx.letter b = true ∨ 0 < pos) : NameTo l (pos + 1) := by
  refine ⟨fun j hj => ?_, fun _ => ?_⟩
  · rcases Nat.lt_or_ge j pos with h' | h'
    · exact h.1 j h'
    · obtain rfl : j = pos := by omega
      rw [hb]; exact hw
  · rcases Nat.eq_zero_or_pos pos with h' | h'
    · subst h'
      rcases hl with hl | hl
      · rw [hb]; exact hl
      · omega
    · exact h.2 h'
theorem name_not {l : List UInt8} {pos : Nat} {b : UInt8} (hb : l.getD pos 0 = b) (hp : pos < l.length) (hw : ¬ Lx.wordc b = true) : ¬ Lx.IsName l := fun h => hw (by rw [← hb]; exact h.2.2.2 pos hp)
theorem name_not0 {l : List UInt8} {b : UInt8} (hb : l.getD 0 0 = b) (hw : ¬ Lx.letter b = true) : ¬ Lx.IsName l := fun h => hw (by rw [← hb]; exact h.2.2.1)
theorem next_end_at {P : Program} (w : World) (k : Nat) (s : ByteArray) (pos : Nat) (ty : TypeId) (hk : w.heap[k]? = some (.stringIter s pos)) (h : ¬ pos < s.size) :
    (Instr.next (.pointer (some ⟨k, 0, none⟩)) true ty).run P w = .ok (.tuple #[.bool false]) w := by
  simp [Instr.next, getObj, Sem.run, hk, h]

set_option maxRecDepth 100000 in
set_option maxHeartbeats 2000000 in
theorem name_any (s : ByteArray) (hs : s.size ≤ maxLen) (w : World) : Calls Try.prog 20 #[.string s] w (Tells (Lx.IsName s.data.toList) w) := by
  unfold maxLen at hs
  by_cases h1 : s.size < 1
  · have HN : Hid (¬ Lx.IsName s.data.toList) := Lib.hid (fun h => by have := h.1; rw [list_len] at this; omega)
    go_enter Try.func20, Try.ntmps20
    go_wp2_with fail
    go_ret
    exact ⟨false, rfl, tells_no HN.out, Below.refl _ _⟩
  · have g1 : decide ((s.size : Int) < 1) = false := by simp; omega
    by_cases h2 : 16 < s.size
    · have HN : Hid (¬ Lx.IsName s.data.toList) := Lib.hid (fun h => by have := h.2.1; rw [list_len] at this; omega)
      go_enter Try.func20, Try.ntmps20
      go_wp2_with fail
      go_ret
      exact ⟨false, rfl, tells_no HN.out, Below.refl _ _⟩
    · have g2 : decide (16 < (s.size : Int)) = false := by simp; omega
      go_enter Try.func20, Try.ntmps20
      go_wp2_with fail
      go_loopw [3, 4, 5] (fun _ _ _ wr => ∃ pos : Nat, pos ≤ s.size ∧ Hid (wr.heap[w.heap.size]? = some (.stringIter s pos)) ∧ Hid (Below w.heap.size w wr) ∧ Hid (NameTo s.data.toList pos)) (fun _ _ _ wr => s.size - wr.iterPos w.heap.size)
      case atStart => exact ⟨0, Nat.zero_le _, Lib.hid (World.iter_heap w s 0), Lib.hid ((Below.refl _ _).alloc (Nat.le_refl _) _), Lib.hid ⟨fun j hj => by omega, fun h => by omega⟩⟩
      case round =>
        obtain ⟨pos, hpos, HIT, HB, HT⟩ := hrel
        have hp0 := Lib.hid (iterPos_of HIT.out)
        by_cases hp : pos < s.size
        · have hnx : ∀ ty, (Instr.next (.pointer (some ⟨w.heap.size, 0, none⟩)) true ty).run Try.prog wr = _ := fun ty => Lib.run_next_any_at wr w.heap.size s pos ty HIT.out hp
          have hit2 := Lib.iterAt_heap wr w.heap.size s pos (pos + (Utf8.decode s pos).2) HIT.out
          have hb2 := Lib.below_iterAt HB.out (k := w.heap.size) (Nat.le_refl _) s (pos + (Utf8.decode s pos).2)
          obtain ⟨W1, hW1⟩ : ∃ W1, W1 = wr.iterAt w.heap.size s (pos + (Utf8.decode s pos).2) := ⟨_, rfl⟩
          rw [← hW1] at hnx hit2 hb2
          have HIT2 := Lib.hid hit2
          have HB2 := Lib.hid hb2
          have hd := dec s pos hp
          have HBy := Lib.hid (byte_at s pos hp)
          generalize (Utf8.decode s pos).1 = c at *
          generalize (Utf8.decode s pos).2 = n at *
          generalize s[pos]'hp = b at *
          have HD := Lib.hid hd
          have hc1 : c ≤ 2097151 := by omega
          clear hW1 hit2 hb2 hd
          by_cases hl : 97 ≤ c ∧ c ≤ 122
          · obtain ⟨l1, l2⟩ := hl
            have e1 : decide (97 ≤ (c : Int)) = true := by simp; omega
            have e2 : decide ((c : Int) ≤ 122) = true := by simp; omega
            have hbc : b.toNat = c ∧ n = 1 := by have := HD.out; omega
            obtain ⟨hb1, rfl⟩ := hbc
            have HT2 : Hid (NameTo s.data.toList (pos + 1)) := Lib.hid (name_step HT.out HBy.out (by rw [wordc_nums]; omega) (Or.inl (by rw [letter_nums]; omega)))
            clear hb1
            go_wp2_with fail
            go_roundw
            case rel => exact ⟨pos + 1, by omega, HIT2, HB2, HT2⟩
            case measure => rw [hp0.out, iterPos_of HIT2.out]; omega
          · by_cases hz : pos = 0
            · subst hz
              by_cases hA : c < 97
              · have e1 : decide (97 ≤ (c : Int)) = false := by simp; omega
                have HN : Hid (¬ Lx.IsName s.data.toList) := Lib.hid (name_not0 HBy.out (by rw [letter_nums]; have := HD.out; omega))
                go_wp2_with fail
                go_ret
                exact ⟨false, rfl, tells_no HN.out, HB2.out⟩
              · have e1 : decide (97 ≤ (c : Int)) = true := by simp; omega
                have e2 : decide ((c : Int) ≤ 122) = false := by simp; omega
                have HN : Hid (¬ Lx.IsName s.data.toList) := Lib.hid (name_not0 HBy.out (by rw [letter_nums]; have := HD.out; omega))
                go_wp2_with fail
                go_ret
                exact ⟨false, rfl, tells_no HN.out, HB2.out⟩
            · have e3 : ((pos : Int) == 0) = false := by rw [beq_eq_false_iff_ne]; omega
              by_cases hA : c < 97
              · have e1 : decide (97 ≤ (c : Int)) = false := by simp; omega
                by_cases h95 : c = 95
                · have e4 : ((c : Int) != 95) = false := by subst h95; rfl
                  have k1 : 95 ≤ c := by omega
                  have k2 : c ≤ 95 := by omega
                  clear h95
                  have hbc : b.toNat = c ∧ n = 1 := by have := HD.out; omega
                  obtain ⟨hb1, rfl⟩ := hbc
                  have HT2 : Hid (NameTo s.data.toList (pos + 1)) := Lib.hid (name_step HT.out HBy.out (by rw [wordc_nums]; omega) (Or.inr (by omega)))
                  clear hb1
                  go_wp2_with fail
                  go_roundw
                  case rel => exact ⟨pos + 1, by omega, HIT2, HB2, HT2⟩
                  case measure => rw [hp0.out, iterPos_of HIT2.out]; omega
                · have e4 : ((c : Int) != 95) = true := by rw [bne_iff_ne]; omega
                  by_cases h48 : c < 48
                  · have e5 : decide ((c : Int) < 48) = true := by simp; omega
                    have HN : Hid (¬ Lx.IsName s.data.toList) := Lib.hid (name_not HBy.out (by rw [list_len]; exact hp) (by rw [wordc_nums]; have := HD.out; omega))
                    go_wp2_with fail
                    go_ret
                    exact ⟨false, rfl, tells_no HN.out, HB2.out⟩
                  · have e5 : decide ((c : Int) < 48) = false := by simp; omega
                    by_cases h57 : 57 < c
                    · have e6 : decide (57 < (c : Int)) = true := by simp; omega
                      have HN : Hid (¬ Lx.IsName s.data.toList) := Lib.hid (name_not HBy.out (by rw [list_len]; exact hp) (by rw [wordc_nums]; have := HD.out; omega))
                      go_wp2_with fail
                      go_ret
                      exact ⟨false, rfl, tells_no HN.out, HB2.out⟩
                    · have e6 : decide (57 < (c : Int)) = false := by simp; omega
                      have hbc : b.toNat = c ∧ n = 1 := by have := HD.out; omega
                      obtain ⟨hb1, rfl⟩ := hbc
                      have HT2 : Hid (NameTo s.data.toList (pos + 1)) := Lib.hid (name_step HT.out HBy.out (by rw [wordc_nums]; omega) (Or.inr (by omega)))
                      clear hb1
                      go_wp2_with fail
                      go_roundw
                      case rel => exact ⟨pos + 1, by omega, HIT2, HB2, HT2⟩
                      case measure => rw [hp0.out, iterPos_of HIT2.out]; omega
              · have e1 : decide (97 ≤ (c : Int)) = true := by simp; omega
                have e2 : decide ((c : Int) ≤ 122) = false := by simp; omega
                have e4 : ((c : Int) != 95) = true := by rw [bne_iff_ne]; omega
                have e5 : decide ((c : Int) < 48) = false := by simp; omega
                have e6 : decide (57 < (c : Int)) = true := by simp; omega
                have HN : Hid (¬ Lx.IsName s.data.toList) := Lib.hid (name_not HBy.out (by rw [list_len]; exact hp) (by rw [wordc_nums]; have := HD.out; omega))
                go_wp2_with fail
                go_ret
                exact ⟨false, rfl, tells_no HN.out, HB2.out⟩
        · obtain rfl : pos = s.size := by omega
          have hnx : ∀ ty, (Instr.next (.pointer (some ⟨w.heap.size, 0, none⟩)) true ty).run Try.prog wr = .ok (.tuple #[.bool false]) wr := fun ty => next_end_at wr w.heap.size s s.size ty HIT.out (by omega)
          have HY : Hid (Lx.IsName s.data.toList) := Lib.hid ⟨by rw [list_len]; omega, by rw [list_len]; omega, HT.out.2 (by omega), fun j hj => HT.out.1 j (by rw [list_len] at hj; exact hj)⟩
          go_wp2_with fail
          go_ret
          exact ⟨true, rfl, tells_yes HY.out, HB.out⟩

theorem value_step {l : List UInt8} {pos : Nat} {b : UInt8} (h : ∀ j, j < pos → Lx.valc (l.getD j 0) = true) (hb : l.getD pos 0 = b) (hw : Lx.valc b = true) : ∀ j, j < pos + 1 → Lx.valc (l.getD j 0) = true := by
  intro j hj
  rcases Nat.lt_or_ge j pos with h' | h'
  · exact h j h'
  · obtain rfl : j = pos := by omega
    rw [hb]; exact hw
theorem value_not {l : List UInt8} {pos : Nat} {b : UInt8} (hb : l.getD pos 0 = b) (hp : pos < l.length) (hw : ¬ Lx.valc b = true) : ¬ Lx.IsValue l := fun h => hw (by rw [← hb]; exact h.2 pos hp)

set_option maxRecDepth 100000 in
set_option maxHeartbeats 2000000 in
theorem value_any (s : ByteArray) (hs : s.size ≤ maxLen) (w : World) : Calls Try.prog 21 #[.string s] w (Tells (Lx.IsValue s.data.toList) w) := by
  unfold maxLen at hs
  by_cases h2 : 16 < s.size
  · have HN : Hid (¬ Lx.IsValue s.data.toList) := Lib.hid (fun h => by have := h.1; rw [list_len] at this; omega)
    go_enter Try.func21, Try.ntmps21
    go_wp2_with fail
    go_ret
    exact ⟨false, rfl, tells_no HN.out, Below.refl _ _⟩
  · go_enter Try.func21, Try.ntmps21
    go_wp2_with fail
    go_loopw [4, 20] (fun _ _ wr => ∃ pos : Nat, pos ≤ s.size ∧ Hid (wr.heap[w.heap.size]? = some (.stringIter s pos)) ∧ Hid (Below w.heap.size w wr) ∧ Hid (∀ j, j < pos → Lx.valc (s.data.toList.getD j 0) = true)) (fun _ _ wr => s.size - wr.iterPos w.heap.size)
    case atStart => exact ⟨0, Nat.zero_le _, Lib.hid (World.iter_heap w s 0), Lib.hid ((Below.refl _ _).alloc (Nat.le_refl _) _), Lib.hid (fun j hj => by omega)⟩
    case round =>
      obtain ⟨pos, hpos, HIT, HB, HT⟩ := hrel
      have hp0 := Lib.hid (iterPos_of HIT.out)
      by_cases hp : pos < s.size
      · have hnx : ∀ ty, (Instr.next (.pointer (some ⟨w.heap.size, 0, none⟩)) true ty).run Try.prog wr = _ := fun ty => Lib.run_next_any_at wr w.heap.size s pos ty HIT.out hp
        have hit2 := Lib.iterAt_heap wr w.heap.size s pos (pos + (Utf8.decode s pos).2) HIT.out
        have hb2 := Lib.below_iterAt HB.out (k := w.heap.size) (Nat.le_refl _) s (pos + (Utf8.decode s pos).2)
        obtain ⟨W1, hW1⟩ : ∃ W1, W1 = wr.iterAt w.heap.size s (pos + (Utf8.decode s pos).2) := ⟨_, rfl⟩
        rw [← hW1] at hnx hit2 hb2
        have HIT2 := Lib.hid hit2
        have HB2 := Lib.hid hb2
        have hd := dec s pos hp
        have HBy := Lib.hid (byte_at s pos hp)
        generalize (Utf8.decode s pos).1 = c at *
        generalize (Utf8.decode s pos).2 = n at *
        generalize s[pos]'hp = b at *
        have HD := Lib.hid hd
        have hc1 : c ≤ 2097151 := by omega
        clear hW1 hit2 hb2 hd
        by_cases h33 : c < 33
        · have e1 : decide ((c : Int) < 33) = true := by simp; omega
          have HN : Hid (¬ Lx.IsValue s.data.toList) := Lib.hid (value_not HBy.out (by rw [list_len]; exact hp) (by rw [valc_nums]; have := HD.out; omega))
          go_wp2_with fail
          go_ret
          exact ⟨false, rfl, tells_no HN.out, HB2.out⟩
        · have e1 : decide ((c : Int) < 33) = false := by simp; omega
          by_cases h126 : 126 < c
          · have e2 : decide (126 < (c : Int)) = true := by simp; omega
            have HN : Hid (¬ Lx.IsValue s.data.toList) := Lib.hid (value_not HBy.out (by rw [list_len]; exact hp) (by rw [valc_nums]; have := HD.out; omega))
            go_wp2_with fail
            go_ret
            exact ⟨false, rfl, tells_no HN.out, HB2.out⟩
          · have e2 : decide (126 < (c : Int)) = false := by simp; omega
            by_cases h34 : c = 34
            · have f34 : ((c : Int) == 34) = true := by subst h34; rfl
              have HN : Hid (¬ Lx.IsValue s.data.toList) := Lib.hid (value_not HBy.out (by rw [list_len]; exact hp) (by rw [valc_nums]; have := HD.out; omega))
              clear h34
              go_wp2_with fail
              go_ret
              exact ⟨false, rfl, tells_no HN.out, HB2.out⟩
            · have f34 : ((c : Int) == 34) = false := by rw [beq_eq_false_iff_ne]; omega
              by_cases h92 : c = 92
              · have f92 : ((c : Int) == 92) = true := by subst h92; rfl
                have HN : Hid (¬ Lx.IsValue s.data.toList) := Lib.hid (value_not HBy.out (by rw [list_len]; exact hp) (by rw [valc_nums]; have := HD.out; omega))
                clear h92
                go_wp2_with fail
                go_ret
                exact ⟨false, rfl, tells_no HN.out, HB2.out⟩
              · have f92 : ((c : Int) == 92) = false := by rw [beq_eq_false_iff_ne]; omega
                by_cases h44 : c = 44
                · have f44 : ((c : Int) == 44) = true := by subst h44; rfl
                  have HN : Hid (¬ Lx.IsValue s.data.toList) := Lib.hid (value_not HBy.out (by rw [list_len]; exact hp) (by rw [valc_nums]; have := HD.out; omega))
                  clear h44
                  go_wp2_with fail
                  go_ret
                  exact ⟨false, rfl, tells_no HN.out, HB2.out⟩
                · have f44 : ((c : Int) == 44) = false := by rw [beq_eq_false_iff_ne]; omega
                  by_cases h123 : c = 123
                  · have f123 : ((c : Int) == 123) = true := by subst h123; rfl
                    have HN : Hid (¬ Lx.IsValue s.data.toList) := Lib.hid (value_not HBy.out (by rw [list_len]; exact hp) (by rw [valc_nums]; have := HD.out; omega))
                    clear h123
                    go_wp2_with fail
                    go_ret
                    exact ⟨false, rfl, tells_no HN.out, HB2.out⟩
                  · have f123 : ((c : Int) == 123) = false := by rw [beq_eq_false_iff_ne]; omega
                    by_cases h125 : c = 125
                    · have f125 : ((c : Int) == 125) = true := by subst h125; rfl
                      have HN : Hid (¬ Lx.IsValue s.data.toList) := Lib.hid (value_not HBy.out (by rw [list_len]; exact hp) (by rw [valc_nums]; have := HD.out; omega))
                      clear h125
                      go_wp2_with fail
                      go_ret
                      exact ⟨false, rfl, tells_no HN.out, HB2.out⟩
                    · have f125 : ((c : Int) == 125) = false := by rw [beq_eq_false_iff_ne]; omega
                      have hbc : b.toNat = c ∧ n = 1 := by have := HD.out; omega
                      obtain ⟨hb1, rfl⟩ := hbc
                      have HT2 : Hid (∀ j, j < pos + 1 → Lx.valc (s.data.toList.getD j 0) = true) := Lib.hid (value_step HT.out HBy.out (by rw [valc_nums]; omega))
                      clear hb1
                      go_wp2_with fail
                      go_roundw
                      case rel => exact ⟨pos + 1, by omega, HIT2, HB2, HT2⟩
                      case measure => rw [hp0.out, iterPos_of HIT2.out]; omega
      · obtain rfl : pos = s.size := by omega
        have hnx : ∀ ty, (Instr.next (.pointer (some ⟨w.heap.size, 0, none⟩)) true ty).run Try.prog wr = .ok (.tuple #[.bool false]) wr := fun ty => next_end_at wr w.heap.size s s.size ty HIT.out (by omega)
        have HY : Hid (Lx.IsValue s.data.toList) := Lib.hid ⟨by rw [list_len]; omega, fun j hj => HT.out j (by rw [list_len] at hj; exact hj)⟩
        go_wp2_with fail
        go_ret
        exact ⟨true, rfl, tells_yes HY.out, HB.out⟩

end Go.Proofs.Ytdmgacoemabcfaa
