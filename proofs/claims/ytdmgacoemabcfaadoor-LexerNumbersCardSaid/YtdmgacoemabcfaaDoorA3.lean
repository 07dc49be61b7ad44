/- The walks of strings.IndexByte, and of the lexer's text and symbol. -/
import Derived.Test.YtdmgacoemabcfaaDoorA2
import Derived.Lib.Bytealg
import Derived.Lib.IndexBytes
namespace Go.Proofs.YtdmgacoemabcfaaDoor
open Go.RowKit

set_option maxHeartbeats 400000 in
theorem indexByte_any (s : ByteArray) (c : Int) (w : World) :
    Calls Tryd.prog 24 #[.string s, .int .u8 c] w fun e w' => e = .returned (.int .i64 (Lib.indexByte s.data.toList c.toNat.toUInt8)) ∧ w = w' := by
  have hx : ∀ w, (callFunc 35 #[.string s, .int .u8 c]).run Tryd.prog w = .ok (.value (.int .i64 (Lib.indexByte s.data.toList c.toNat.toUInt8))) w := by
    intro w
    rw [run_callFunc_extern Tryd.func35 (by kernel_rfl) (by kernel_rfl) (by kernel_rfl) (e := Extern.BytealgIndexByte.indexByte) (by kernel_rfl), Lib.run_indexByteString]
    rfl
  go_enter Tryd.func24, Tryd.ntmps24
  go_wp2
  go_ret
  exact ⟨rfl, rfl⟩

/-- IndexByte as the end of a run of other bytes -/
theorem indexByte_stop (l : List UInt8) (i : Nat) (hi : i ≤ l.length) :
    Lib.indexByte (l.drop i) 34 = if Lx.stop Lx.noq l i < l.length then ((Lx.stop Lx.noq l i - i : Nat) : Int) else -1 := by
  induction hn : l.length - i generalizing i with
  | zero =>
    rw [List.drop_eq_nil_of_le (by omega), Lx.stop_end _ _ _ (by omega), if_neg (by omega)]
    rfl
  | succ n ih =>
    have hlt : i < l.length := by omega
    rw [List.drop_eq_getElem_cons hlt, Lib.indexByte]
    by_cases hq : l[i] = 34
    · rw [if_pos (by simp [hq]), Lx.stop_no _ _ _ hlt (by simp [Lx.noq, hq]), if_pos hlt]
      simp
    · rw [if_neg (by simp [hq]), Lx.stop_yes _ _ _ hlt (by simp [Lx.noq, hq]), ih (i + 1) (by omega) (by omega)]
      have := Lx.stop_ge Lx.noq l (i + 1)
      split
      · rw [if_neg (by simp)]
        omega
      · simp

theorem indexByte_four (c : UInt8) : (0 ≤ Lib.indexByte [92, 44, 123, 125] c) ↔ (c = 92 ∨ c = 44 ∨ c = 123 ∨ c = 125) := by
  simp only [Lib.indexByte, beq_iff_eq]
  by_cases h1 : (92 : UInt8) = c
  · simp [h1]
  · by_cases h2 : (44 : UInt8) = c
    · simp [h1, h2]
    · by_cases h3 : (123 : UInt8) = c
      · simp [h1, h2, h3]
      · by_cases h4 : (125 : UInt8) = c
        · simp [h1, h2, h3, h4]
        · simp [h1, h2, h3, h4, Ne.symm h1, Ne.symm h2, Ne.symm h3, Ne.symm h4]

theorem Src.drew {w : World} {Q : Nat} {s : ByteArray} {i e : Nat} (h : Src w Q s i e) : Src w.drew Q s i e := h
theorem Src.drewN {w : World} {Q : Nat} {s : ByteArray} {i e : Nat} (h : Src w Q s i e) (n : Nat) : Src (w.drewN n) Q s i e := h
theorem Src.alloc {w : World} {Q : Nat} {s : ByteArray} {i e : Nat} (h : Src w Q s i e) (o : Obj) : Src (w.alloc o) Q s i e := Blk.alloc h o
theorem Src.far {w : World} {Q : Nat} {s : ByteArray} {i e : Nat} (h : Src w Q s i e) {p : Addr} (hp : Q ≠ p.block) (u : Value) : Src (w.setCell p u) Q s i e := Blk.far h hp u
theorem Src.err {w : World} {Q : Nat} {s : ByteArray} {i e : Nat} (h : Src w Q s i e) (e' : Nat) : Src (w.setCell ⟨Q, 2, none⟩ (.int .i64 (e' : Int))) Q s i e' := Blk.set_ h 2 _
theorem Src.to {w : World} {Q : Nat} {s : ByteArray} {i e : Nat} (h : Src w Q s i e) (i' : Nat) : Src (w.setCell ⟨Q, 1, none⟩ (.int .i64 (i' : Int))) Q s i' e := Blk.set_ h 1 _

theorem indexByte_quote (s : ByteArray) (i : Nat) (hi : i ≤ s.size) (v : Int) (hv : (if Lx.stop Lx.noq s.data.toList i < s.data.toList.length then ((Lx.stop Lx.noq s.data.toList i - i : Nat) : Int) else -1) = v) (w : World) :
    Calls Tryd.prog 24 #[.string (s.extract i s.size), .int .u8 34] w fun e w' => e = .returned (.int .i64 v) ∧ w' = w :=
  (indexByte_any _ _ w).mono fun e w' ⟨he, hw⟩ => ⟨by
    rw [he]
    refine ret_int ?_
    rw [← hv, ← indexByte_stop s.data.toList i (by simpa using hi)]
    congr 1
    rw [Lib.extract_to_end], hw.symm⟩

set_option maxHeartbeats 1000000 in
theorem text_open (Q : Nat) (s : ByteArray) (i : Nat) (hs : s.size ≤ maxLen) (hi : i < s.size) (w : World) (hQ : Src w Q s i 0)
    (hq : s.size ≤ Lx.stop Lx.noq s.data.toList (i + 1)) :
    Calls Tryd.prog 19 #[.pointer (some ⟨Q, 0, none⟩)] w fun e w' => e = .returned (tokVal 0 ⟨#[]⟩ 0 0) ∧ Left w Q s i 2 w' := by
  have h0 : w.cell? ⟨Q, 0, none⟩ = some (.string s) := hQ.cell 0
  have h1 : w.cell? ⟨Q, 1, none⟩ = some (.int .i64 i) := hQ.cell 1
  have h2 : w.cell? ⟨Q, 2, none⟩ = some (.int .i64 (0 : Nat)) := hQ.cell 2
  have hf := hQ.frozen 2
  have hlt := hQ.lt
  have HQ := Lib.hid hQ
  have HI := fun W => Lib.hid (indexByte_quote s (i + 1) (by omega) (-1) (by rw [if_neg (by simp; omega)]) W)
  clear hQ hq
  unfold maxLen at hs
  go_enter Tryd.func19, Tryd.ntmps19
  go_wp2_with fail
  go_quiet ((go_at_call 24; exact Calls.quiet_of_same (HI _).out))
  go_wp2
  refine bodyPost_ret (v := tokVal 0 ⟨#[]⟩ 0 0) (by simp [results, Tryd.results19, go_sem, tokVal]) rfl ⟨rfl, ?_⟩
  exact ⟨by repeat (first | (with_reducible exact only_refl _ _) | (with_reducible refine only_drewN ?_ _) | (with_reducible refine only_drew ?_) | (with_reducible refine only_alloc ?_ _) | (with_reducible refine only_setCell ?_ (.inl rfl) _) | (with_reducible refine only_setCell ?_ (.inr (Nat.le_refl _)) _)), by repeat (first | (with_reducible exact HQ.out) | (with_reducible refine Src.drewN ?_ _) | (with_reducible refine Src.drew ?_) | (with_reducible refine Src.alloc ?_ _) | (with_reducible refine Src.far ?_ (Nat.ne_of_lt hlt) _) | (refine Src.err (e := 0) ?_ _))⟩

theorem vals_of_all (l : List UInt8) (h : l.all Lx.valc = true) (k : Nat) (hk : k < l.length) : Lx.valc l[k] = true :=
  List.all_eq_true.1 h _ (List.getElem_mem hk)

theorem valc_iff (c : UInt8) : Lx.valc c = true ↔ (33 ≤ (c.toNat : Int) ∧ (c.toNat : Int) ≤ 126 ∧ c ≠ 34 ∧ ¬ 0 ≤ Lib.indexByte [92, 44, 123, 125] c) := by
  rw [indexByte_four]
  unfold Lx.valc
  simp [UInt8.le_iff_toNat_le]
  constructor
  · rintro ⟨⟨⟨⟨⟨⟨a, b⟩, c⟩, d⟩, e⟩, f⟩, g⟩
    exact ⟨by omega, by omega, c, d, e, f, g⟩
  · rintro ⟨a, b, c, d, e, f, g⟩
    exact ⟨⟨⟨⟨⟨⟨by omega, by omega⟩, c⟩, d⟩, e⟩, f⟩, g⟩

/-- the test of one byte of a string's contents -/
theorem indexByte_valc (c : UInt8) (w : World) :
    Calls Tryd.prog 24 #[.string ⟨#[92, 44, 123, 125]⟩, .int .u8 (c.toNat : Int)] w fun e w' => e = .returned (.int .i64 (Lib.indexByte [92, 44, 123, 125] c)) ∧ w = w' :=
  (indexByte_any _ _ w).mono fun e w' ⟨he, hw⟩ => ⟨by
    rw [he]
    refine ret_int ?_
    congr 1
    simp, hw⟩

theorem all_take_succ (l : List UInt8) (k : Nat) (hk : k < l.length) (h : (l.take k).all Lx.valc = true) (hc : Lx.valc l[k] = true) : (l.take (k + 1)).all Lx.valc = true := by
  rw [List.take_succ_eq_append_getElem hk, List.all_append, h]
  simp [hc]
theorem all_false_of (l : List UInt8) (k : Nat) (hk : k < l.length) (hc : Lx.valc l[k] = false) : l.all Lx.valc = false := by
  cases h : l.all Lx.valc with
  | false => rfl
  | true => rw [vals_of_all l h k hk] at hc; cases hc

def TextPost (w : World) (Q : Nat) (s tx : ByteArray) (i m : Nat) (e : Ending) (w' : World) : Prop :=
  (tx.data.toList.all Lx.valc = false ∧ e = .returned (tokVal 0 ⟨#[]⟩ 0 0) ∧ Left w Q s i 2 w') ∨
  (tx.data.toList.all Lx.valc = true ∧ 16 < m ∧ e = .returned (tokVal 2 tx 0 i) ∧ Left w Q s i 4 w') ∨
  (tx.data.toList.all Lx.valc = true ∧ m ≤ 16 ∧ e = .returned (tokVal 2 tx 0 i) ∧ Left w Q s i 0 w')

set_option maxHeartbeats 2000000 in
set_option maxRecDepth 100000 in
theorem text_closed (Q : Nat) (s : ByteArray) (i : Nat) (hs : s.size ≤ maxLen) (hi : i < s.size) (w : World) (hQ : Src w Q s i 0)
    (m : Nat) (hq : Lx.stop Lx.noq s.data.toList (i + 1) = i + 1 + m) (hm : i + 1 + m < s.size) (tx : ByteArray) (hT : s.extract (i + 1) (i + 1 + m) = tx) :
    Calls Tryd.prog 19 #[.pointer (some ⟨Q, 0, none⟩)] w (TextPost w Q s tx i m) := by
  have h0 : w.cell? ⟨Q, 0, none⟩ = some (.string s) := hQ.cell 0
  have h1 : w.cell? ⟨Q, 1, none⟩ = some (.int .i64 i) := hQ.cell 1
  have h2 : w.cell? ⟨Q, 2, none⟩ = some (.int .i64 (0 : Nat)) := hQ.cell 2
  have hf := hQ.frozen 2
  have hlt := hQ.lt
  have HQ := Lib.hid hQ
  have HI := fun W => Lib.hid (indexByte_quote s (i + 1) (by omega) (m : Int) (by rw [if_pos (by simp; omega), hq]; omega) W)
  have hsz : tx.size = m := by rw [← hT]; simp; omega
  have HN : Hid (∀ k (h : k < tx.size), tx[k] ≠ 34) := by
    refine Lib.hid ?_
    intro k hk
    have := Lx.stop_all Lx.noq s.data.toList (i + 1) (i + 1 + k) (by omega) (by omega) (by simp; omega)
    subst hT
    rw [ByteArray.getElem_extract]
    intro e
    rw [toList_get s _ (by omega), Lx.noq, e] at this
    exact absurd this (by decide)
  have HZ := Lib.hid hsz
  have hmin : min (i + 1 + m) s.size - (i + 1) = m := by omega
  have hm0 : decide ((m : Int) < 0) = false := by simp
  clear hQ hq
  unfold maxLen at hs
  go_enter Tryd.func19, Tryd.ntmps19
  go_wp2_with fail
  go_quiet ((go_at_call 24; exact Calls.quiet_of_same (HI _).out))
  go_wp2_with fail
  go_quiet (fail)
  rw [hT]
  go_wp2_with fail
  go_loop [5, 6, 43] (fun _ _ v => ∃ k : Nat, k ≤ m ∧ v = .int .i64 k ∧ Hid ((tx.data.toList.take k).all Lx.valc = true)) (fun _ _ v => m - (intOf v).toNat)
  case atStart => exact ⟨0, Nat.zero_le _, rfl, Lib.hid (by simp)⟩
  case round =>
    obtain ⟨k, hk, rfl, HA⟩ := hrel
    by_cases hlk : k < m
    · have hks : k < tx.size := by omega
      have hkl : k < tx.data.toList.length := by simpa using hks
      have hne := HN.out k hks
      have hv := valc_iff tx[k]
      have hb : (tx[k].toNat : Int) < 256 := by have := tx[k].toNat_lt; omega
      cases hc : Lx.valc tx[k]
      · have HF := Lib.hid (all_false_of tx.data.toList k hkl hc)
        rw [hc] at hv
        by_cases ha : (tx[k].toNat : Int) < 33
        · clear hv hne hc
          go_wp2
          refine bodyPost_ret (v := tokVal 0 ⟨#[]⟩ 0 0) (by simp [results, Tryd.results19, go_sem, tokVal]) rfl (.inl ⟨HF.out, rfl, ?_⟩)
          exact ⟨by repeat (first | (with_reducible exact only_refl _ _) | (with_reducible refine only_drewN ?_ _) | (with_reducible refine only_drew ?_) | (with_reducible refine only_alloc ?_ _) | (with_reducible refine only_setCell ?_ (.inl rfl) _) | (with_reducible refine only_setCell ?_ (.inr (Nat.le_refl _)) _)), by repeat (first | (with_reducible exact HQ.out) | (with_reducible refine Src.drewN ?_ _) | (with_reducible refine Src.drew ?_) | (with_reducible refine Src.alloc ?_ _) | (with_reducible refine Src.far ?_ (Nat.ne_of_lt hlt) _) | (refine Src.err (e := 0) ?_ _))⟩
        · by_cases hb2 : 126 < (tx[k].toNat : Int)
          · clear hv hne hc
            go_wp2
            refine bodyPost_ret (v := tokVal 0 ⟨#[]⟩ 0 0) (by simp [results, Tryd.results19, go_sem, tokVal]) rfl (.inl ⟨HF.out, rfl, ?_⟩)
            exact ⟨by repeat (first | (with_reducible exact only_refl _ _) | (with_reducible refine only_drewN ?_ _) | (with_reducible refine only_drew ?_) | (with_reducible refine only_alloc ?_ _) | (with_reducible refine only_setCell ?_ (.inl rfl) _) | (with_reducible refine only_setCell ?_ (.inr (Nat.le_refl _)) _)), by repeat (first | (with_reducible exact HQ.out) | (with_reducible refine Src.drewN ?_ _) | (with_reducible refine Src.drew ?_) | (with_reducible refine Src.alloc ?_ _) | (with_reducible refine Src.far ?_ (Nat.ne_of_lt hlt) _) | (refine Src.err (e := 0) ?_ _))⟩
          · have hd : 0 ≤ Lib.indexByte [92, 44, 123, 125] tx[k] := by
              simp at hv
              exact hv (by omega) (by omega) hne
            clear hv hne hc
            go_wp2_with (go_at_call 24; refine (indexByte_valc _ _).mono ?_; rintro e w' ⟨rfl, rfl⟩)
            refine bodyPost_ret (v := tokVal 0 ⟨#[]⟩ 0 0) (by simp [results, Tryd.results19, go_sem, tokVal]) rfl (.inl ⟨HF.out, rfl, ?_⟩)
            exact ⟨by repeat (first | (with_reducible exact only_refl _ _) | (with_reducible refine only_drewN ?_ _) | (with_reducible refine only_drew ?_) | (with_reducible refine only_alloc ?_ _) | (with_reducible refine only_setCell ?_ (.inl rfl) _) | (with_reducible refine only_setCell ?_ (.inr (Nat.le_refl _)) _)), by repeat (first | (with_reducible exact HQ.out) | (with_reducible refine Src.drewN ?_ _) | (with_reducible refine Src.drew ?_) | (with_reducible refine Src.alloc ?_ _) | (with_reducible refine Src.far ?_ (Nat.ne_of_lt hlt) _) | (refine Src.err (e := 0) ?_ _))⟩
      · have HT := Lib.hid (all_take_succ tx.data.toList k hkl HA.out hc)
        obtain ⟨ha, hb2, _, hd⟩ := hv.1 hc
        clear hv hne hc
        go_wp2_with (go_at_call 24; refine (indexByte_valc _ _).mono ?_; rintro e w' ⟨rfl, rfl⟩)
        go_round
        case rel => exact ⟨k + 1, by omega, by go_num, HT⟩
        case measure => simp [intOf]; omega
    · have HT : Hid (tx.data.toList.all Lx.valc = true) := by
        have := HA.out
        rw [List.take_of_length_le (by simp; omega)] at this
        exact Lib.hid this
      by_cases hm16 : 16 < m
      · go_wp2
        refine bodyPost_ret (v := tokVal 2 tx 0 i) (by simp [results, Tryd.results19, go_sem, tokVal]) rfl (.inr (.inl ⟨HT.out, hm16, rfl, ?_⟩))
        exact ⟨by repeat (first | (with_reducible exact only_refl _ _) | (with_reducible refine only_drewN ?_ _) | (with_reducible refine only_drew ?_) | (with_reducible refine only_alloc ?_ _) | (with_reducible refine only_setCell ?_ (.inl rfl) _) | (with_reducible refine only_setCell ?_ (.inr (Nat.le_refl _)) _)), by repeat (first | (with_reducible exact HQ.out) | (with_reducible refine Src.drewN ?_ _) | (with_reducible refine Src.drew ?_) | (with_reducible refine Src.alloc ?_ _) | (with_reducible refine Src.far ?_ (Nat.ne_of_lt hlt) _) | (refine Src.err (e := 0) ?_ _))⟩
      · go_wp2
        refine bodyPost_ret (v := tokVal 2 tx 0 i) (by simp [results, Tryd.results19, go_sem, tokVal]) rfl (.inr (.inr ⟨HT.out, by omega, rfl, ?_⟩))
        exact ⟨by repeat (first | (with_reducible exact only_refl _ _) | (with_reducible refine only_drewN ?_ _) | (with_reducible refine only_drew ?_) | (with_reducible refine only_alloc ?_ _) | (with_reducible refine only_setCell ?_ (.inl rfl) _) | (with_reducible refine only_setCell ?_ (.inr (Nat.le_refl _)) _)), by repeat (first | (with_reducible exact HQ.out) | (with_reducible refine Src.drewN ?_ _) | (with_reducible refine Src.drew ?_) | (with_reducible refine Src.alloc ?_ _) | (with_reducible refine Src.far ?_ (Nat.ne_of_lt hlt) _) | (refine Src.err (e := 0) ?_ _))⟩

end Go.Proofs.YtdmgacoemabcfaaDoor
