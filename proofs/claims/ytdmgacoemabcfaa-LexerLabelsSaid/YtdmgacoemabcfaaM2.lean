/- The walk of labels.Text. -/
import Derived.Test.YtdmgacoemabcfaaM1
import Derived.Test.YtdmgacoemabcfaaLm
namespace Go.Proofs.Ytdmgacoemabcfaa
open Go.RowKit

/-- labels in memory, below block B -/
def Labs (w : World) (B : Nat) (A : Option Addr) (ls : List Lx.Lab) : Prop :=
  0 < ls.length → ∃ b off, A = some ⟨b, off, none⟩ ∧ b < B ∧ ∀ i (h : i < ls.length), w.cell? ⟨b, off + i * 2, none⟩ = some (.string ⟨ls[i].name.toArray⟩) ∧ w.cell? ⟨b, off + i * 2 + 1, none⟩ = some (.string ⟨ls[i].value.toArray⟩)
theorem Labs.later {w w' : World} {A : Option Addr} {ls : List Lx.Lab} (h : Labs w w.heap.size A ls) (hb : Below w.heap.size w w') : Labs w' w'.heap.size A ls := fun hn => by
  obtain ⟨b, off, e, hlt, hc⟩ := h hn
  refine ⟨b, off, e, Nat.lt_of_lt_of_le hlt hb.size, fun i hi => ?_⟩
  exact ⟨(hb.cell (p := ⟨b, off + i * 2, none⟩) hlt).trans (hc i hi).1, (hb.cell (p := ⟨b, off + i * 2 + 1, none⟩) hlt).trans (hc i hi).2⟩

/-- the builder of Text, the first block that the call has made, holds acc -/
def St (w : World) (acc : List UInt8) (W : World) : Prop := Lib.IsBuilderF 58 5 w.heap.size w.heap.size (Lib.byteCells acc) W ∧ Below w.heap.size w W
theorem St.alloc {w W : World} {acc : List UInt8} (h : St w acc W) (o : Obj) : St w acc (W.alloc o) := ⟨h.1.alloc o, h.2.alloc h.2.size o⟩
theorem keep_blk {B : Nat} {W W' : World} (h : Lib.OthersKept 5 (some B) W W') {g : Nat} {cs : Array Value} (hb : Blk W g 43 cs) (hg : g ≠ B) : Blk W' g 43 cs :=
  h g _ hb (fun e => hg (Option.some.inj e)) (fun c fz e => by injection e with _ e; exact absurd e (by decide))

/-- what a write leaves -/
def Put (w : World) (acc : List UInt8) (v : Value) (W : World) (e : Ending) (W' : World) : Prop :=
  e = .returned v ∧ St w acc W' ∧ ∀ g cs, Blk W g 43 cs → g ≠ w.heap.size → Blk W' g 43 cs

theorem put_byte (w W : World) (acc : List UInt8) (c : UInt8) (ci : Int) (hc : (c.toNat : Int) = ci) (h : St w acc W) (hl : acc.length ≤ 100000) :
    Calls Try.prog 30 #[.pointer (some ⟨w.heap.size, 0, none⟩), .int .u8 ci] W (Put w (acc ++ [c]) .nilIface W) := by
  subst hc
  refine (writeByte_any w.heap.size w.heap.size _ _ W h.1 (by rw [Lib.byteCells_length]; omega) h.2.size).mono ?_
  rintro e W' ⟨rfl, h1, h2, h3⟩
  refine ⟨rfl, ⟨Or.inr ?_, h.2.trans h2⟩, fun g cs hb hg => keep_blk h3 hb hg⟩
  rw [Lib.byteCells_append]
  exact h1
theorem put_string (w W : World) (acc : List UInt8) (s : List UInt8) (h : St w acc W) (hl : acc.length ≤ 100000) (hs : s.length ≤ 100000) :
    Calls Try.prog 31 #[.pointer (some ⟨w.heap.size, 0, none⟩), .string ⟨s.toArray⟩] W (Put w (acc ++ s) (.tuple #[.int .i64 ((⟨s.toArray⟩ : ByteArray).size : Int), .nilIface]) W) := by
  refine (writeString_any w.heap.size w.heap.size _ ⟨s.toArray⟩ W h.1 (by rw [Lib.byteCells_length, bsz3]; simp; omega) h.2.size).mono ?_
  rintro e W' ⟨rfl, h1, h2, h3⟩
  refine ⟨rfl, ⟨Or.inr ?_, h.2.trans h2⟩, fun g cs hb hg => keep_blk h3 hb hg⟩
  rw [Lib.byteCells_append]
  exact h1

theorem item_len (x : Lx.Lab) (h1 : x.name.length ≤ 16) (h2 : x.value.length ≤ 16) : (Lx.item x).length ≤ 35 := by unfold Lx.item; simp; omega

set_option maxRecDepth 100000 in
set_option maxHeartbeats 2000000 in
theorem labText_any (A : Option Addr) (cap : Nat) (ls : List Lx.Lab) (hl : ls.length ≤ 100) (hs : ∀ x ∈ ls, x.name.length ≤ 16 ∧ x.value.length ≤ 16) (w : World) (hx : Labs w w.heap.size A ls) :
    Calls Try.prog 23 #[.slice A ls.length cap] w fun e w' => e = .returned (.string ⟨(Lx.labText ls).toArray⟩) ∧ Below w.heap.size w w' := by
  have h0 : St w [] (w.alloc (.cells #[.pointer none, .slice none 0 0] 58)) := ⟨Lib.IsBuilderF.of (Lib.fresh_isBuilder 58 5 w), (Below.refl _ w).alloc (Nat.le_refl _) _⟩
  have HW0 := Lib.hid (put_byte w _ [] 123 123 rfl h0 (by simp))
  have HX := Lib.hid hx
  have HS := Lib.hid hs
  have HLT : Hid (Lx.labText ls = Lx.accum 0 [123] ls ++ [125]) := Lib.hid rfl
  generalize Lx.labText ls = LT at *
  clear hx hs h0
  go_enter Try.func23, Try.ntmps23
  go_wp2_with fail
  refine HW0.out.mono ?_
  rintro e w1 ⟨rfl, hst, -⟩
  have HST := Lib.hid hst
  clear hst HW0
  go_wp2_with fail
  go_loopw [4, 5, 9] (fun _ _ v wr => ∃ (k : Nat) (acc : List UInt8), v = .int .i64 (k : Int) ∧ k ≤ ls.length ∧ acc.length ≤ 1 + 40 * k ∧ Hid (St w acc wr) ∧ Hid (Lx.accum 0 [123] ls = Lx.accum k acc (ls.drop k))) (fun _ _ v _ => ls.length - (intOf v).toNat)
  case atStart => exact ⟨0, [123], rfl, Nat.zero_le _, by simp, HST, Lib.hid rfl⟩
  case round =>
    obtain ⟨k, acc, rfl, hk, hal, HW, HA⟩ := hrel
    clear HST
    by_cases hlt : k < ls.length
    · obtain ⟨b, off, rfl, hbl, hcell⟩ := HX.out (by omega)
      obtain ⟨c0, c1⟩ := hcell k hlt
      replace c0 := (HW.out.2.cell (p := ⟨b, off + k * 2, none⟩) hbl).trans c0
      replace c1 := (HW.out.2.cell (p := ⟨b, off + k * 2 + 1, none⟩) hbl).trans c1
      obtain ⟨n1, v1⟩ := HS.out _ (List.getElem_mem hlt)
      have HN := Lib.hid (Lx.accum_step k acc ls hlt)
      have hil := item_len _ n1 v1
      have HIT : Hid (Lx.item ls[k] = ls[k].name ++ 61 :: 34 :: (ls[k].value ++ [34])) := Lib.hid rfl
      have hszw := HW.out.2.size
      have hneg : wr.heap.size ≠ w.heap.size := by
        intro e
        rcases HW.out.1 with h | h <;> (obtain ⟨_, v, hb, _⟩ := h; have := (Array.getElem?_eq_some_iff.1 hb).1; omega)
      generalize ls[k] = x at *
      obtain ⟨nm, vl⟩ := x
      dsimp only at c0 c1 n1 v1 HIT
      obtain ⟨wx, hwx⟩ : ∃ wx, wx = wr.alloc (.cells #[.string ⟨nm.toArray⟩, .string ⟨vl.toArray⟩] 43) := ⟨_, rfl⟩
      have HBX : Hid (Blk wx wr.heap.size 43 #[.string ⟨nm.toArray⟩, .string ⟨vl.toArray⟩]) := Lib.hid (by rw [hwx]; exact Blk.new wr 43 _)
      have HSX : Hid (St w acc wx) := Lib.hid (by rw [hwx]; exact HW.out.alloc _)
      have HWX := Lib.hid hwx
      have HNEG := Lib.hid hneg
      clear hcell hwx hneg
      by_cases h0 : 0 < k
      · have HP0 := Lib.hid (put_byte w wx acc 44 44 rfl HSX.out (by omega))
        go_wp2_with fail
        rw [← HWX.out]
        refine HP0.out.mono ?_
        rintro e wy ⟨rfl, hsty, hky⟩
        have HSY := Lib.hid hsty
        have HBY := Lib.hid (hky _ _ HBX.out HNEG.out)
        clear hsty hky HP0
        have x0 := HBY.out.cell 0
        have x1 := HBY.out.cell 1
        have HP1 := Lib.hid (put_string w wy (acc ++ [44]) nm HSY.out (by simp; omega) (by omega))
        go_wp2_with fail
        refine HP1.out.mono ?_
        rintro e w2 ⟨rfl, hst2, hk2⟩
        have HS2 := Lib.hid hst2
        have HB2 := Lib.hid (hk2 _ _ HBY.out HNEG.out)
        have HP2 := Lib.hid (put_string w w2 ((acc ++ [44]) ++ nm) [61, 34] hst2 (by simp; omega) (by simp))
        clear hst2 hk2 x0 x1 HP1
        go_wp2_with fail
        refine HP2.out.mono ?_
        rintro e w3 ⟨rfl, hst3, hk3⟩
        have HB3 := Lib.hid (hk3 _ _ HB2.out HNEG.out)
        have x1 := HB3.out.cell 1
        have HP3 := Lib.hid (put_string w w3 ((acc ++ [44]) ++ nm ++ [61, 34]) vl hst3 (by simp; omega) (by omega))
        clear hst3 hk3 HP2 HS2 HB2
        go_wp2_with fail
        refine HP3.out.mono ?_
        rintro e w4 ⟨rfl, hst4, -⟩
        have HP4 := Lib.hid (put_byte w w4 ((acc ++ [44]) ++ nm ++ [61, 34] ++ vl) 34 34 rfl hst4 (by simp; omega))
        clear hst4 HP3 x1 HB3
        go_wp2_with fail
        refine HP4.out.mono ?_
        rintro e w5 ⟨rfl, hst5, -⟩
        have HS5 := Lib.hid hst5
        clear hst5 HP4
        go_wp2_with fail
        go_roundw
        case rel => exact ⟨k + 1, acc ++ [44] ++ nm ++ [61, 34] ++ vl ++ [34], by go_num, hlt, by simp; omega, HS5, Lib.hid (by rw [HA.out, HN.out, if_pos h0, HIT.out]; simp)⟩
        case measure => simp [intOf]; omega
      · have x0 := HBX.out.cell 0
        have x1 := HBX.out.cell 1
        have HP1 := Lib.hid (put_string w wx acc nm HSX.out (by omega) (by omega))
        go_wp2_with fail
        rw [← HWX.out]
        go_wp2_with fail
        refine HP1.out.mono ?_
        rintro e w2 ⟨rfl, hst2, hk2⟩
        have HS2 := Lib.hid hst2
        have HB2 := Lib.hid (hk2 _ _ HBX.out HNEG.out)
        have HP2 := Lib.hid (put_string w w2 (acc ++ nm) [61, 34] hst2 (by simp; omega) (by simp))
        clear hst2 hk2 x0 x1 HP1
        go_wp2_with fail
        refine HP2.out.mono ?_
        rintro e w3 ⟨rfl, hst3, hk3⟩
        have HB3 := Lib.hid (hk3 _ _ HB2.out HNEG.out)
        have x1 := HB3.out.cell 1
        have HP3 := Lib.hid (put_string w w3 (acc ++ nm ++ [61, 34]) vl hst3 (by simp; omega) (by omega))
        clear hst3 hk3 HP2 HS2 HB2
        go_wp2_with fail
        refine HP3.out.mono ?_
        rintro e w4 ⟨rfl, hst4, -⟩
        have HP4 := Lib.hid (put_byte w w4 (acc ++ nm ++ [61, 34] ++ vl) 34 34 rfl hst4 (by simp; omega))
        clear hst4 HP3 x1 HB3
        go_wp2_with fail
        refine HP4.out.mono ?_
        rintro e w5 ⟨rfl, hst5, -⟩
        have HS5 := Lib.hid hst5
        clear hst5 HP4
        go_wp2_with fail
        go_roundw
        case rel => exact ⟨k + 1, acc ++ nm ++ [61, 34] ++ vl ++ [34], by go_num, hlt, by simp; omega, HS5, Lib.hid (by rw [HA.out, HN.out, if_neg (by omega), HIT.out]; simp)⟩
        case measure => simp [intOf]; omega
    · have hd : ls.drop k = [] := List.drop_of_length_le (by omega)
      have HE : Hid (Lx.accum 0 [123] ls = acc) := Lib.hid (by rw [HA.out, hd]; rfl)
      have HP := Lib.hid (put_byte w wr acc 125 125 rfl HW.out (by omega))
      clear hd
      go_wp2_with fail
      refine HP.out.mono ?_
      rintro e w2 ⟨rfl, hst2, -⟩
      have HS2 := Lib.hid hst2
      have HSt := Lib.hid (Try.Builder_String_any_k w.heap.size w.heap.size (acc ++ [125]) w2 hst2.1 hst2.2.size)
      clear hst2 HP
      go_wp2_with fail
      refine HSt.out.mono ?_
      rintro e w3 ⟨rfl, -, hb3, -⟩
      have HB3 := Lib.hid (HS2.out.2.trans hb3)
      clear hb3 HSt HS2
      go_wp2_with fail
      go_ret
      exact ⟨by rw [HLT.out, HE.out]; rfl, HB3.out⟩

end Go.Proofs.Ytdmgacoemabcfaa
