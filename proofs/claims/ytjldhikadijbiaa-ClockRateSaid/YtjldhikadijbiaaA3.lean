/- The walk of the clock's Ticks. -/
import Derived.Test.YtjldhikadijbiaaA2
import Derived.Test.YtjldhikadijbiaaCl
namespace Go.Proofs.Ytjldhikadijbiaa
open Go.RowKit

/-- a block that is known whole -/
def Blk (w : World) (g : Nat) (t : TypeId) (cs : Array Value) : Prop := w.heap[g]? = some (.cells cs t (0, 0))
section
variable {w w' : World} {g : Nat} {t : TypeId} {cs : Array Value}
theorem Blk.lt (h : Blk w g t cs) : g < w.heap.size := by
  rcases Nat.lt_or_ge g w.heap.size with hlt | hge
  · exact hlt
  · unfold Blk at h; rw [Array.getElem?_eq_none hge] at h; cases h
theorem Blk.cell (h : Blk w g t cs) (i : Nat) : w.cell? ⟨g, i, none⟩ = cs[i]? := cell_of_row w g i cs t (0, 0) h
theorem Blk.frozen (h : Blk w g t cs) (i : Nat) : w.frozen? ⟨g, i, none⟩ = false := by
  unfold Blk at h
  simp [World.frozen?, h]
theorem Blk.new (w : World) (t : TypeId) (cs : Array Value) : Blk (w.alloc (.cells cs t)) w.heap.size t cs := heap_alloc_new w _
theorem Blk.drewN (h : Blk w g t cs) (n : Nat) : Blk (w.drewN n) g t cs := h
theorem Blk.alloc (h : Blk w g t cs) (o : Obj) : Blk (w.alloc o) g t cs := (Below.heap_alloc w o g h.lt).trans h
end
theorem below_drewN {B : Nat} {a w : World} (h : Below B a w) (n : Nat) : Below B a (w.drewN n) := ⟨h.os, h.tape, h.output, h.size, h.block⟩

/-- three results: two ints and an error -/
def Three (t : Int × Int × Int) (w : World) (e : Ending) (w' : World) : Prop := e = .returned (.tuple #[.int .i64 t.1, .int .i64 t.2.1, .int .i64 t.2.2]) ∧ Below w.heap.size w w'

theorem okEx_of {l : List Ck.Ex} {d : Int} (h : Ck.valid d l = true) : (0 ≤ d ∧ d ≤ 512 ∧ 1 ≤ l.length ∧ l.length ≤ 16) ∧ ∀ x ∈ l, 0 ≤ x.send ∧ x.send ≤ x.recv ∧ x.recv ≤ 1048576 ∧ -1073741824 ≤ x.reading ∧ x.reading ≤ 1073741824 := by
  unfold Ck.valid at h
  rw [Bool.and_eq_true, decide_eq_true_eq] at h
  refine ⟨h.1, fun x hx => ?_⟩
  have := List.all_eq_true.1 h.2 x hx
  unfold Ck.okEx at this
  exact of_decide_eq_true this

set_option maxRecDepth 100000 in
set_option maxHeartbeats 1000000 in
theorem ticks_invalid (d : Int) (A : Option Addr) (cap : Nat) (l : List Ck.Ex) (hl : l.length ≤ 9223372036854775807) (r : Int) (w : World) (hx : Exs w w.heap.size A l) (hv : Ck.valid d l = false) :
    Calls Try.prog 24 #[.int .i64 d, .slice A l.length cap, .int .i64 r] w (Three (0, 0, 1) w) := by
  have hbel : Below w.heap.size w (w.alloc (.cells #[.int .i64 d] 3)) := (Below.refl _ w).alloc (Nat.le_refl _) _
  have HV := Lib.hid (valid_any d A cap l hl _ (hx.later hbel))
  have HB := Lib.hid hbel
  rw [hv] at HV
  clear hx hbel hv
  go_enter Try.func24, Try.ntmps24
  go_wp2_with fail
  refine HV.out.mono ?_
  rintro e w1 ⟨rfl, hb1⟩
  have HB1 := Lib.hid (HB.out.trans (hb1.mono HB.out.size))
  clear hb1
  go_wp2_with fail
  go_ret3
  exact ⟨rfl, HB1.out⟩

set_option maxRecDepth 100000 in
set_option maxHeartbeats 1000000 in
theorem ticks_out (d : Int) (A : Option Addr) (cap : Nat) (l : List Ck.Ex) (hl : l.length ≤ 9223372036854775807) (r : Int) (w : World) (hx : Exs w w.heap.size A l) (hv : Ck.valid d l = true) (hr : r < -1099511627776 ∨ 1099511627776 < r) :
    Calls Try.prog 24 #[.int .i64 d, .slice A l.length cap, .int .i64 r] w (Three (0, 0, 13) w) := by
  have hbel : Below w.heap.size w (w.alloc (.cells #[.int .i64 d] 3)) := (Below.refl _ w).alloc (Nat.le_refl _) _
  have HV := Lib.hid (valid_any d A cap l hl _ (hx.later hbel))
  have HB := Lib.hid hbel
  rw [hv] at HV
  clear hx hbel hv
  rcases hr with hr | hr
  · go_enter Try.func24, Try.ntmps24
    go_wp2_with fail
    refine HV.out.mono ?_
    rintro e w1 ⟨rfl, hb1⟩
    have HB1 := Lib.hid (HB.out.trans (hb1.mono HB.out.size))
    clear hb1
    go_wp2_with fail
    go_ret3
    exact ⟨rfl, HB1.out⟩
  · have hr2 : ¬ r < -1099511627776 := by omega
    go_enter Try.func24, Try.ntmps24
    go_wp2_with fail
    refine HV.out.mono ?_
    rintro e w1 ⟨rfl, hb1⟩
    have HB1 := Lib.hid (HB.out.trans (hb1.mono HB.out.size))
    clear hb1
    go_wp2_with fail
    go_ret3
    exact ⟨rfl, HB1.out⟩

set_option maxRecDepth 100000 in
set_option maxHeartbeats 4000000 in
theorem ticks_in (d : Int) (A : Option Addr) (cap : Nat) (l : List Ck.Ex) (hl : l.length ≤ 9223372036854775807) (r : Int) (w : World) (hx : Exs w w.heap.size A l) (hv : Ck.valid d l = true) (r1 : -1099511627776 ≤ r) (r2 : r ≤ 1099511627776) :
    Calls Try.prog 24 #[.int .i64 d, .slice A l.length cap, .int .i64 r] w (Three (Ck.ticks d l r) w) := by
  have hbel : Below w.heap.size w (w.alloc (.cells #[.int .i64 d] 3)) := (Below.refl _ w).alloc (Nat.le_refl _) _
  have HV := Lib.hid (valid_any d A cap l hl _ (hx.later hbel))
  obtain ⟨⟨d0, d1, l0, l1⟩, hok⟩ := okEx_of hv
  have HOK := Lib.hid hok
  have HTK : Hid (Ck.ticks d l r = Ck.tkEnd (Ck.tkGo d r 0 1048576 l)) := Lib.hid (by
    unfold Ck.ticks; rw [if_neg (by simp [hv]), if_neg (by omega)])
  have HB := Lib.hid hbel
  have hbox := Blk.new w 3 #[.int .i64 d]
  have HX := Lib.hid (hx.below hbel)
  rw [hv] at HV
  generalize Ck.ticks d l r = res at *
  clear hx hbel hv hok
  obtain ⟨b, off, rfl, hbl, hcell⟩ := HX.out.2 (by omega)
  have HC := Lib.hid hcell
  have hbs : b < w.heap.size + 1 := by omega
  clear hcell HX
  have hbc : (w.alloc (.cells #[.int .i64 d] 3)).cell? ⟨w.heap.size, 0, none⟩ = some (.int .i64 d) := hbox.cell 0
  have HBC := Lib.hid hbc
  clear hbox hbc
  have rb1 : decide (r < -1099511627776) = false := by simp; omega
  have rb2 : decide (1099511627776 < r) = false := by simp; omega
  go_enter Try.func24, Try.ntmps24
  go_wp2_with fail
  refine HV.out.mono ?_
  rintro e w1 ⟨rfl, hb1⟩
  rw [World.size_alloc] at hb1
  have HB1 := Lib.hid (HB.out.trans (hb1.mono (by omega)))
  have hs1 := hb1.size
  rw [World.size_alloc] at hs1
  have HC1 : Hid (∀ i (h : i < l.length), w1.cell? ⟨b, off + i * 3, none⟩ = some (.int .i64 l[i].send) ∧ w1.cell? ⟨b, off + i * 3 + 1, none⟩ = some (.int .i64 l[i].recv) ∧ w1.cell? ⟨b, off + i * 3 + 2, none⟩ = some (.int .i64 l[i].reading)) :=
    Lib.hid fun i hi => ⟨(hb1.cell (p := ⟨b, off + i * 3, none⟩) hbs).trans (HC.out i hi).1, (hb1.cell (p := ⟨b, off + i * 3 + 1, none⟩) hbs).trans (HC.out i hi).2.1, (hb1.cell (p := ⟨b, off + i * 3 + 2, none⟩) hbs).trans (HC.out i hi).2.2⟩
  have HBC1 : Hid (w1.cell? ⟨w.heap.size, 0, none⟩ = some (.int .i64 d)) := Lib.hid ((hb1.cell (p := ⟨w.heap.size, 0, none⟩) (Nat.lt_succ_self _)).trans HBC.out)
  clear hb1 HC HBC HV HB
  go_wp2_with fail
  go_loopw [9, 10, 12, 13, 14, 15, 28] (fun v9 v10 _ _ _ _ v28 wr => ∃ (f la : Int) (k : Nat), v9 = .int .i64 f ∧ v10 = .int .i64 la ∧ v28 = .int .i64 (k : Int) ∧ 0 ≤ f ∧ f ≤ 268435456 ∧ -268435456 ≤ la ∧ la ≤ 1048576 ∧ k ≤ l.length ∧ Below (w.heap.size + 1) w1 wr ∧ Hid (Ck.tkGo d r 0 1048576 l = Ck.tkGo d r f la (l.drop k))) (fun _ _ _ _ _ _ v _ => l.length - (intOf v).toNat)
  case atStart => exact ⟨0, 1048576, 0, rfl, rfl, rfl, by omega, by omega, by omega, by omega, Nat.zero_le _, Below.refl _ _, Lib.hid rfl⟩
  case round =>
    obtain ⟨f, la, k, rfl, rfl, rfl, f0, f1, la0, la1, hk, hbw, HG⟩ := hrel
    have HBW : Hid (Below w.heap.size w wr) := Lib.hid (HB1.out.trans (hbw.mono (by omega)))
    by_cases hlt : k < l.length
    · obtain ⟨c0, c1, c2⟩ := HC1.out k hlt
      replace c0 := (hbw.cell (p := ⟨b, off + k * 3, none⟩) hbs).trans c0
      replace c1 := (hbw.cell (p := ⟨b, off + k * 3 + 1, none⟩) hbs).trans c1
      replace c2 := (hbw.cell (p := ⟨b, off + k * 3 + 2, none⟩) hbs).trans c2
      have cd := (hbw.cell (p := ⟨w.heap.size, 0, none⟩) (Nat.lt_succ_self _)).trans HBC1.out
      obtain ⟨o1, o2, o3, o4, o5⟩ := HOK.out _ (List.getElem_mem hlt)
      have hN := Ck.tkGo_near d r f la l k hlt
      have hF := Ck.tkGo_far d r f la l k hlt
      have hsw := hbw.size
      have HBWR := Lib.hid hbw
      clear hbw
      generalize l[k] = x at *
      cases hfar : Ck.far (r - x.reading)
      · have HN := Lib.hid (hN hfar)
        have hf2 := hfar
        unfold Ck.far at hf2
        rw [decide_eq_false_iff_not] at hf2
        have e1 : -16777216 ≤ r - x.reading := by omega
        have e2 : r - x.reading ≤ 16777216 := by omega
        have HLow := Lib.hid (Ck.lowN_is d (r - x.reading) d0 d1)
        have HHigh := Lib.hid (Ck.highN_is d (r - x.reading) d0 d1)
        have lw1 := HLow.out.1
        have lw2 := HLow.out.2.1
        have hg1 := HHigh.out.1
        have hg2 := HHigh.out.2.1
        obtain ⟨wx, hwx⟩ : ∃ wx, wx = (wr.alloc (.cells #[.int .i64 x.send, .int .i64 x.recv, .int .i64 x.reading] 51)).alloc (.cells #[.int .i64 (r - x.reading)] 3) := ⟨_, rfl⟩
        have hbx : Blk wx wr.heap.size 51 #[.int .i64 x.send, .int .i64 x.recv, .int .i64 x.reading] := by rw [hwx]; exact (Blk.new wr 51 _).alloc _
        have hbe : Blk wx (wr.heap.size + 1) 3 #[.int .i64 (r - x.reading)] := by
          rw [hwx]
          have := Blk.new (wr.alloc (.cells #[.int .i64 x.send, .int .i64 x.recv, .int .i64 x.reading] 51)) 3 #[.int .i64 (r - x.reading)]
          rw [World.size_alloc] at this
          exact this
        have hbel : Below (w.heap.size + 1) w1 wx := by
          rw [hwx]; exact (HBWR.out.alloc (by omega) _).alloc (by simp; omega) _
        have x0 : wx.cell? ⟨wr.heap.size, 0, none⟩ = some (.int .i64 x.send) := hbx.cell 0
        have x1 : wx.cell? ⟨wr.heap.size, 1, none⟩ = some (.int .i64 x.recv) := hbx.cell 1
        have x2 : wx.cell? ⟨wr.heap.size, 2, none⟩ = some (.int .i64 x.reading) := hbx.cell 2
        have x3 : wx.cell? ⟨wr.heap.size + 1, 0, none⟩ = some (.int .i64 (r - x.reading)) := hbe.cell 0
        have x4 : wx.cell? ⟨w.heap.size, 0, none⟩ = some (.int .i64 d) := (hbel.cell (p := ⟨w.heap.size, 0, none⟩) (Nat.lt_succ_self _)).trans HBC1.out
        have HS1 := fun k => Lib.hid (search_up d (r - x.reading) (-67108864) 67108864 d0 d1 (by omega) (by omega) (by omega) w.heap.size (wr.heap.size + 1) (wx.drewN k) (by exact x4) (by exact x3))
        have HS2 := fun k => Lib.hid (search_down d (r - x.reading) (-67108864) 67108864 d0 d1 (by omega) (by omega) (by omega) w.heap.size (wr.heap.size + 1) (wx.drewN k) (by exact x4) (by exact x3))
        have HBX := Lib.hid hbel
        have HWX := Lib.hid hwx
        generalize Ck.lowN d (r - x.reading) = lo at *
        generalize Ck.highN d (r - x.reading) = hi at *
        clear hN hF hfar hf2 hbx hbe hbel hwx
        go_wp2_with fail
        rw [← HWX.out]
        refine (HS1 0).out.mono ?_
        rintro e w' ⟨rr, hrr, rfl, m1, rfl⟩
        obtain rfl : rr = lo := hrr.unique HLow.out
        clear hrr
        go_wp2_with fail
        refine (HS2 m1).out.mono ?_
        rintro e w' ⟨ss, hss, rfl, m2, rfl⟩
        obtain rfl : ss = hi := hss.unique HHigh.out
        clear hss
        go_wp2_with fail
        go_roundw
        case rel =>
          refine ⟨_, _, k + 1, rfl, rfl, by go_num, ?_, ?_, ?_, ?_, hlt, below_drewN HBX.out _, Lib.hid (by
            rw [HG.out, HN.out]
            congr 1
            · by_cases h : f < x.send + rr
              · rw [if_pos h]; omega
              · rw [if_neg h]; omega
            · by_cases h : x.recv + ss - 1 < la
              · rw [if_pos h]; omega
              · rw [if_neg h]; omega)⟩ <;> (split <;> omega)
        case measure => simp [intOf]; omega
      · have HF := Lib.hid (hF hfar)
        have HRES : Hid (res = (0, 0, 13)) := Lib.hid (by rw [HTK.out, HG.out, HF.out]; rfl)
        have hf2 := hfar
        unfold Ck.far at hf2
        rw [decide_eq_true_eq] at hf2
        have HBF : Hid (∀ o1 o2, Below w.heap.size w ((wr.alloc o1).alloc o2)) := Lib.hid fun o1 o2 => (HBW.out.alloc HBW.out.size o1).alloc (by have := HBW.out.size; simp; omega) o2
        clear hN hF hfar
        rcases hf2 with hf2 | hf2
        · go_wp2_with fail
          go_ret3
          exact ⟨by rw [HRES.out]; rfl, HBF.out _ _⟩
        · go_wp2_with fail
          go_ret3
          exact ⟨by rw [HRES.out]; rfl, HBF.out _ _⟩
    · have hkl : k = l.length := by omega
      have HRES : Hid (res = if la < f then (0, 0, 13) else (f, la, 0)) := Lib.hid (by
        rw [HTK.out, HG.out, hkl, List.drop_length]; rfl)
      clear hkl
      by_cases hfl : la < f
      · go_wp2_with fail
        go_ret3
        exact ⟨by rw [HRES.out, if_pos hfl]; rfl, HBW.out⟩
      · go_wp2_with fail
        go_ret3
        exact ⟨by rw [HRES.out, if_neg (by omega)]; rfl, HBW.out⟩

theorem ticks_any (d : Int) (A : Option Addr) (cap : Nat) (l : List Ck.Ex) (hl : l.length ≤ 9223372036854775807) (r : Int) (w : World) (hx : Exs w w.heap.size A l) :
    Calls Try.prog 24 #[.int .i64 d, .slice A l.length cap, .int .i64 r] w (Three (Ck.ticks d l r) w) := by
  by_cases hv : Ck.valid d l = true
  · by_cases hr : r < -1099511627776 ∨ 1099511627776 < r
    · have : Ck.ticks d l r = (0, 0, 13) := by unfold Ck.ticks; rw [if_neg (by simp [hv]), if_pos hr]
      rw [this]
      exact ticks_out d A cap l hl r w hx hv hr
    · exact ticks_in d A cap l hl r w hx hv (by omega) (by omega)
  · have : Ck.ticks d l r = (0, 0, 1) := by unfold Ck.ticks; rw [if_pos (by simpa using hv)]
    rw [this]
    exact ticks_invalid d A cap l hl r w hx (by simpa using hv)

end Go.Proofs.Ytjldhikadijbiaa
