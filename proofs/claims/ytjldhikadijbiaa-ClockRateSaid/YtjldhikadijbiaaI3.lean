/- The walk of ClockRate. -/
import Derived.Test.YtjldhikadijbiaaI2
import Derived.Deep.RegionHeld3
namespace Go.Proofs.Ytjldhikadijbiaa
open Go.RowKit

theorem below_call {B : Nat} {a W w' : World} (h : Below W.heap.size W w') (h0 : Below B a W) (hs : B ≤ W.heap.size) : Below B a w' := h0.trans (h.mono hs)
theorem size_le_alloc (w : World) (o : Obj) : w.heap.size ≤ (w.alloc o).heap.size := by simp

set_option maxRecDepth 100000 in
set_option maxHeartbeats 8000000 in
theorem rate_law (A : Option Addr) (cap : Nat) (l : List Int) (B : Option Addr) (bcap : Nat) (m : List Int) (s t : Int) (hs : i64 s) (ht : i64 t) (w : World) (hA : InInts w A cap l) (hB : InInts w B bcap m) :
    Calls Try.prog 3 #[.slice A l.length cap, .slice B m.length bcap, .int .i64 s, .int .i64 t] w (Told true w) := by
  have HC := Lib.hid (clockOf_any A cap l hA.len B bcap m hB.len w hA.1 hB.1)
  have HS := fun W => Lib.hid (around_any s 39 hs (by omega) (by omega) W)
  have s0 := Ck.around_ge s 39 (by omega)
  have s1 := Ck.around_lt s 39 (by omega)
  obtain ⟨fn, hfn⟩ : ∃ fn : Nat, Ck.around s 39 = (fn : Int) := ⟨(Ck.around s 39).toNat, by omega⟩
  rw [hfn] at HS s0 s1
  have HT := fun W => Lib.hid (around_any t (39 - (fn : Int)) ht (by omega) (by omega) W)
  have t0 := Ck.around_ge t (39 - (fn : Int)) (by omega)
  have t1 := Ck.around_lt t (39 - (fn : Int)) (by omega)
  obtain ⟨kn, hkn⟩ : ∃ kn : Nat, Ck.around t (39 - (fn : Int)) = (kn : Int) := ⟨(Ck.around t (39 - (fn : Int))).toNat, by omega⟩
  rw [hkn] at HT t0 t1
  clear hA hB hs ht hfn hkn
  obtain ⟨tn, htn⟩ : ∃ tn : Nat, tn = fn + 1 + kn := ⟨_, rfl⟩
  obtain ⟨D, hD⟩ : ∃ D : Nat, D = 1 + kn := ⟨_, rfl⟩
  have etn : (fn : Int) + 1 + (kn : Int) = (tn : Int) := by omega
  have eD : (tn : Int) - (fn : Int) = (D : Int) := by omega
  go_enter Try.func3, Try.ntmps3
  go_wp2_with fail
  refine HC.out.mono ?_
  rintro e w1 ⟨d, R, rc, rs, X, cx, xs, rfl, hH, hb1⟩
  have HB1 := Lib.hid hb1
  have HH := Lib.hid hH
  have hx16 := hH.made.le
  have HL := Lib.hid hH.made.len
  have hfr : fn < rs.length := by rw [HL.out]; omega
  have htr : tn < rs.length := by rw [HL.out]; omega
  obtain ⟨b, off, rfl, hbl, hcell⟩ := hH.rd.2 (by omega)
  have k0 := hcell tn htr
  have l0 := hcell fn hfr
  have hsm := hH.made.small tn (by omega)
  have hsm' := hH.made.small fn (by omega)
  have hgood := hH.made.good tn fn htr hfr
  rw [getD_at rs tn htr] at hsm hgood
  rw [getD_at rs fn hfr] at hsm' hgood
  have hdd := hH.made.d0
  have hdd' := hH.made.d1
  have HAg := fun (W : World) (h : Has W d (some ⟨b, off, none⟩) rs X xs) => Lib.hid (by
    have := agrees_any d X cx xs (by omega) 0 (some ⟨b, off, none⟩) rc rs (by rw [HL.out]; omega) W h.ex h.rd
    rw [h.made.agrees, h.made.len] at this
    exact this)
  generalize rs[tn] = z1 at *
  generalize rs[fn] = z0 at *
  rw [eD] at hgood
  unfold Ck.slack at hgood
  rw [Int.natAbs_natCast, Int.mul_comm] at hgood
  obtain ⟨rn, rd, an, ad, bn, bd, wn, wd, ln, ld, hn, hd, c1, c2, c3, c4, c5, c6, c7, hw1, hw2⟩ := rate_parts d (z1 - z0) D hdd hdd' (by omega) (by omega) (by omega) (by omega) (by omega) (by omega)
  have HN1 := fun W => Lib.hid (c1 W)
  have HN2 := fun W => Lib.hid (c2 W)
  have HN3 := fun W => Lib.hid (c3 W)
  have HAd := fun W => Lib.hid (c4 W)
  have HNw := fun W => Lib.hid (c5 W)
  have HIa := fun W => Lib.hid (c6 W)
  have HCo := fun W => Lib.hid (c7 W)
  have HPt := fun W => Lib.hid (ipoint_any 1 1 ⟨by omega, by omega, by omega, by omega, rfl⟩ W)
  unfold GivesF at HN1 HN2 HN3 HAd
  unfold GivesV at HNw HIa
  unfold fr at HN1 HN2 HN3 HAd HNw HCo HPt
  unfold iv at HNw HIa HCo HPt
  clear hgood hcell hb1 hH HC c1 c2 c3 c4 c5 c6 c7 hD htn
  have w1' : IntKind.i64.wrap ((fn : Int) + 1) = (fn : Int) + 1 := IntWalk.i64_in _ (by omega)
  have w2' : IntKind.i64.wrap (39 - (fn : Int)) = 39 - (fn : Int) := IntWalk.i64_in _ (by omega)
  have w3' : IntKind.i64.wrap (tn : Int) = (tn : Int) := IntWalk.i64_in _ (by omega)
  have w4' : IntKind.i64.wrap (D : Int) = (D : Int) := IntWalk.i64_in _ (by omega)
  have w5' : IntKind.i64.wrap (z1 - z0) = z1 - z0 := IntWalk.i64_in _ (by omega)
  go_wp2_with fail
  refine (HS _).out.mono ?_
  rintro e w' ⟨rfl, hw⟩
  obtain rfl := hw.symm
  clear hw
  go_wp2_with fail
  refine (HT _).out.mono ?_
  rintro e w' ⟨rfl, hw⟩
  obtain rfl := hw.symm
  clear hw
  go_upto_region 4 with fail
  go_cut [14, 15] (fun v14 v15 W => ∃ g, v14 = .pointer (some ⟨g, 0, none⟩) ∧ v15 = .int .i64 0 ∧ Blk W g 28 #[.int .i64 rn, .int .i64 (rd : Int)] ∧ Has W d (some ⟨b, off, none⟩) rs X xs ∧ Below w.heap.size w W)
  case first =>
    have hi1 : (tn : Int) < 40 := by omega
    have hi2 : (fn : Int) < 40 := by omega
    have hi3 : (0 : Int) ≤ (tn : Int) := by omega
    have hi4 : (0 : Int) ≤ (fn : Int) := by omega
    go_region_held3 (fun W => W.cell? ⟨b, off + tn, none⟩ = some (.int .i64 z1) ∧ W.cell? ⟨b, off + fn, none⟩ = some (.int .i64 z0))
      (first
        | go_keep
        | (go_split_ands
           refine ⟨?_, ?_⟩
           all_goals (rw [World.cell?_setCell_other _ _ _ _ (by intro e; injection e; omega), World.cell?_setCell_other _ _ _ _ (by intro e; injection e; omega)]; assumption))
        | (go_split_ands
           refine ⟨?_, ?_⟩
           · (rw [World.cell?_alloc_lt _ _ _ (by simp; omega), hb3.cell (p := ⟨b, off + tn, none⟩) (by simp; omega)]; exact k0)
           · (rw [World.cell?_alloc_lt _ _ _ (by simp; omega), hb3.cell (p := ⟨b, off + fn, none⟩) (by simp; omega)]; exact l0))
        | (go_split_ands
           refine ⟨?_, ?_⟩
           · (rw [hb3.cell (p := ⟨b, off + tn, none⟩) (by simp; omega)]; assumption)
           · (rw [hb3.cell (p := ⟨b, off + fn, none⟩) (by simp; omega)]; assumption)))
      ((go_at_call 14; refine (HN1 _).out.mono ?_; rintro e w3 ⟨rfl, hb3⟩; have hz3 : w1.heap.size ≤ w3.heap.size := (by have := hb3.size; simp at this; omega); (try (have q := Blk.later (w := (w1.alloc (.cells #[.int .i64 0, .int .i64 0] 28)).drew) (g := w1.heap.size) (Blk.new w1 28 #[.int .i64 0, .int .i64 0]) hb3; have q0 := q.cell 0; have q1 := q.cell 1; have q3 := q.frozen 0; have q4 := q.frozen 1))))
    · have F0 := Lib.hid (Blk.new w3 28 #[.int .i64 rn, .int .i64 (rd : Int)])
      have F1 := Lib.hid ((below_call (B := w1.heap.size) (a := w1) hb3 (Below.refl _ w1).drew (Nat.le_refl _)).alloc hz3 (.cells #[.int .i64 rn, .int .i64 (rd : Int)] 28))
      have F2 := Lib.hid (HH.out.later F1.out)
      have F3 := Lib.hid (HB1.out.trans (F1.out.mono HB1.out.size))
      clear hb3
      go_wp2_with fail
      go_meet
      exact ⟨_, rfl, rfl, F0.out, F2.out, F3.out⟩
    · have F0 := Lib.hid ((q.set_ 0 (.int .i64 rn)).set_ 1 (.int .i64 (rd : Int)))
      have F1 := Lib.hid (((below_call (B := w1.heap.size) (a := w1) hb3 ((Below.refl _ w1).alloc (Nat.le_refl _) (.cells #[.int .i64 0, .int .i64 0] 28)).drew (by simp)).setCell (p := ⟨w1.heap.size, 0, none⟩) (Nat.le_refl _) (.int .i64 rn)).setCell (p := ⟨w1.heap.size, 1, none⟩) (Nat.le_refl _) (.int .i64 (rd : Int)))
      have F2 := Lib.hid (HH.out.later F1.out)
      have F3 := Lib.hid (HB1.out.trans (F1.out.mono HB1.out.size))
      clear hb3 q q0 q1 q3 q4
      go_wp2_with fail
      go_meet
      exact ⟨_, rfl, rfl, F0.out, F2.out, F3.out⟩
  case rest =>
    obtain ⟨g14, rfl, rfl, hG, hH4, hB4⟩ := hcut
    have G14_wc := Lib.hid hG
    have HH_wc := Lib.hid hH4
    have HB_wc := Lib.hid hB4
    clear hG hH4 hB4 HH HB1 k0 l0 hbl
    go_wp2_with fail
    refine (HN2 _).out.mono ?_
    rintro e w5 ⟨rfl, hb_w5⟩
    have G14_w5 := Lib.hid (G14_wc.out.later hb_w5)
    have HB_w5 := Lib.hid (HB_wc.out.trans (hb_w5.mono HB_wc.out.size))
    have HH_w5 := Lib.hid (HH_wc.out.later hb_w5)
    clear hb_w5 HB_wc HH_wc G14_wc
    go_upto_region 6 with fail
    obtain ⟨w6, hw6⟩ : ∃ w6, w6 = w5.alloc (.cells #[.int .i64 an, .int .i64 (ad : Int)] 28) := ⟨_, rfl⟩
    have G16_w6 : Hid (Blk w6 w5.heap.size 28 #[.int .i64 an, .int .i64 (ad : Int)]) := Lib.hid (by rw [hw6]; exact Blk.new w5 28 _)
    have G14_w6 : Hid (Blk w6 g14 28 #[.int .i64 rn, .int .i64 (rd : Int)]) := Lib.hid (by rw [hw6]; exact G14_w5.out.alloc _)
    have HB_w6 : Hid (Below w.heap.size w w6) := Lib.hid (by rw [hw6]; exact HB_w5.out.alloc HB_w5.out.size _)
    have HH_w6 : Hid (Has w6 d (some ⟨b, off, none⟩) rs X xs) := Lib.hid (by rw [hw6]; exact HH_w5.out.later ((Below.refl _ _).alloc (Nat.le_refl _) _))
    rw [← hw6]
    clear hw6 HB_w5 HH_w5 G14_w5
    go_wp2_with fail
    refine (HN3 _).out.mono ?_
    rintro e w7 ⟨rfl, hb_w7⟩
    have G14_w7 := Lib.hid (G14_w6.out.later hb_w7)
    have G16_w7 := Lib.hid (G16_w6.out.later hb_w7)
    have HB_w7 := Lib.hid (HB_w6.out.trans (hb_w7.mono HB_w6.out.size))
    have HH_w7 := Lib.hid (HH_w6.out.later hb_w7)
    clear hb_w7 HB_w6 HH_w6 G14_w6 G16_w6
    go_upto_region 7 with fail
    obtain ⟨w8, hw8⟩ : ∃ w8, w8 = w7.alloc (.cells #[.int .i64 bn, .int .i64 (bd : Int)] 28) := ⟨_, rfl⟩
    have G18_w8 : Hid (Blk w8 w7.heap.size 28 #[.int .i64 bn, .int .i64 (bd : Int)]) := Lib.hid (by rw [hw8]; exact Blk.new w7 28 _)
    have G14_w8 : Hid (Blk w8 g14 28 #[.int .i64 rn, .int .i64 (rd : Int)]) := Lib.hid (by rw [hw8]; exact G14_w7.out.alloc _)
    have G16_w8 : Hid (Blk w8 w5.heap.size 28 #[.int .i64 an, .int .i64 (ad : Int)]) := Lib.hid (by rw [hw8]; exact G16_w7.out.alloc _)
    have HB_w8 : Hid (Below w.heap.size w w8) := Lib.hid (by rw [hw8]; exact HB_w7.out.alloc HB_w7.out.size _)
    have HH_w8 : Hid (Has w8 d (some ⟨b, off, none⟩) rs X xs) := Lib.hid (by rw [hw8]; exact HH_w7.out.later ((Below.refl _ _).alloc (Nat.le_refl _) _))
    rw [← hw8]
    clear hw8 HB_w7 HH_w7 G14_w7 G16_w7
    have c0 := G16_w8.out.cell 0
    have c1 := G16_w8.out.cell 1
    have d0 := G18_w8.out.cell 0
    have d1 := G18_w8.out.cell 1
    go_wp2_with fail
    clear c0 c1 d0 d1
    refine (HAd _).out.mono ?_
    rintro e w9 ⟨rfl, hb_w9⟩
    have G14_w9 := Lib.hid (G14_w8.out.later hb_w9)
    have HB_w9 := Lib.hid (HB_w8.out.trans (hb_w9.mono HB_w8.out.size))
    have HH_w9 := Lib.hid (HH_w8.out.later hb_w9)
    clear hb_w9 HB_w8 HH_w8 G14_w8
    clear G16_w8 G18_w8
    go_upto_region 8 with fail
    obtain ⟨w10, hw10⟩ : ∃ w10, w10 = w9.alloc (.cells #[.int .i64 wn, .int .i64 (wd : Int)] 28) := ⟨_, rfl⟩
    have G20_w10 : Hid (Blk w10 w9.heap.size 28 #[.int .i64 wn, .int .i64 (wd : Int)]) := Lib.hid (by rw [hw10]; exact Blk.new w9 28 _)
    have G14_w10 : Hid (Blk w10 g14 28 #[.int .i64 rn, .int .i64 (rd : Int)]) := Lib.hid (by rw [hw10]; exact G14_w9.out.alloc _)
    have HB_w10 : Hid (Below w.heap.size w w10) := Lib.hid (by rw [hw10]; exact HB_w9.out.alloc HB_w9.out.size _)
    have HH_w10 : Hid (Has w10 d (some ⟨b, off, none⟩) rs X xs) := Lib.hid (by rw [hw10]; exact HH_w9.out.later ((Below.refl _ _).alloc (Nat.le_refl _) _))
    rw [← hw10]
    clear hw10 HB_w9 HH_w9 G14_w9
    go_wp2_with fail
    refine (HAg _ HH_w10.out).out.mono ?_
    rintro e w11 ⟨rfl, hb_w11⟩
    have G14_w11 := Lib.hid (G14_w10.out.later hb_w11)
    have G20_w11 := Lib.hid (G20_w10.out.later hb_w11)
    have HB_w11 := Lib.hid (HB_w10.out.trans (hb_w11.mono HB_w10.out.size))
    have HH_w11 := Lib.hid (HH_w10.out.later hb_w11)
    clear hb_w11 HB_w10 HH_w10 G14_w10 G20_w10
    have c0 := G20_w11.out.cell 0
    have c1 := G20_w11.out.cell 1
    have wn' : IntKind.i64.wrap (-wn) = -wn := IntWalk.i64_in _ (by omega)
    go_wp2_with fail
    clear c0 c1
    refine (HNw _).out.mono ?_
    rintro e w12 ⟨rfl, hb_w12⟩
    have G14_w12 := Lib.hid (G14_w11.out.later hb_w12)
    have HB_w12 := Lib.hid (HB_w11.out.trans (hb_w12.mono HB_w11.out.size))
    have HH_w12 := Lib.hid (HH_w11.out.later hb_w12)
    clear hb_w12 HB_w11 HH_w11 G14_w11
    clear G20_w11
    go_upto_region 11 with fail
    obtain ⟨w13, hw13⟩ : ∃ w13, w13 = w12.alloc (.cells #[.int .i64 (-wn), .int .i64 (wd : Int), .int .i64 wn, .int .i64 (wd : Int)] 35) := ⟨_, rfl⟩
    have G22_w13 : Hid (Blk w13 w12.heap.size 35 #[.int .i64 (-wn), .int .i64 (wd : Int), .int .i64 wn, .int .i64 (wd : Int)]) := Lib.hid (by rw [hw13]; exact Blk.new w12 35 _)
    have G14_w13 : Hid (Blk w13 g14 28 #[.int .i64 rn, .int .i64 (rd : Int)]) := Lib.hid (by rw [hw13]; exact G14_w12.out.alloc _)
    have HB_w13 : Hid (Below w.heap.size w w13) := Lib.hid (by rw [hw13]; exact HB_w12.out.alloc HB_w12.out.size _)
    have HH_w13 : Hid (Has w13 d (some ⟨b, off, none⟩) rs X xs) := Lib.hid (by rw [hw13]; exact HH_w12.out.later ((Below.refl _ _).alloc (Nat.le_refl _) _))
    rw [← hw13]
    clear hw13 HB_w12 HH_w12 G14_w12
    have k0 := G22_w13.out.cell 0
    have k1 := G22_w13.out.cell 1
    have k2 := G22_w13.out.cell 2
    have k3 := G22_w13.out.cell 3
    have hbk : w12.heap.size < w13.heap.size := G22_w13.out.lt
    have h14 : g14 < w13.heap.size := G14_w13.out.lt
    go_cut [17, 23] (fun v17 v23 W => ∃ g, v23 = .pointer (some ⟨g, 0, none⟩) ∧ v17 = .int .i64 0 ∧ Blk W g 35 #[.int .i64 ln, .int .i64 (ld : Int), .int .i64 hn, .int .i64 (hd : Int)] ∧ Blk W g14 28 #[.int .i64 rn, .int .i64 (rd : Int)] ∧ Below w.heap.size w W)
    case first =>
      go_region_held3 (fun W => W.cell? ⟨w12.heap.size, 0, none⟩ = some (.int .i64 (-wn)) ∧ W.cell? ⟨w12.heap.size, 1, none⟩ = some (.int .i64 (wd : Int)) ∧ W.cell? ⟨w12.heap.size, 2, none⟩ = some (.int .i64 wn) ∧ W.cell? ⟨w12.heap.size, 3, none⟩ = some (.int .i64 (wd : Int)))
        (first
          | go_keep
          | (go_split_ands; refine ⟨?_, ?_, ?_, ?_⟩ <;> (rw [World.cell?_setCell_other _ _ _ _ (by intro e; injection e; omega), World.cell?_setCell_other _ _ _ _ (by intro e; injection e; omega), World.cell?_setCell_other _ _ _ _ (by intro e; injection e; omega), World.cell?_setCell_other _ _ _ _ (by intro e; injection e; omega)]; first | exact (hQ.cell (p := ⟨w12.heap.size, 0, none⟩) hbk).trans k0 | exact (hQ.cell (p := ⟨w12.heap.size, 1, none⟩) hbk).trans k1 | exact (hQ.cell (p := ⟨w12.heap.size, 2, none⟩) hbk).trans k2 | exact (hQ.cell (p := ⟨w12.heap.size, 3, none⟩) hbk).trans k3))
          | (go_split_ands; exact ⟨(hP.cell (p := ⟨w12.heap.size, 0, none⟩) hbk).trans k0, (hP.cell (p := ⟨w12.heap.size, 1, none⟩) hbk).trans k1, (hP.cell (p := ⟨w12.heap.size, 2, none⟩) hbk).trans k2, (hP.cell (p := ⟨w12.heap.size, 3, none⟩) hbk).trans k3⟩)
          | (go_split_ands; exact ⟨(hQ.cell (p := ⟨w12.heap.size, 0, none⟩) hbk).trans k0, (hQ.cell (p := ⟨w12.heap.size, 1, none⟩) hbk).trans k1, (hQ.cell (p := ⟨w12.heap.size, 2, none⟩) hbk).trans k2, (hQ.cell (p := ⟨w12.heap.size, 3, none⟩) hbk).trans k3⟩)
          | (go_split_ands; exact ⟨(World.cell?_alloc_lt _ _ _ hkP).trans ((hP.cell (p := ⟨w12.heap.size, 0, none⟩) hbk).trans k0), (World.cell?_alloc_lt _ _ _ hkP).trans ((hP.cell (p := ⟨w12.heap.size, 1, none⟩) hbk).trans k1), (World.cell?_alloc_lt _ _ _ hkP).trans ((hP.cell (p := ⟨w12.heap.size, 2, none⟩) hbk).trans k2), (World.cell?_alloc_lt _ _ _ hkP).trans ((hP.cell (p := ⟨w12.heap.size, 3, none⟩) hbk).trans k3)⟩)
          | (go_split_ands; exact ⟨(World.cell?_alloc_lt _ _ _ hkQ).trans ((hQ.cell (p := ⟨w12.heap.size, 0, none⟩) hbk).trans k0), (World.cell?_alloc_lt _ _ _ hkQ).trans ((hQ.cell (p := ⟨w12.heap.size, 1, none⟩) hbk).trans k1), (World.cell?_alloc_lt _ _ _ hkQ).trans ((hQ.cell (p := ⟨w12.heap.size, 2, none⟩) hbk).trans k2), (World.cell?_alloc_lt _ _ _ hkQ).trans ((hQ.cell (p := ⟨w12.heap.size, 3, none⟩) hbk).trans k3)⟩))
        (first
          | (go_at_call 19; refine (HPt _).out.mono ?_; rintro e wp ⟨rfl, hbp⟩; have hP : Below w13.heap.size w13 wp := (by first | exact below_call hbp (Below.refl _ w13).drew (Nat.le_refl _) | exact below_call hbp (Below.refl _ w13) (Nat.le_refl _) | exact below_call hbp ((Below.refl _ w13).alloc (Nat.le_refl _) _).drew (size_le_alloc _ _) | exact below_call hbp ((Below.refl _ w13).alloc (Nat.le_refl _) _) (size_le_alloc _ _)); have hkP := Nat.lt_of_lt_of_le hbk hP.size; (try (have q := Blk.later (w := (w13.alloc (.cells #[.int .i64 0, .int .i64 0, .int .i64 0, .int .i64 0] 35)).drew) (g := w13.heap.size) (Blk.new w13 35 #[.int .i64 0, .int .i64 0, .int .i64 0, .int .i64 0]) hbp)))
          | (go_at_call 18; refine (HIa _).out.mono ?_; rintro e wq ⟨rfl, hbq⟩; have hQ : Below w13.heap.size w13 wq := (by first | exact below_call hbq hP hP.size | exact below_call hbq hP.drew hP.size | exact below_call hbq (hP.alloc hP.size _) (Nat.le_trans hP.size (size_le_alloc _ _)) | exact below_call hbq (hP.alloc hP.size _).drew (Nat.le_trans hP.size (size_le_alloc _ _))); have hkQ := Nat.lt_of_lt_of_le hbk hQ.size; (try (have qb := Blk.later (w := wp) q hbq; have q0 := qb.cell 0; have q1 := qb.cell 1; have q2 := qb.cell 2; have q3 := qb.cell 3; have p0 := qb.frozen 0; have p1 := qb.frozen 1; have p2 := qb.frozen 2; have p3 := qb.frozen 3)); (try (have qb := Blk.later (w := wp.drew) q hbq; have q0 := qb.cell 0; have q1 := qb.cell 1; have q2 := qb.cell 2; have q3 := qb.cell 3; have p0 := qb.frozen 0; have p1 := qb.frozen 1; have p2 := qb.frozen 2; have p3 := qb.frozen 3)); (try (have qb := Blk.later (w := wp.alloc (.cells #[.int .i64 0, .int .i64 0, .int .i64 0, .int .i64 0] 35)) (g := wp.heap.size) (Blk.new wp 35 #[.int .i64 0, .int .i64 0, .int .i64 0, .int .i64 0]) hbq; have q0 := qb.cell 0; have q1 := qb.cell 1; have q2 := qb.cell 2; have q3 := qb.cell 3; have p0 := qb.frozen 0; have p1 := qb.frozen 1; have p2 := qb.frozen 2; have p3 := qb.frozen 3)); (try (have qb := Blk.later (w := (wp.alloc (.cells #[.int .i64 0, .int .i64 0, .int .i64 0, .int .i64 0] 35)).drew) (g := wp.heap.size) (Blk.new wp 35 #[.int .i64 0, .int .i64 0, .int .i64 0, .int .i64 0]) hbq; have q0 := qb.cell 0; have q1 := qb.cell 1; have q2 := qb.cell 2; have q3 := qb.cell 3; have p0 := qb.frozen 0; have p1 := qb.frozen 1; have p2 := qb.frozen 2; have p3 := qb.frozen 3))))
      · have F0 := Lib.hid (Blk.new wq 35 #[.int .i64 ln, .int .i64 (ld : Int), .int .i64 hn, .int .i64 (hd : Int)])
        have F1 := Lib.hid ((G14_w13.out.later hQ).alloc (.cells #[.int .i64 ln, .int .i64 (ld : Int), .int .i64 hn, .int .i64 (hd : Int)] 35))
        have F2 := Lib.hid ((HB_w13.out.trans (hQ.mono HB_w13.out.size)).alloc (Nat.le_trans HB_w13.out.size hQ.size) (.cells #[.int .i64 ln, .int .i64 (ld : Int), .int .i64 hn, .int .i64 (hd : Int)] 35))
        clear hbp hbq hP hQ
        go_wp2_with fail
        go_meet
        exact ⟨_, rfl, rfl, F0.out, F1.out, F2.out⟩
      · have hsz := hP.size
        have hsz' := HB_w13.out.size
        have hne : ∀ j, g14 ≠ (⟨wp.heap.size, j, none⟩ : Addr).block := fun j => by simp; omega
        have hle : ∀ j, w.heap.size ≤ (⟨wp.heap.size, j, none⟩ : Addr).block := fun j => by simp; omega
        have F0 := Lib.hid ((((qb.set_ 0 (.int .i64 ln)).set_ 1 (.int .i64 (ld : Int))).set_ 2 (.int .i64 hn)).set_ 3 (.int .i64 (hd : Int)))
        have F1 := Lib.hid (((((G14_w13.out.later hQ).far (hne 0) (.int .i64 ln)).far (hne 1) (.int .i64 (ld : Int))).far (hne 2) (.int .i64 hn)).far (hne 3) (.int .i64 (hd : Int)))
        have F2 := Lib.hid (((((HB_w13.out.trans (hQ.mono HB_w13.out.size)).setCell (hle 0) (.int .i64 ln)).setCell (hle 1) (.int .i64 (ld : Int))).setCell (hle 2) (.int .i64 hn)).setCell (hle 3) (.int .i64 (hd : Int)))
        clear hbp hbq hP hQ qb q0 q1 q2 q3 p0 p1 p2 p3
        go_wp2_with fail
        go_meet
        exact ⟨_, rfl, rfl, F0.out, F1.out, F2.out⟩
      · have hsz := hP.size
        have hsz' := HB_w13.out.size
        have hne : ∀ j, g14 ≠ (⟨w13.heap.size, j, none⟩ : Addr).block := fun j => by simp; omega
        have hle : ∀ j, w.heap.size ≤ (⟨w13.heap.size, j, none⟩ : Addr).block := fun j => by simp; omega
        have F0 := Lib.hid ((((qb.set_ 0 (.int .i64 ln)).set_ 1 (.int .i64 (ld : Int))).set_ 2 (.int .i64 hn)).set_ 3 (.int .i64 (hd : Int)))
        have F1 := Lib.hid (((((G14_w13.out.later hQ).far (hne 0) (.int .i64 ln)).far (hne 1) (.int .i64 (ld : Int))).far (hne 2) (.int .i64 hn)).far (hne 3) (.int .i64 (hd : Int)))
        have F2 := Lib.hid (((((HB_w13.out.trans (hQ.mono HB_w13.out.size)).setCell (hle 0) (.int .i64 ln)).setCell (hle 1) (.int .i64 (ld : Int))).setCell (hle 2) (.int .i64 hn)).setCell (hle 3) (.int .i64 (hd : Int)))
        clear hbp hbq hP hQ qb q q0 q1 q2 q3 p0 p1 p2 p3
        go_wp2_with fail
        go_meet
        exact ⟨_, rfl, rfl, F0.out, F1.out, F2.out⟩
    case rest =>
      obtain ⟨g23, rfl, rfl, hG23, hG14, hBz⟩ := hcut
      have z0 := hG23.cell 0
      have z1' := hG23.cell 1
      have z2 := hG23.cell 2
      have z3 := hG23.cell 3
      have y0 := hG14.cell 0
      have y1 := hG14.cell 1
      have HBz := Lib.hid hBz
      clear hG23 hG14 hBz k0 k1 k2 k3 G22_w13 G14_w13 HB_w13 HH_w13
      go_wp2_with fail
      refine (HCo _).out.mono ?_
      rintro e w20 ⟨rfl, hb20⟩
      have HB20 := Lib.hid (HBz.out.trans (hb20.mono HBz.out.size))
      clear hb20 z0 z1' z2 z3 y0 y1 HBz
      go_wp2_with fail
      refine (lives_any w20).mono ?_
      rintro e w21 ⟨rfl, hb21⟩
      have HB21 := Lib.hid (HB20.out.trans (hb21.mono HB20.out.size))
      clear hb21
      go_wp2_with fail
      go_ret
      exact ⟨rfl, HB21.out⟩

end Go.Proofs.Ytjldhikadijbiaa
