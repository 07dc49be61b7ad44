/- The walk of ClockNarrows. -/
import Derived.Test.YtjldhikadijbiaaG4
import Derived.StillTailTactics
namespace Go.Proofs.Ytjldhikadijbiaa
open Go.RowKit

theorem Exs.drop {w : World} {B : Nat} {b off : Nat} {l : List Ck.Ex} (h : Exs w B (some ⟨b, off, none⟩) l) (k : Nat) : Exs w B (some ⟨b, off + k * 3, none⟩) (l.drop k) := by
  refine ⟨fun x hx => h.1 x (List.mem_of_mem_drop hx), fun hp => ?_⟩
  rw [List.length_drop] at hp
  obtain ⟨b', off', e, hb, hc⟩ := h.2 (by omega)
  injection e with e
  injection e with e1 e2
  subst e1 e2
  refine ⟨b, off + k * 3, rfl, hb, fun i hi => ?_⟩
  rw [List.length_drop] at hi
  have := hc (k + i) (by omega)
  rw [List.getElem_drop]
  rw [show off + (k + i) * 3 = off + k * 3 + i * 3 by omega] at this
  exact this

theorem ticks_len (d : Int) (A : Option Addr) (cap n : Nat) (l : List Ck.Ex) (hn : l.length = n) (hl : n ≤ 1000) (r : Int) (w : World) (hx : Exs w w.heap.size A l) (a c : Int) (ht : Ck.ticks d l r = (a, c, 0)) :
    Calls Try.prog 24 #[.int .i64 d, .slice A n cap, .int .i64 r] w (Three (a, c, 0) w) := by
  subst hn
  rw [← ht]
  exact ticks_any d A cap l (by omega) r w hx

/-- the three lists of ClockNarrows in memory -/
structure Trio (w : World) (d : Int) (R : Option Addr) (rs : List Int) (X : Option Addr) (xs : List Ck.Ex) (Y : Option Addr) (ys : List Ck.Ex) (Z : Option Addr) (zs : List Ck.Ex) : Prop where
  has : Has w d R rs X xs
  y : Exs w w.heap.size Y ys
  z : Exs w w.heap.size Z zs
theorem Trio.later {w w' : World} {d : Int} {R X Y Z : Option Addr} {rs : List Int} {xs ys zs : List Ck.Ex} (h : Trio w d R rs X xs Y ys Z zs) (hb : Below w.heap.size w w') : Trio w' d R rs X xs Y ys Z zs := ⟨h.has.later hb, h.y.later hb, h.z.later hb⟩

set_option maxRecDepth 100000 in
set_option maxHeartbeats 4000000 in
theorem narrows_law (A : Option Addr) (cap : Nat) (l : List Int) (B : Option Addr) (bcap : Nat) (m : List Int) (at' more : Int) (ha : i64 at') (hm : i64 more) (w : World) (hA : InInts w A cap l) (hB : InInts w B bcap m) :
    Calls Try.prog 10 #[.slice A l.length cap, .slice B m.length bcap, .int .i64 at', .int .i64 more] w (Told true w) := by
  obtain ⟨i0, hi, hz0, hz1, hz2⟩ := info_parts info51
  have HC := Lib.hid (clockOf_more A cap l hA.len B bcap m hB.len w hA.1 hB.1)
  have HM40 := fun W => Lib.hid (around_any more 40 hm (by omega) (by omega) W)
  have HM3 := fun W => Lib.hid (around_any more 3 hm (by omega) (by omega) W)
  have HM4 := fun W => Lib.hid (around_any more 4 hm (by omega) (by omega) W)
  have m40 := Ck.around_ge more 40 (by omega)
  have m41 := Ck.around_lt more 40 (by omega)
  have m30 := Ck.around_ge more 3 (by omega)
  have m31 := Ck.around_lt more 3 (by omega)
  have m4a := Ck.around_ge more 4 (by omega)
  have m4b := Ck.around_lt more 4 (by omega)
  obtain ⟨tn, htn⟩ : ∃ tn : Nat, Ck.around more 40 = (tn : Int) := ⟨(Ck.around more 40).toNat, by omega⟩
  rw [htn] at HM40 m40 m41
  generalize Ck.around more 3 = am3 at *
  generalize Ck.around more 4 = am4 at *
  have HAt := Lib.hid ha
  clear hA hB hm htn ha
  go_enter Try.func10, Try.ntmps10
  go_wp2_with fail
  refine HC.out.mono ?_
  rintro e w1 ⟨d, R, rc, rs, X, cx, xs, rfl, hcap, hH, hb1⟩
  have HB1 := Lib.hid hb1
  have HH := Lib.hid hH
  have hx16 := hH.made.le
  have hx1 := hH.made.ne
  have HL := Lib.hid hH.made.len
  have d0 := hH.made.d0
  have d1 := hH.made.d1
  have HM := Lib.hid hH.made
  have HAl := fun W => Lib.hid (around_any at' (xs.length : Int) HAt.out (by omega) (by omega) W)
  have k0 := Ck.around_ge at' (xs.length : Int) (by omega)
  have k1 := Ck.around_lt at' (xs.length : Int) (by omega)
  obtain ⟨k, hk⟩ : ∃ k : Nat, Ck.around at' (xs.length : Int) = (k : Int) := ⟨(Ck.around at' (xs.length : Int)).toNat, by omega⟩
  rw [hk] at HAl k0 k1
  have hkx : k < xs.length := by omega
  have htr : tn < rs.length := by rw [HL.out]; omega
  obtain ⟨b, off, rfl, hbl, hcell⟩ := hH.rd.2 (by omega)
  have HC0 := Lib.hid (hcell tn htr)
  have HRD := Lib.hid (getD_at rs tn htr)
  generalize rs[tn] = z at *
  obtain ⟨bx, ox, rfl, hbx, hcx⟩ := hH.ex.2 hx1
  have HT := Lib.hid (ticks_any d _ cx xs (by omega) z w1 hH.ex)
  have hA := hH.made.ticks_has tn (by omega)
  rw [HRD.out] at hA
  obtain ⟨p, hp⟩ : ∃ p, Ck.ticks d xs z = p := ⟨_, rfl⟩
  obtain ⟨p1, p2, p3⟩ := p
  rw [hp] at hA HT
  have hp3 : p3 = 0 := hA.1
  subst hp3
  have HW0 : Hid (1 < xs.length → ∃ a c, Ck.ticks d (xs.take k ++ xs.drop (k + 1)) z = (a, c, 0) ∧ a ≤ p1 ∧ p2 ≤ c) := Lib.hid (fun h1 => by
    obtain ⟨_, q1, q2, q3⟩ := made_without hH.made k hkx h1 tn (by omega)
    rw [HRD.out] at q1 q2 q3
    rw [hp] at q2 q3
    exact ⟨_, _, Prod.ext rfl (Prod.ext rfl q1), q2, q3⟩)
  have HW1 : Hid (∃ a c, Ck.ticks d (xs.set k ⟨max 0 (xs[k].send - am3), xs[k].recv + am4, xs[k].reading⟩) z = (a, c, 0) ∧ a ≤ p1 ∧ p2 ≤ c) := Lib.hid (by
    obtain ⟨g1, g2⟩ := made_wider hH.made k hkx am3 am4 m30 m4a (by omega)
    obtain ⟨_, q1, q2, q3⟩ := hH.made.wider g1 g2 tn (by omega)
    rw [HRD.out] at q1 q2 q3
    rw [hp] at q2 q3
    exact ⟨_, _, Prod.ext rfl (Prod.ext rfl q1), q2, q3⟩)
  have HW2 : Hid (∀ d', d ≤ d' → d' ≤ 512 → ∃ a c, Ck.ticks d' xs z = (a, c, 0) ∧ a ≤ p1 ∧ p2 ≤ c) := Lib.hid (fun d' e1 e2 => by
    obtain ⟨_, q1, q2, q3⟩ := made_drift hH.made e1 e2 tn (by omega)
    rw [HRD.out] at q1 q2 q3
    rw [hp] at q2 q3
    exact ⟨_, _, Prod.ext rfl (Prod.ext rfl q1), q2, q3⟩)
  have c0 := HC0.out
  have tn40 : tn < 40 := by omega
  clear hb1 hH HC hcell hk htr hcx hA hp
  go_wp2_with fail
  refine (HAl _).out.mono ?_
  rintro e w' ⟨rfl, hw⟩
  obtain rfl := hw.symm
  clear hw
  go_wp2_with fail
  refine (HM40 _).out.mono ?_
  rintro e w' ⟨rfl, hw⟩
  obtain rfl := hw.symm
  clear hw
  go_wp2_with fail
  refine HT.out.mono ?_
  rintro e w2 ⟨rfl, hb2⟩
  have HH2 := Lib.hid (HH.out.later hb2)
  have HB2 := Lib.hid (HB1.out.trans (hb2.mono HB1.out.size))
  have hsz2 := HB2.out.size
  have hbl2 : b < w2.heap.size := Nat.lt_of_lt_of_le hbl hb2.size
  have hbx2 : bx < w2.heap.size := Nat.lt_of_lt_of_le hbx hb2.size
  clear hb2 c0 HT HB1 HH HC0 hbl hbx HAl
  have hT1 := HH2.out.ex.take k
  have hT2 := HH2.out.ex.drop (k + 1)
  have HN1 := Lib.hid hT1.news
  have HN2 := Lib.hid hT2.news
  have HLen1 : Hid ((exCells (xs.take k)).length = k * 3) := Lib.hid (by rw [exCells_length, List.length_take]; congr 1; omega)
  have HLen2 : Hid ((exCells (xs.drop (k + 1))).length = (xs.length - (k + 1)) * 3) := Lib.hid (by rw [exCells_length, List.length_drop])
  have HOne1 := Lib.hid (exCells_one (xs.take k))
  have HOne2 := Lib.hid (exCells_one (xs.drop (k + 1)))
  clear hT1 hT2
  go_upto_region 5 with fail
  go_cut [16] (fun v16 w' => ∃ Y cy, v16 = .slice Y (xs.length - 1) cy ∧ Exs w' w'.heap.size Y (xs.take k ++ xs.drop (k + 1)) ∧ Below w2.heap.size w2 w')
  case first =>
    have wr1 : IntKind.i64.wrap ((k : Int) + 1) = (k : Int) + 1 := IntWalk.i64_in _ (by omega)
    have hp0 : (0 : Int) ≤ (k : Int) + 1 := by omega
    have hp1 : (k : Int) + 1 ≤ (xs.length : Int) := by omega
    have hp2 : ((k : Int) + 1).toNat = k + 1 := by omega
    have hp4 : (k : Int) ≤ (cx : Int) := by omega
    have HI : Hid (∀ x ∈ xs.take k ++ xs.drop (k + 1), i64 x.send ∧ i64 x.recv ∧ i64 x.reading) := Lib.hid (fun x hx => HH2.out.ex.1 x (by
      rcases List.mem_append.1 hx with h' | h'
      · exact List.mem_of_mem_take h'
      · exact List.mem_of_mem_drop h'))
    by_cases hce : cx = k + 1
    · have hxl : xs.length = k + 1 := by omega
      have HN2' : Hid (∀ j u, (exCells (xs.drop (k + 1)))[j]? = some u → w2.cell? ((⟨bx, ox, none⟩ : Addr).add j) = some u) := Lib.hid (fun j u hu => by
        rw [List.drop_of_length_le (by omega)] at hu
        simp [exCells] at hu)
      have HN2 := HN2'
      subst hce
      have hq1 : (k : Int) ≤ (k : Int) + 1 := by omega
      have hq2 : (xs.length : Int) ≤ (k : Int) + 1 := by omega
      clear hxl HN2' hp4
      go_region_law (first
        | (refine step_append_own _ rfl (.tmp 47) (.tmp 50) 23 rfl w2.heap.size 51 i0 _ 3 24 Try.underlying23 hi hz0 hz1 hz2 rfl (by decide) (.slice none 0 0) 0 [] (by simp [Act.eval, Act.put]) ⟨rfl, .inl ⟨rfl, rfl⟩⟩ ⟨bx, ox, none⟩ k (k + 1) (exCells (xs.take k)) (by simp [Act.eval, Act.put]) HLen1.out HN1.out HOne1.out (by unfold maxLen; omega) (by omega) (Nat.le_refl _) ?_; intro v1 w3 hown1 hgrow1; have HO1 := Lib.hid hown1; have HG1 : Hid (Below w2.heap.size w2 w3) := Lib.hid ((Below.refl _ w2).drew.grown hgrow1 (Nat.le_refl _) (by simp [Value.ownBlock])); have HN3 : Hid (∀ j u, (exCells (xs.drop (k + 1)))[j]? = some u → w3.cell? ((⟨bx, ox, none⟩ : Addr).add j) = some u) := Lib.hid (fun j u hu => by rw [add_none]; exact (HG1.out.cell (p := ⟨bx, ox + j, none⟩) hbx2).trans (by have := HN2.out j u hu; rw [add_none] at this; exact this)); clear hown1 hgrow1)
        | (refine step_append_own _ rfl (.tmp 51) (.tmp 55) 23 rfl w2.heap.size 51 i0 _ 3 24 Try.underlying23 hi hz0 hz1 hz2 rfl (by decide) v1 (0 + k) ([] ++ exCells (xs.take k)) (by simp [Act.eval]) HO1.out ⟨bx, ox, none⟩ (xs.length - (k + 1)) 0 (exCells (xs.drop (k + 1))) (by simp [Act.eval]; omega) HLen2.out HN3.out HOne2.out (by unfold maxLen; omega) (by omega) HG1.out.size ?_; intro v2 w4 hown2 hgrow2; have HO2 := Lib.hid hown2; have HG2 : Hid (Below w2.heap.size w2 w4) := Lib.hid (HG1.out.grown hgrow2 HG1.out.size (fun g hg => (HO1.out.lt g hg).1)); clear hown2 hgrow2))
      have HO3 : Hid (w4.ownsRow w2.heap.size 51 3 v2 (xs.length - 1) (exCells (xs.take k ++ xs.drop (k + 1)))) := Lib.hid (by
        have := HO2.out
        rw [show 0 + k + (xs.length - (k + 1)) = xs.length - 1 by omega, List.nil_append, ← exCells_append] at this
        exact this)
      obtain ⟨Y, cy, rfl⟩ := own_form HO3.out
      go_wp2_with fail
      go_meet
      exact ⟨Y, cy, rfl, Exs.of_own HO3.out (by rw [List.length_append, List.length_take, List.length_drop]; omega) HI.out, HG2.out⟩
    · go_region_law (first
        | (refine step_append_own _ rfl (.tmp 47) (.tmp 50) 23 rfl w2.heap.size 51 i0 _ 3 24 Try.underlying23 hi hz0 hz1 hz2 rfl (by decide) (.slice none 0 0) 0 [] (by simp [Act.eval, Act.put]) ⟨rfl, .inl ⟨rfl, rfl⟩⟩ ⟨bx, ox, none⟩ k cx (exCells (xs.take k)) (by simp [Act.eval, Act.put]) HLen1.out HN1.out HOne1.out (by unfold maxLen; omega) (by omega) (Nat.le_refl _) ?_; intro v1 w3 hown1 hgrow1; have HO1 := Lib.hid hown1; have HG1 : Hid (Below w2.heap.size w2 w3) := Lib.hid ((Below.refl _ w2).drew.grown hgrow1 (Nat.le_refl _) (by simp [Value.ownBlock])); have HN3 : Hid (∀ j u, (exCells (xs.drop (k + 1)))[j]? = some u → w3.cell? ((⟨bx, ox + (k + 1) * 3, none⟩ : Addr).add j) = some u) := Lib.hid (fun j u hu => by rw [add_none]; exact (HG1.out.cell (p := ⟨bx, ox + (k + 1) * 3 + j, none⟩) hbx2).trans (by have := HN2.out j u hu; rw [add_none] at this; exact this)); clear hown1 hgrow1)
        | (refine step_append_own _ rfl (.tmp 51) (.tmp 55) 23 rfl w2.heap.size 51 i0 _ 3 24 Try.underlying23 hi hz0 hz1 hz2 rfl (by decide) v1 (0 + k) ([] ++ exCells (xs.take k)) (by simp [Act.eval]) HO1.out ⟨bx, ox + (k + 1) * 3, none⟩ (xs.length - (k + 1)) (cx - (k + 1)) (exCells (xs.drop (k + 1))) (by simp [Act.eval]) HLen2.out HN3.out HOne2.out (by unfold maxLen; omega) (by omega) HG1.out.size ?_; intro v2 w4 hown2 hgrow2; have HO2 := Lib.hid hown2; have HG2 : Hid (Below w2.heap.size w2 w4) := Lib.hid (HG1.out.grown hgrow2 HG1.out.size (fun g hg => (HO1.out.lt g hg).1)); clear hown2 hgrow2))
      have HO3 : Hid (w4.ownsRow w2.heap.size 51 3 v2 (xs.length - 1) (exCells (xs.take k ++ xs.drop (k + 1)))) := Lib.hid (by
        have := HO2.out
        rw [show 0 + k + (xs.length - (k + 1)) = xs.length - 1 by omega, List.nil_append, ← exCells_append] at this
        exact this)
      obtain ⟨Y, cy, rfl⟩ := own_form HO3.out
      go_wp2_with fail
      go_meet
      exact ⟨Y, cy, rfl, Exs.of_own HO3.out (by rw [List.length_append, List.length_take, List.length_drop]; omega) HI.out, HG2.out⟩
  case rest =>
    obtain ⟨Y, cy, rfl, hY, hbc⟩ := hcut
    have HHc := Lib.hid (HH2.out.later hbc)
    have HBc := Lib.hid (HB2.out.trans (hbc.mono HB2.out.size))
    have HY := Lib.hid hY
    have hszc := hbc.size
    have HNx := Lib.hid HHc.out.ex.news
    have HLenx := Lib.hid (exCells_length xs)
    have HOnex := Lib.hid (exCells_one xs)
    have HXI := Lib.hid HHc.out.ex.1
    have HCx : Hid ((exCells xs)[k * 3]? = some (.int .i64 xs[k].send) ∧ (exCells xs)[k * 3 + 1]? = some (.int .i64 xs[k].recv)) := Lib.hid ⟨(exCells_at xs k hkx).1, (exCells_at xs k hkx).2.1⟩
    have hgood := HM.out.ex _ (List.getElem_mem hkx)
    have hs0 : 0 ≤ xs[k].send ∧ xs[k].send ≤ 1000 ∧ 0 ≤ xs[k].recv ∧ xs[k].recv ≤ 1000 := by
      obtain ⟨u, a1, a2, a3, a4, a5, a6⟩ := hgood
      rw [HL.out] at a1
      omega
    obtain ⟨s0, s1, r0, r1⟩ := hs0
    have HSet := Lib.hid fun s r => exCells_set xs k s r hkx
    have HXR := Lib.hid (HXI.out _ (List.getElem_mem hkx)).2.2
    generalize xs[k] = x at *
    clear hbc hY hgood HN1 HN2 HLen1 HLen2 HOne1 HOne2 HH2 HB2
    go_wp2_with (at_builtin; refine wpList_append_own _ rfl _ _ 23 rfl wc.heap.size 51 i0 _ 3 24 Try.underlying23 hi hz0 hz1 hz2 rfl (by decide) (.slice none 0 0) 0 [] rfl ⟨rfl, .inl ⟨rfl, rfl⟩⟩ ⟨bx, ox, none⟩ xs.length cx (exCells xs) rfl HLenx.out HNx.out HOnex.out (by unfold maxLen; omega) (by omega) (Nat.le_refl _) ?_; intro v5 w5 hown5 hgrow5 hnl; clear hnl; simp only [Nat.zero_add, List.nil_append] at hown5; obtain ⟨g, cw, rfl, hgb, hgl⟩ := hown5.form (by omega); have HO5 := Lib.hid hown5; have HG5 : Hid (Below wc.heap.size wc w5) := Lib.hid ((Below.refl _ wc).grown hgrow5 (Nat.le_refl _) (by simp [Value.ownBlock])); clear hown5 hgrow5)
    have c5 : w5.cell? ⟨g, k * 3, none⟩ = some (.int .i64 x.send) := (HO5.out.cellAt (k * 3) (by omega)).trans HCx.out.1
    have wr1 : IntKind.i64.wrap (x.send - am3) = x.send - am3 := IntWalk.i64_in _ (by omega)
    go_still_tail 13, (by kernel_rfl)
    still_call (HM3 _).out
    repeat still_step
    refine wpStill_nil ?_
    obtain ⟨sd, hsd⟩ : ∃ sd, sd = max 0 (x.send - am3) := ⟨_, rfl⟩
    rw [show (if am3 < x.send then x.send - am3 else 0) = sd by rw [hsd]; split <;> omega]
    have HSD := Lib.hid hsd
    have sd0 : 0 ≤ sd := by omega
    have sd1 : sd ≤ 1000 := by omega
    change wpList _ _ _ _ _ w5.drew
    have HO6 : Hid (w5.drew.ownsRow wc.heap.size 51 3 (.slice (some ⟨g, 0, none⟩) xs.length cw) xs.length (exCells xs)) := HO5
    have HG6 : Hid (Below wc.heap.size wc w5.drew) := Lib.hid HG5.out.drew
    have c6 : w5.drew.cell? ⟨g, k * 3, none⟩ = some (.int .i64 x.send) := c5
    have f6 : w5.drew.frozen? ⟨g, k * 3, none⟩ = false := HO6.out.frozenAt _
    clear c5 wr1 hsd HO5 HG5
    generalize w5.drew = w6 at *
    go_wp2_with fail
    obtain ⟨w7, hw7⟩ : ∃ w7, w7 = w6.setCell ⟨g, k * 3, none⟩ (.int .i64 sd) := ⟨_, rfl⟩
    have HO7 : Hid (w7.ownsRow wc.heap.size 51 3 (.slice (some ⟨g, 0, none⟩) xs.length cw) xs.length ((exCells xs).set (k * 3) (.int .i64 sd))) := Lib.hid (by rw [hw7]; exact (HO6.out.stored _ _).1)
    have HG7 : Hid (Below wc.heap.size wc w7) := Lib.hid (by rw [hw7]; exact HG6.out.setCell hgb _)
    have hgl7 : g < w7.heap.size := by
      rcases HO7.out.2 with ⟨h, _⟩ | ⟨g', cp, cur, hv, _, hh, _⟩
      · cases h
      · injection hv with hv; injection hv with hv; injection hv with hv; subst hv
        exact (Array.getElem?_eq_some_iff.1 hh).1
    rw [← hw7]
    clear hw7 c6 f6 HO6 HG6 hgl
    have c7 : w7.cell? ⟨g, k * 3 + 1, none⟩ = some (.int .i64 x.recv) := (HO7.out.cellAt (k * 3 + 1) (by omega)).trans (by rw [List.getElem?_set_ne (by omega)]; exact HCx.out.2)
    have wr1 : IntKind.i64.wrap (x.recv + am4) = x.recv + am4 := IntWalk.i64_in _ (by omega)
    go_still_tail 12, (by kernel_rfl)
    still_call (HM4 _).out
    repeat still_step
    refine wpStill_nil ?_
    change wpList _ _ _ _ _ w7.drew
    have HO8 : Hid (w7.drew.ownsRow wc.heap.size 51 3 (.slice (some ⟨g, 0, none⟩) xs.length cw) xs.length ((exCells xs).set (k * 3) (.int .i64 sd))) := HO7
    have HG8 : Hid (Below wc.heap.size wc w7.drew) := Lib.hid HG7.out.drew
    have c8 : w7.drew.cell? ⟨g, k * 3 + 1, none⟩ = some (.int .i64 x.recv) := c7
    have f8 : w7.drew.frozen? ⟨g, k * 3 + 1, none⟩ = false := HO8.out.frozenAt _
    clear c7 wr1 HO7 HG7 hgl7
    generalize w7.drew = w8 at *
    go_wp2_with fail
    obtain ⟨w9, hw9⟩ : ∃ w9, w9 = w8.setCell ⟨g, k * 3 + 1, none⟩ (.int .i64 (x.recv + am4)) := ⟨_, rfl⟩
    have HO9 : Hid (w9.ownsRow wc.heap.size 51 3 (.slice (some ⟨g, 0, none⟩) xs.length cw) xs.length (((exCells xs).set (k * 3) (.int .i64 sd)).set (k * 3 + 1) (.int .i64 (x.recv + am4)))) := Lib.hid (by rw [hw9]; exact (HO8.out.stored _ _).1)
    have HG9 : Hid (Below wc.heap.size wc w9) := Lib.hid (by rw [hw9]; exact HG8.out.setCell hgb _)
    rw [← hw9]
    clear hw9 c8 f8 HO8 HG8
    have hzi : ∀ y ∈ xs.set k ⟨sd, x.recv + am4, x.reading⟩, i64 y.send ∧ i64 y.recv ∧ i64 y.reading := fun y hy => by
      rcases List.mem_or_eq_of_mem_set hy with h' | h'
      · exact HXI.out y h'
      · subst h'
        exact ⟨by unfold i64; simp only; omega, by unfold i64; simp only; omega, HXR.out⟩
    have hz9 : Exs w9 w9.heap.size (some ⟨g, 0, none⟩) (xs.set k ⟨sd, x.recv + am4, x.reading⟩) := Exs.of_own (by rw [← HSet.out]; exact HO9.out) (by rw [List.length_set]) hzi
    have HTr : Hid (Trio w9 d (some ⟨b, off, none⟩) rs (some ⟨bx, ox, none⟩) xs Y (xs.take k ++ xs.drop (k + 1)) (some ⟨g, 0, none⟩) (xs.set k ⟨sd, x.recv + am4, x.reading⟩)) := Lib.hid ⟨HHc.out.later HG9.out, HY.out.later HG9.out, hz9⟩
    have HBw := Lib.hid (HBc.out.trans (HG9.out.mono HBc.out.size))
    rw [← HSD.out] at HW1
    have HLy : Hid ((xs.take k ++ xs.drop (k + 1)).length = xs.length - 1) := Lib.hid (by rw [List.length_append, List.length_take, List.length_drop]; omega)
    have HLz : Hid ((xs.set k ⟨sd, x.recv + am4, x.reading⟩).length = xs.length) := Lib.hid (by rw [List.length_set])
    generalize xs.take k ++ xs.drop (k + 1) = ys at *
    generalize xs.set k ⟨sd, x.recv + am4, x.reading⟩ = zs at *
    clear hzi hz9 HO9 HG9 HHc HY HBc HSet HCx HXI HXR HOnex HLenx HNx hszc hsz2 hbl2 hbx2 hgb HM3 HM4 hi hz0 hz1 hz2
    go_loopw [18, 19, 20, 21, 22, 23] (fun v18 _ _ _ _ _ wr => ∃ i : Nat, v18 = .int .i64 (i : Int) ∧ i ≤ 3 ∧ Hid (Trio wr d (some ⟨b, off, none⟩) rs (some ⟨bx, ox, none⟩) xs Y ys (some ⟨g, 0, none⟩) zs) ∧ Hid (Below w.heap.size w wr)) (fun v _ _ _ _ _ _ => 3 - (intOf v).toNat)
    case atStart => exact ⟨0, rfl, by omega, HTr, HBw⟩
    case round =>
      obtain ⟨i, rfl, hi3, HTw, HBr⟩ := hrel
      clear HTr HBw
      have hbA : ∀ o, Below wr.heap.size wr (wr.alloc o) := fun o => (Below.refl _ wr).alloc (Nat.le_refl _) o
      have HBA := Lib.hid hbA
      clear hbA
      obtain ⟨wa, hwa⟩ : ∃ wa, wa = wr.alloc (.cells #[.slice Y (xs.length - 1) cy, .slice (some ⟨g, 0, none⟩) xs.length cw, .slice (some ⟨bx, ox, none⟩) xs.length cx] 23) := ⟨_, rfl⟩
      have HTa : Hid (Trio wa d (some ⟨b, off, none⟩) rs (some ⟨bx, ox, none⟩) xs Y ys (some ⟨g, 0, none⟩) zs) := Lib.hid (by rw [hwa]; exact HTw.out.later (HBA.out _))
      have HBa : Hid (Below w.heap.size w wa) := Lib.hid (by rw [hwa]; exact HBr.out.trans ((HBA.out _).mono HBr.out.size))
      have hrt : tn < rs.length := by rw [HL.out]; exact tn40
      have ca : wa.cell? ⟨b, off + tn, none⟩ = some (.int .i64 z) := by
        obtain ⟨b', off', e', _, hc'⟩ := HTa.out.has.rd.2 (by omega)
        injection e' with e'
        injection e' with e1 e2
        subst e1 e2
        rw [hc' tn hrt, ← getD_at rs tn hrt, HRD.out]
      have HWA := Lib.hid hwa
      clear hrt hwa HBA
      rcases (show i = 0 ∨ i = 1 ∨ i = 2 ∨ i = 3 by omega) with rfl | rfl | rfl | rfl
      · rw [show ((0 : Nat) : Int) = 0 from rfl]
        by_cases h1 : 1 < xs.length
        · obtain ⟨a, c, hac, ha, hc⟩ := HW0.out h1
          have HT0 := Lib.hid (ticks_len d Y cy (xs.length - 1) ys HLy.out (by omega) z wa HTa.out.y a c hac)
          have hne : (((xs.length - 1 : Nat) : Int) == 0) = false := by rw [beq_eq_false_iff_ne]; omega
          clear hac
          have g1 : decide (p1 < a) = false := by simp; omega
          have g2 : decide (c < p2) = false := by simp; omega
          go_wp2_with fail
          rw [← HWA.out]
          refine (HM40 _).out.mono ?_
          rintro e w' ⟨rfl, hw⟩
          obtain rfl := hw.symm
          clear hw
          go_wp2_with fail
          refine HT0.out.mono ?_
          rintro e wb ⟨rfl, hbb⟩
          have HTb := Lib.hid (HTa.out.later hbb)
          have HBb := Lib.hid (HBa.out.trans (hbb.mono HBa.out.size))
          clear hbb
          go_wp2_with fail
          go_roundw
          case rel => exact ⟨1, rfl, by omega, HTb, HBb⟩
          case measure => simp [intOf]
        · have hne : (((xs.length - 1 : Nat) : Int) == 0) = true := by rw [beq_iff_eq]; omega
          go_wp2_with fail
          rw [← HWA.out]
          go_roundw
          case rel => exact ⟨1, rfl, by omega, HTa, HBa⟩
          case measure => simp [intOf]
      · rw [show ((1 : Nat) : Int) = 1 from rfl]
        obtain ⟨a, c, hac, ha, hc⟩ := HW1.out
        have HT0 := Lib.hid (ticks_len d (some ⟨g, 0, none⟩) cw xs.length zs HLz.out (by omega) z wa HTa.out.z a c hac)
        have hne : ((xs.length : Int) == 0) = false := by rw [beq_eq_false_iff_ne]; omega
        clear hac
        have g1 : decide (p1 < a) = false := by simp; omega
        have g2 : decide (c < p2) = false := by simp; omega
        go_wp2_with fail
        rw [← HWA.out]
        refine (HM40 _).out.mono ?_
        rintro e w' ⟨rfl, hw⟩
        obtain rfl := hw.symm
        clear hw
        go_wp2_with fail
        refine HT0.out.mono ?_
        rintro e wb ⟨rfl, hbb⟩
        have HTb := Lib.hid (HTa.out.later hbb)
        have HBb := Lib.hid (HBa.out.trans (hbb.mono HBa.out.size))
        clear hbb
        go_wp2_with fail
        go_roundw
        case rel => exact ⟨2, rfl, by omega, HTb, HBb⟩
        case measure => simp [intOf]
      · rw [show ((2 : Nat) : Int) = 2 from rfl]
        have v0 := Ck.around_ge at' (513 - d) (by omega)
        have v1 := Ck.around_lt at' (513 - d) (by omega)
        have HV := fun W => Lib.hid (around_any at' (513 - d) HAt.out (by omega) (by omega) W)
        generalize Ck.around at' (513 - d) = av at *
        obtain ⟨a, c, hac, ha, hc⟩ := HW2.out (d + av) (by omega) (by omega)
        have HT0 := Lib.hid (ticks_len (d + av) (some ⟨bx, ox, none⟩) cx xs.length xs rfl (by omega) z wa HTa.out.has.ex a c hac)
        have hne : ((xs.length : Int) == 0) = false := by rw [beq_eq_false_iff_ne]; omega
        clear hac
        have g1 : decide (p1 < a) = false := by simp; omega
        have g2 : decide (c < p2) = false := by simp; omega
        go_wp2_with fail
        rw [← HWA.out]
        refine (HV _).out.mono ?_
        rintro e w' ⟨rfl, hw⟩
        obtain rfl := hw.symm
        clear hw
        go_wp2_with fail
        refine (HM40 _).out.mono ?_
        rintro e w' ⟨rfl, hw⟩
        obtain rfl := hw.symm
        clear hw
        go_wp2_with fail
        refine HT0.out.mono ?_
        rintro e wb ⟨rfl, hbb⟩
        have HTb := Lib.hid (HTa.out.later hbb)
        have HBb := Lib.hid (HBa.out.trans (hbb.mono HBa.out.size))
        clear hbb
        go_wp2_with fail
        go_roundw
        case rel => exact ⟨3, rfl, by omega, HTb, HBb⟩
        case measure => simp [intOf]
      · rw [show ((3 : Nat) : Int) = 3 from rfl]
        clear HTa HBa HWA ca
        go_wp2_with fail
        refine (lives_any wr).mono ?_
        rintro e w6 ⟨rfl, hb6⟩
        have HB6 := Lib.hid (HBr.out.trans (hb6.mono HBr.out.size))
        clear hb6
        go_wp2_with fail
        go_ret
        exact ⟨rfl, HB6.out⟩

end Go.Proofs.Ytjldhikadijbiaa
