/- The walk of Exchanges. -/
import Derived.Test.YtjldhikadijbiaaF1
import Derived.Deep.RegionHeld3
import Derived.Deep.AppendLies
namespace Go.Proofs.Ytjldhikadijbiaa
open Go.RowKit

theorem cell_three_new (w : World) (t : TypeId) (u v x : Value) : ∀ j y, [u, v, x][j]? = some y → (w.alloc (.cells #[u, v, x] t)).cell? ((⟨w.heap.size, 0, none⟩ : Addr).add j) = some y := by
  intro j y h
  have hb := Blk.new w t #[u, v, x]
  rw [add_none, hb.cell, Nat.zero_add]
  match j with
  | 0 => simpa using h
  | 1 => simpa using h
  | 2 => simpa using h
  | j + 3 => simp at h

/-- exchanges of readings, in new memory -/
def MadeX (rs : List Int) (w : World) (e : Ending) (w' : World) : Prop :=
  ∃ A c xs, e = .returned (.slice A xs.length c) ∧ xs.length ≤ c ∧ 1 ≤ xs.length ∧ xs.length ≤ 16 ∧ (∀ x ∈ xs, Ck.GoodX rs 43 x) ∧ Exs w' w'.heap.size A xs ∧ Below w.heap.size w w'

theorem goodX_i64 {rs : List Int} {x : Ck.Ex} (h : Ck.GoodX rs 43 x) (hr : ∀ z ∈ rs, i64 z) : i64 x.send ∧ i64 x.recv ∧ i64 x.reading := by
  obtain ⟨t, ht, a1, a2, a3, a4, e⟩ := h
  have := hr _ (List.getElem_mem ht)
  rw [List.getD_eq_getElem?_getD, List.getElem?_eq_getElem ht, Option.getD_some] at e
  rw [← e] at this
  unfold i64 at *
  omega

theorem own_form {w : World} {base n : Nat} {e : TypeId} {size : Nat} {v : Value} {xs : List Value} (h : w.ownsRow base e size v n xs) : ∃ A c, v = .slice A n c := by
  rcases h.2 with ⟨rfl, rfl⟩ | ⟨g, cp, cur, hv, _⟩
  · exact ⟨none, 0, rfl⟩
  · exact ⟨_, _, hv⟩

theorem own_cap {w : World} {base n c : Nat} {A : Option Addr} {e : TypeId} {size : Nat} {xs : List Value} (h : w.ownsRow base e size (.slice A n c) n xs) : n ≤ c := by
  rcases h.2 with ⟨_, h⟩ | ⟨g, cp, cur, hv, _, _, hc, _⟩
  · omega
  · injection hv with _ _ h3
    omega

set_option maxRecDepth 100000 in
set_option maxHeartbeats 1000000 in
theorem exchanges_any (R : Option Addr) (rcap : Nat) (rs : List Int) (hrs : rs.length = 40) (A : Option Addr) (cap : Nat) (l : List Int) (hl : l.length ≤ 9223372036854775807) (w : World) (hr : Ints w w.heap.size R rs) (hx : Ints w w.heap.size A l) :
    Calls Try.prog 35 #[.slice R 40 rcap, .slice A l.length cap] w (MadeX rs w) := by
  obtain ⟨i0, hi, hz0, hz1, hz2⟩ := info_parts info51
  have HX := Lib.hid hx
  have HRI := Lib.hid hr.1
  obtain ⟨br, offr, rfl, hbr, hcr⟩ := hr.2 (by omega)
  have HCR := Lib.hid hcr
  have HRL := Lib.hid hrs
  clear hx hr hcr hrs
  go_enter Try.func35, Try.ntmps35
  go_wp2_with fail
  go_loopw [5, 6, 7, 8] (fun v5 v6 _ _ wr => ∃ (xs : List Ck.Ex) (k : Nat) (A5 : Option Addr) (c5 : Nat), v5 = .slice A5 k c5 ∧ v6 = .int .i64 (3 * (k : Int)) ∧ Hid (xs.length = k) ∧ k ≤ 16 ∧ 3 * k ≤ l.length ∧ Hid (wr.ownsRow w.heap.size 51 3 (.slice A5 k c5) k (exCells xs)) ∧ Hid (Below w.heap.size w wr) ∧ Hid (∀ x ∈ xs, Ck.GoodX rs 43 x)) (fun _ v _ _ _ => 48 - (intOf v).toNat)
  case atStart => exact ⟨[], 0, none, 0, rfl, rfl, Lib.hid rfl, by omega, by omega, Lib.hid ⟨rfl, .inl ⟨rfl, rfl⟩⟩, Lib.hid (Below.refl _ _), Lib.hid (by simp)⟩
  case round =>
    obtain ⟨xs, k, A5, c5, rfl, rfl, HK, hk, hk3, HO, HBW, HG⟩ := hrel
    have hszw := HBW.out.size
    by_cases hc : 3 * k + 2 < l.length ∧ k < 16
    · obtain ⟨hc1, hc2⟩ := hc
      obtain ⟨b, off, rfl, hbl, hcell⟩ := HX.out.2 (by omega)
      have c0 := (HBW.out.cell (p := ⟨b, off + 3 * k, none⟩) hbl).trans (hcell (3 * k) (by omega))
      have c1 := (HBW.out.cell (p := ⟨b, off + (3 * k + 1), none⟩) hbl).trans (hcell (3 * k + 1) (by omega))
      have c2 := (HBW.out.cell (p := ⟨b, off + (3 * k + 2), none⟩) hbl).trans (hcell (3 * k + 2) hc1)
      have z0 := HX.out.1 _ (List.getElem_mem (show 3 * k < l.length by omega))
      have z1 := HX.out.1 _ (List.getElem_mem (show 3 * k + 1 < l.length by omega))
      have z2 := HX.out.1 _ (List.getElem_mem hc1)
      generalize l[3 * k] = y0 at *
      generalize l[3 * k + 1] = y1 at *
      generalize l[3 * k + 2] = y2 at *
      have HA0 := fun W => Lib.hid (around_any y0 40 z0 (by omega) (by omega) W)
      have HA1 := fun W => Lib.hid (around_any y1 5 z1 (by omega) (by omega) W)
      have HA2 := fun W => Lib.hid (around_any y2 5 z2 (by omega) (by omega) W)
      have t0 := Ck.around_ge y0 40 (by omega)
      have t1 := Ck.around_lt y0 40 (by omega)
      have p0 := Ck.around_ge y1 5 (by omega)
      have p1 := Ck.around_lt y1 5 (by omega)
      have q0 := Ck.around_ge y2 5 (by omega)
      have q1 := Ck.around_lt y2 5 (by omega)
      obtain ⟨tn, htn⟩ : ∃ tn : Nat, Ck.around y0 40 = (tn : Int) := ⟨(Ck.around y0 40).toNat, by omega⟩
      rw [htn] at HA0 t0 t1
      clear htn
      generalize Ck.around y1 5 = a1 at *
      generalize Ck.around y2 5 = a2 at *
      have htr : tn < rs.length := by rw [HRL.out]; omega
      have cr := (HBW.out.cell (p := ⟨br, offr + tn, none⟩) hbr).trans (HCR.out tn htr)
      have HRD : Hid (rs.getD tn 0 = rs[tn]) := Lib.hid (by rw [List.getD_eq_getElem?_getD, List.getElem?_eq_getElem htr, Option.getD_some])
      generalize rs[tn] = rd at *
      clear hcell z0 z1 z2
      have HN : Hid (∀ sd : Int, 0 ≤ sd → sd ≤ tn → ∀ x ∈ xs ++ [⟨sd, tn + a2, rd⟩], Ck.GoodX rs 43 x) := Lib.hid (fun sd sd0 sd1 x hx => by
        rcases List.mem_append.1 hx with h | h
        · exact HG.out x h
        · rw [List.mem_singleton] at h
          subst h
          exact ⟨tn, htr, sd0, sd1, by simp; omega, by simp; omega, HRD.out.symm⟩)
      have ag : (Value.slice A5 k c5).ownBlock ≠ some b := fun h => by have := (HO.out.lt b h).1; omega
      have ar : (Value.slice A5 k c5).ownBlock ≠ some br := fun h => by have := (HO.out.lt br h).1; omega
      go_wp2_with fail
      refine (HA0 _).out.mono ?_
      rintro e w' ⟨rfl, hw⟩
      obtain rfl := hw.symm
      clear hw
      go_wp2_with fail
      refine (HA1 _).out.mono ?_
      rintro e w' ⟨rfl, hw⟩
      obtain rfl := hw.symm
      clear hw
      go_wp2_with fail
      · clear c0 c1
        have wr1 : IntKind.i64.wrap (3 * (k : Int) + 2) = 3 * (k : Int) + 2 := IntWalk.i64_in _ (by omega)
        have wr2 : IntKind.i64.wrap ((tn : Int) + a2) = (tn : Int) + a2 := IntWalk.i64_in _ (by omega)
        have hy0 : (0 : Int) ≤ 3 * (k : Int) + 2 := by omega
        have hy1 : 3 * (k : Int) + 2 < (l.length : Int) := by omega
        have hy2 : (3 * (k : Int) + 2).toNat = 3 * k + 2 := by omega
        go_region_held3 (fun w' => w'.cell? ⟨b, off + (3 * k + 2), none⟩ = some (.int .i64 y2) ∧ w'.cell? ⟨br, offr + tn, none⟩ = some (.int .i64 rd))
          (first
            | go_keep
            | (go_split_ands
               refine ⟨?_, ?_⟩
               · (rw [hgrow.cell_far _ (by simp; omega) (Ne.symm ag)]; assumption)
               · (rw [hgrow.cell_far _ (by simp; omega) (Ne.symm ar)]; assumption)))
          (first
            | (go_at_call 13; refine (HA2 _).out.mono ?_; rintro e w' ⟨rfl, hw⟩; obtain rfl := hw.symm; clear hw)
            | (refine step_append_lies _ (by rfl) _ _ _ (by rfl) w.heap.size 51 i0 _ 3 24 Try.underlying23 hi hz0 hz1 hz2 rfl (by omega) (.slice A5 k c5) k (exCells xs) (by rfl) ((HO.out.alloc _).drew)
                ⟨wr.heap.size, 0, none⟩ 1 1 [.int .i64 ((tn : Int) - a1), .int .i64 ((tn : Int) + a2), .int .i64 rd] (by rfl) (by rfl) (World.news_of_block (cs := #[.int .i64 ((tn : Int) - a1), .int .i64 ((tn : Int) + a2), .int .i64 rd]) (t := 51) (fr := (0, 0)) (heap_alloc_new wr _)) (by simp [Value.oneCell'])
                (by omega) (by unfold maxLen; omega) (by omega) (by simp; omega) (wr.heap.size + 1) (by simp) ?_; intro gg cap w1 hown1 hgrow hat hlt))
        have hsz1 : w.heap.size ≤ (wr.alloc (.cells #[.int .i64 ((tn : Int) - a1), .int .i64 ((tn : Int) + a2), .int .i64 rd] 51)).drew.heap.size := by simp; omega
        have HB1 : Hid (Below w.heap.size w w1) := Lib.hid (((HBW.out.alloc HBW.out.size _).drew).grown hgrow hsz1 (fun g hg => (HO.out.lt g hg).1))
        have HO1 := Lib.hid hown1
        clear hown1 hgrow hat hlt hsz1 wr1 wr2 hy0 hy1 hy2 c2 cr
        go_wp2_with fail
        go_roundw
        case rel => exact ⟨xs ++ [⟨(tn : Int) - a1, tn + a2, rd⟩], k + 1, some ⟨gg, 0, none⟩, cap, rfl, by go_num, Lib.hid (by simp [HK.out]), by omega, by omega, Lib.hid (by rw [exCells_append]; exact HO1.out), HB1, Lib.hid (HN.out _ (by omega) (by omega))⟩
        case measure => simp [intOf]; omega
      · clear c0 c1
        have wr1 : IntKind.i64.wrap (3 * (k : Int) + 2) = 3 * (k : Int) + 2 := IntWalk.i64_in _ (by omega)
        have wr2 : IntKind.i64.wrap ((tn : Int) + a2) = (tn : Int) + a2 := IntWalk.i64_in _ (by omega)
        have hy0 : (0 : Int) ≤ 3 * (k : Int) + 2 := by omega
        have hy1 : 3 * (k : Int) + 2 < (l.length : Int) := by omega
        have hy2 : (3 * (k : Int) + 2).toNat = 3 * k + 2 := by omega
        go_region_held3 (fun w' => w'.cell? ⟨b, off + (3 * k + 2), none⟩ = some (.int .i64 y2) ∧ w'.cell? ⟨br, offr + tn, none⟩ = some (.int .i64 rd))
          (first
            | go_keep
            | (go_split_ands
               refine ⟨?_, ?_⟩
               · (rw [hgrow.cell_far _ (by simp; omega) (Ne.symm ag)]; assumption)
               · (rw [hgrow.cell_far _ (by simp; omega) (Ne.symm ar)]; assumption)))
          (first
            | (go_at_call 13; refine (HA2 _).out.mono ?_; rintro e w' ⟨rfl, hw⟩; obtain rfl := hw.symm; clear hw)
            | (refine step_append_lies _ (by rfl) _ _ _ (by rfl) w.heap.size 51 i0 _ 3 24 Try.underlying23 hi hz0 hz1 hz2 rfl (by omega) (.slice A5 k c5) k (exCells xs) (by rfl) ((HO.out.alloc _).drew)
                ⟨wr.heap.size, 0, none⟩ 1 1 [.int .i64 (0), .int .i64 ((tn : Int) + a2), .int .i64 rd] (by rfl) (by rfl) (World.news_of_block (cs := #[.int .i64 (0), .int .i64 ((tn : Int) + a2), .int .i64 rd]) (t := 51) (fr := (0, 0)) (heap_alloc_new wr _)) (by simp [Value.oneCell'])
                (by omega) (by unfold maxLen; omega) (by omega) (by simp; omega) (wr.heap.size + 1) (by simp) ?_; intro gg cap w1 hown1 hgrow hat hlt))
        have hsz1 : w.heap.size ≤ (wr.alloc (.cells #[.int .i64 (0), .int .i64 ((tn : Int) + a2), .int .i64 rd] 51)).drew.heap.size := by simp; omega
        have HB1 : Hid (Below w.heap.size w w1) := Lib.hid (((HBW.out.alloc HBW.out.size _).drew).grown hgrow hsz1 (fun g hg => (HO.out.lt g hg).1))
        have HO1 := Lib.hid hown1
        clear hown1 hgrow hat hlt hsz1 wr1 wr2 hy0 hy1 hy2 c2 cr
        go_wp2_with fail
        go_roundw
        case rel => exact ⟨xs ++ [⟨0, tn + a2, rd⟩], k + 1, some ⟨gg, 0, none⟩, cap, rfl, by go_num, Lib.hid (by simp [HK.out]), by omega, by omega, Lib.hid (by rw [exCells_append]; exact HO1.out), HB1, Lib.hid (HN.out _ (by omega) (by omega))⟩
        case measure => simp [intOf]; omega
    · by_cases h0 : 0 < k
      · have HE : Hid (Exs wr wr.heap.size A5 xs) := Lib.hid (Exs.of_own HO.out HK.out (fun x hx => goodX_i64 (HG.out x hx) HRI.out))
        have hkb : ((k : Int) == 0) = false := by rw [beq_eq_false_iff_ne]; omega
        by_cases hc1 : 3 * k + 2 < l.length
        · have hc2 : ¬ k < 16 := by omega
          clear hc
          go_wp2_with fail
          go_ret
          exact ⟨A5, c5, xs, by rw [HK.out]; rfl, by rw [HK.out]; exact own_cap HO.out, by rw [HK.out]; omega, by rw [HK.out]; omega, HG.out, HE.out, HBW.out⟩
        · have hcb : decide (3 * (k : Int) + 2 < (l.length : Int)) = false := by simp; omega
          clear hc
          go_wp2_with fail
          go_ret
          exact ⟨A5, c5, xs, by rw [HK.out]; rfl, by rw [HK.out]; exact own_cap HO.out, by rw [HK.out]; omega, by rw [HK.out]; omega, HG.out, HE.out, HBW.out⟩
      · obtain rfl : k = 0 := by omega
        have hcb : decide ((2 : Int) < (l.length : Int)) = false := by simp; omega
        have hr0 : 0 < rs.length := by rw [HRL.out]; omega
        have cr := (HBW.out.cell (p := ⟨br, offr, none⟩) hbr).trans (HCR.out 0 hr0)
        have HRD : Hid (rs.getD 0 0 = rs[0]) := Lib.hid (by rw [List.getD_eq_getElem?_getD, List.getElem?_eq_getElem hr0, Option.getD_some])
        have hri := HRI.out _ (List.getElem_mem hr0)
        generalize rs[0] = rd at *
        clear hc
        have hxs : xs = [] := List.length_eq_zero_iff.1 HK.out
        subst hxs
        have HOn := Lib.hid HO.out
        have HGX : Hid (∀ x ∈ [(⟨0, 0, rd⟩ : Ck.Ex)], Ck.GoodX rs 43 x) := Lib.hid (fun x hx => by
          rw [List.mem_singleton] at hx
          subst hx
          exact ⟨0, hr0, by simp, by simp, by simp, by simp, HRD.out.symm⟩)
        have H3 : (3 : Int) * ((0 : Nat) : Int) = 0 := rfl
        rw [H3]
        clear H3
        go_wp2_with (at_builtin; refine wpList_append_own _ rfl _ _ 23 rfl w.heap.size 51 i0 _ 3 24 Try.underlying23 hi hz0 hz1 hz2 rfl (by decide) _ _ _ rfl (HO.out.alloc _) ⟨wr.heap.size, 0, none⟩ 1 1 [.int .i64 0, .int .i64 0, .int .i64 rd] rfl rfl (cell_three_new _ _ _ _ _) (by simp [Value.oneCell']) (by unfold maxLen; omega) (by omega) (by simp; omega) ?_; intro v' w1 hown' hgrow hnl; clear hnl; have HO' := Lib.hid hown'; have HG' := Lib.hid ((HBW.out.alloc HBW.out.size _).grown hgrow (by simp; omega) (fun g hg => (HO.out.lt g hg).1)); clear hown' hgrow)
        obtain ⟨A', c', rfl⟩ := own_form HO'.out
        go_ret
        exact ⟨A', c', [⟨0, 0, rd⟩], rfl, own_cap HO'.out, by simp, by simp, HGX.out, Exs.of_own HO'.out rfl (fun x hx => goodX_i64 (HGX.out x hx) HRI.out), HG'.out⟩

end Go.Proofs.Ytjldhikadijbiaa
