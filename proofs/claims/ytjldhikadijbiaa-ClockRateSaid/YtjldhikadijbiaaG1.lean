/- The walk of ClockLimits. -/
import Derived.Test.YtjldhikadijbiaaF3
namespace Go.Proofs.Ytjldhikadijbiaa
open Go.RowKit

theorem InInts.len {w : World} {A : Option Addr} {c : Nat} {l : List Int} (h : InInts w A c l) : l.length ≤ 9223372036854775807 := by
  rcases h.2 with ⟨_, h0, _⟩ | ⟨_, _, h1, h2⟩
  · omega
  · unfold maxLen at h2; omega

theorem Has.first {w : World} {d : Int} {A X : Option Addr} {rs : List Int} {xs : List Ck.Ex} (h : Has w d A rs X xs) :
    ∃ b off g, X = some ⟨b, off, none⟩ ∧ b < w.heap.size ∧ w.cell? ⟨b, off + 2, none⟩ = some (.int .i64 g) ∧ (-2000 ≤ g ∧ g ≤ 2000) ∧ ∀ r : Int, 2097152 < ((r - g).natAbs : Int) → Ck.ticks d xs r = (0, 0, 13) := by
  have hn := h.made.ne
  obtain ⟨b, off, e, hb, hc⟩ := h.ex.2 hn
  refine ⟨b, off, (xs[0]'hn).reading, e, hb, by simpa using (hc 0 hn).2.2, h.made.reading (List.getElem_mem hn), fun r hr => ?_⟩
  exact Ck.ticks_apart d r xs h.made.valid 0 hn hr rfl

set_option maxRecDepth 100000 in
set_option maxHeartbeats 2000000 in
theorem limits_law (A : Option Addr) (cap : Nat) (l : List Int) (B : Option Addr) (bcap : Nat) (m : List Int) (far tick : Int) (hf : i64 far) (ht : i64 tick) (w : World) (hA : InInts w A cap l) (hB : InInts w B bcap m) :
    Calls Try.prog 11 #[.slice A l.length cap, .slice B m.length bcap, .int .i64 far, .int .i64 tick] w (Told true w) := by
  have HC := Lib.hid (clockOf_any A cap l hA.len B bcap m hB.len w hA.1 hB.1)
  have HF := fun W => Lib.hid (around_any far 4611686018427387904 hf (by omega) (by omega) W)
  have HT := fun W => Lib.hid (around_any tick 1000 ht (by omega) (by omega) W)
  have f0 := Ck.around_ge far 4611686018427387904 (by omega)
  have f1 := Ck.around_lt far 4611686018427387904 (by omega)
  have t0 := Ck.around_ge tick 1000 (by omega)
  have t1 := Ck.around_lt tick 1000 (by omega)
  generalize Ck.around far 4611686018427387904 = af at *
  generalize Ck.around tick 1000 = at' at *
  clear hA hB hf ht
  go_enter Try.func11, Try.ntmps11
  go_wp2_with fail
  refine HC.out.mono ?_
  rintro e w1 ⟨d, R, rc, rs, X, cx, xs, rfl, hH, hb1⟩
  have HB1 := Lib.hid hb1
  have HH := Lib.hid hH
  obtain ⟨b, off, g, rfl, hbl, c0, ⟨g0, g1⟩, htk⟩ := hH.first
  have HTK := Lib.hid htk
  have hx16 := hH.made.le
  have hx1 : 0 < xs.length := hH.made.ne
  have hv := hH.made.valid
  have HO : Hid (Ck.offset d xs (-1 - at') = (0, 0, 1) ∧ Ck.offset d xs (1048577 + at') = (0, 0, 1)) := Lib.hid ⟨by unfold Ck.offset; rw [if_pos (Or.inr (Or.inl (by omega)))], by unfold Ck.offset; rw [if_pos (Or.inr (Or.inr (by omega)))]⟩
  have HT1 := Lib.hid (ticks_any d _ cx xs (by omega) (g + (2097153 + af)) w1 hH.ex)
  rw [htk _ (by omega)] at HT1
  clear hb1 hH htk hv HC
  go_wp2_with fail
  refine (HF _).out.mono ?_
  rintro e w' ⟨rfl, hw⟩
  obtain rfl := hw.symm
  clear hw
  go_wp2_with fail
  refine HT1.out.mono ?_
  rintro e w2 ⟨rfl, hb2⟩
  have HH2 := Lib.hid (HH.out.later hb2)
  have HB2 := Lib.hid (HB1.out.trans (hb2.mono HB1.out.size))
  have c2 := (hb2.cell (p := ⟨b, off + 2, none⟩) hbl).trans c0
  have HT2 := Lib.hid (ticks_any d _ cx xs (by omega) (g - (2097153 + af)) w2 HH2.out.ex)
  rw [HTK.out _ (by omega)] at HT2
  clear hb2 c0 HT1 HB1 HH
  go_wp2_with fail
  refine HT2.out.mono ?_
  rintro e w3 ⟨rfl, hb3⟩
  have HH3 := Lib.hid (HH2.out.later hb3)
  have HB3 := Lib.hid (HB2.out.trans (hb3.mono HB2.out.size))
  have HO3 := Lib.hid (offset_any d _ cx xs (by omega) (-1 - at') w3 HH3.out.ex)
  rw [HO.out.1] at HO3
  clear hb3 c2 HT2 HB2 HH2
  go_wp2_with fail
  refine (HT _).out.mono ?_
  rintro e w' ⟨rfl, hw⟩
  obtain rfl := hw.symm
  clear hw
  go_wp2_with fail
  refine HO3.out.mono ?_
  rintro e w4 ⟨rfl, hb4⟩
  have HH4 := Lib.hid (HH3.out.later hb4)
  have HB4 := Lib.hid (HB3.out.trans (hb4.mono HB3.out.size))
  have HO4 := Lib.hid (offset_any d _ cx xs (by omega) (1048577 + at') w4 HH4.out.ex)
  rw [HO.out.2] at HO4
  clear hb4 HO3 HB3 HH3
  go_wp2_with fail
  refine (HT _).out.mono ?_
  rintro e w' ⟨rfl, hw⟩
  obtain rfl := hw.symm
  clear hw
  go_wp2_with fail
  refine HO4.out.mono ?_
  rintro e w5 ⟨rfl, hb5⟩
  have HB5 := Lib.hid (HB4.out.trans (hb5.mono HB4.out.size))
  clear hb5 HO4 HB4 HH4
  go_wp2_with fail
  refine (lives_any w5).mono ?_
  rintro e w6 ⟨rfl, hb6⟩
  have HB6 := Lib.hid (HB5.out.trans (hb6.mono HB5.out.size))
  clear hb6
  go_wp2_with fail
  go_ret
  exact ⟨rfl, HB6.out⟩

end Go.Proofs.Ytjldhikadijbiaa
