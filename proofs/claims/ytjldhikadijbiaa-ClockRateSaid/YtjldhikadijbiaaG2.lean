/- The walk of ClockContains. -/
import Derived.Test.YtjldhikadijbiaaG1
namespace Go.Proofs.Ytjldhikadijbiaa
open Go.RowKit

set_option maxRecDepth 100000 in
set_option maxHeartbeats 4000000 in
theorem contains_law (A : Option Addr) (cap : Nat) (l : List Int) (B : Option Addr) (bcap : Nat) (m : List Int) (w : World) (hA : InInts w A cap l) (hB : InInts w B bcap m) :
    Calls Try.prog 8 #[.slice A l.length cap, .slice B m.length bcap] w (Told true w) := by
  have HC := Lib.hid (clockOf_any A cap l hA.len B bcap m hB.len w hA.1 hB.1)
  clear hA hB
  go_enter Try.func8, Try.ntmps8
  go_wp2_with fail
  refine HC.out.mono ?_
  rintro e w1 ⟨d, R, rc, rs, X, cx, xs, rfl, hH, hb1⟩
  have HB1 := Lib.hid hb1
  have HH := Lib.hid hH
  have hx16 := hH.made.le
  have HM := Lib.hid hH.made
  have HL := Lib.hid hH.made.len
  have HAg := Lib.hid (agrees_any d X cx xs (by omega) 0 R rc rs (by rw [HL.out]; omega) w1 hH.ex hH.rd)
  rw [hH.made.agrees, hH.made.len] at HAg
  clear hb1 hH HC
  go_wp2_with fail
  refine HAg.out.mono ?_
  rintro e w2 ⟨rfl, hb2⟩
  have HH2 := Lib.hid (HH.out.later hb2)
  have HB2 := Lib.hid (HB1.out.trans (hb2.mono HB1.out.size))
  clear hb2 HAg HH HB1
  go_wp2_with fail
  go_loopw [8, 9, 10, 11, 12, 13, 14] (fun v8 _ _ _ _ _ _ wr => ∃ k : Nat, v8 = .int .i64 (k : Int) ∧ k ≤ 40 ∧ Hid (Has wr d R rs X xs) ∧ Hid (Below w.heap.size w wr)) (fun v _ _ _ _ _ _ _ => 40 - (intOf v).toNat)
  case atStart => exact ⟨0, rfl, by omega, HH2, HB2⟩
  case round =>
    obtain ⟨k, rfl, hk, HW, HBW⟩ := hrel
    by_cases hlt : k < 40
    · have hkr : k < rs.length := by rw [HL.out]; exact hlt
      obtain ⟨b, off, rfl, hbl, hcell⟩ := HW.out.rd.2 (by omega)
      have c0 := hcell k hkr
      have hsm := HM.out.small k hlt
      have h1 := HM.out.ticks_has k hlt
      have h2 := HM.out.offset_has k (by omega)
      rw [Ck.hist_lt rs k hlt] at h2
      rw [getD_at rs k hkr] at h1 h2 hsm
      have HT := Lib.hid (ticks_any d X cx xs (by omega) rs[k] wr HW.out.ex)
      have HO := fun (W : World) (hb : Below wr.heap.size wr W) => Lib.hid (offset_any d X cx xs (by omega) (k : Int) W (HW.out.ex.later hb))
      generalize rs[k] = z at *
      generalize Ck.ticks d xs z = p at *
      generalize Ck.offset d xs (k : Int) = q at *
      obtain ⟨p1, p2, p3⟩ := p
      obtain ⟨q1, q2, q3⟩ := q
      obtain ⟨a1, a2, a3⟩ := h1
      obtain ⟨b1, b2, b3⟩ := h2
      dsimp only at a1 a2 a3 b1 b2 b3
      subst a1 b1
      obtain ⟨s1, s2⟩ := hsm
      have g1 : decide ((k : Int) < p1) = false := by simp; omega
      have g2 : decide (p2 < (k : Int)) = false := by simp; omega
      have g3 : decide (z - (k : Int) < q1) = false := by simp; omega
      have g4 : decide (q2 < z - (k : Int)) = false := by simp; omega
      clear hcell hkr
      go_wp2_with fail
      refine HT.out.mono ?_
      rintro e w3 ⟨rfl, hb3⟩
      have HW3 := Lib.hid (HW.out.later hb3)
      have HB3 := Lib.hid (HBW.out.trans (hb3.mono HBW.out.size))
      have HO3 := HO w3 hb3
      have c3 := (hb3.cell (p := ⟨b, off + k, none⟩) hbl).trans c0
      have hsz3 := hb3.size
      clear hb3 c0 HT HO
      go_wp2_with fail
      refine HO3.out.mono ?_
      rintro e w4 ⟨rfl, hb4⟩
      have HW4 := Lib.hid (HW3.out.later hb4)
      have HB4 := Lib.hid (HB3.out.trans (hb4.mono HB3.out.size))
      have c4 := (hb4.cell (p := ⟨b, off + k, none⟩) (Nat.lt_of_lt_of_le hbl hsz3)).trans c3
      clear hb4 c3 HO3
      go_wp2_with fail
      go_roundw
      case rel => exact ⟨k + 1, by go_num, by omega, HW4, HB4⟩
      case measure => simp [intOf]; omega
    · go_wp2_with fail
      refine (lives_any wr).mono ?_
      rintro e w6 ⟨rfl, hb6⟩
      have HB6 := Lib.hid (HBW.out.trans (hb6.mono HBW.out.size))
      clear hb6
      go_wp2_with fail
      go_ret
      exact ⟨rfl, HB6.out⟩

end Go.Proofs.Ytjldhikadijbiaa
