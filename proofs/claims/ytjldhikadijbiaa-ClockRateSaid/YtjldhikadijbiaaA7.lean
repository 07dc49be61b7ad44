/- The walk of the clock's Agrees. -/
import Derived.Test.YtjldhikadijbiaaA6
namespace Go.Proofs.Ytjldhikadijbiaa
open Go.RowKit

theorem all_takeI (p : Int → Bool) (l : List Int) (k : Nat) (hk : k < l.length) (h : (l.take k).all p = true) (hc : p l[k] = true) : (l.take (k + 1)).all p = true := by
  rw [List.take_succ_eq_append_getElem hk, List.all_append, h]
  simp [hc]
theorem all_notI (p : Int → Bool) (l : List Int) (k : Nat) (hk : k < l.length) (hc : p l[k] = false) : l.all p = false := by
  cases h : l.all p with
  | false => rfl
  | true => rw [List.all_eq_true.1 h _ (List.getElem_mem hk)] at hc; cases hc

set_option maxRecDepth 100000 in
set_option maxHeartbeats 4000000 in
theorem agrees_any (d : Int) (A : Option Addr) (cap : Nat) (l : List Ck.Ex) (hl : l.length ≤ 9223372036854775807) (first : Int) (R : Option Addr) (rcap : Nat) (rs : List Int) (hrl : rs.length ≤ 1000000) (w : World) (hx : Exs w w.heap.size A l) (hr : Ints w w.heap.size R rs) :
    Calls Try.prog 16 #[.int .i64 d, .slice A l.length cap, .int .i64 first, .slice R rs.length rcap] w (Told (Ck.agrees d l first rs) w) := by
  have HV := Lib.hid (valid_any d A cap l hl _ hx)
  cases hv : Ck.valid d l
  · have HRES : Hid (Ck.agrees d l first rs = false) := Lib.hid (by unfold Ck.agrees; rw [hv]; simp)
    generalize Ck.agrees d l first rs = res at *
    rw [hv] at HV
    clear hx hr hv
    go_enter Try.func16, Try.ntmps16
    go_wp2_with fail
    refine HV.out.mono ?_
    rintro e w1 ⟨rfl, hb1⟩
    have HB1 := Lib.hid hb1
    clear hb1
    go_wp2_with fail
    go_ret
    exact ⟨ret_bool HRES.out.symm, HB1.out⟩
  · rw [hv] at HV
    by_cases h1 : first < 0
    · have HRES : Hid (Ck.agrees d l first rs = false) := Lib.hid (by unfold Ck.agrees; rw [decide_eq_false (by omega)]; simp)
      generalize Ck.agrees d l first rs = res at *
      clear hx hr hv
      go_enter Try.func16, Try.ntmps16
      go_wp2_with fail
      refine HV.out.mono ?_
      rintro e w1 ⟨rfl, hb1⟩
      have HB1 := Lib.hid hb1
      clear hb1
      go_wp2_with fail
      go_ret
      exact ⟨ret_bool HRES.out.symm, HB1.out⟩
    · have g1 : decide (first < 0) = false := by simp; omega
      by_cases h2 : 1048576 < first
      · have HRES : Hid (Ck.agrees d l first rs = false) := Lib.hid (by unfold Ck.agrees; rw [decide_eq_false (by omega)]; simp)
        generalize Ck.agrees d l first rs = res at *
        clear hx hr hv
        go_enter Try.func16, Try.ntmps16
        go_wp2_with fail
        refine HV.out.mono ?_
        rintro e w1 ⟨rfl, hb1⟩
        have HB1 := Lib.hid hb1
        clear hb1
        go_wp2_with fail
        go_ret
        exact ⟨ret_bool HRES.out.symm, HB1.out⟩
      · have g2 : decide (1048576 < first) = false := by simp; omega
        by_cases h3 : 1048576 < first + rs.length - 1
        · have HRES : Hid (Ck.agrees d l first rs = false) := Lib.hid (by unfold Ck.agrees; rw [decide_eq_false (by omega)]; simp)
          generalize Ck.agrees d l first rs = res at *
          clear hx hr hv
          go_enter Try.func16, Try.ntmps16
          go_wp2_with fail
          refine HV.out.mono ?_
          rintro e w1 ⟨rfl, hb1⟩
          have HB1 := Lib.hid hb1
          clear hb1
          go_wp2_with fail
          go_ret
          exact ⟨ret_bool HRES.out.symm, HB1.out⟩
        · have g3 : decide (1048576 < first + (rs.length : Int) - 1) = false := by simp; omega
          have HRES : Hid (Ck.agrees d l first rs = (rs.all Ck.inReach && (Ck.steady d rs && Ck.observed l first rs))) := Lib.hid (by unfold Ck.agrees; rw [decide_eq_true (by omega), hv]; simp)
          generalize Ck.agrees d l first rs = res at *
          have HX := Lib.hid hx
          have HR := Lib.hid hr
          obtain ⟨⟨d0, d1, l0, l1⟩, -⟩ := okEx_of hv
          clear hx hr hv
          go_enter Try.func16, Try.ntmps16
          go_wp2_with fail
          refine HV.out.mono ?_
          rintro e w1 ⟨rfl, hb1⟩
          have HB1 := Lib.hid hb1
          have HX1 := Lib.hid (HX.out.later hb1)
          have HR1 := Lib.hid (HR.out.later hb1)
          clear hb1 HX HR
          go_wp2_with fail
          go_loopw [10, 33] (fun _ v wr => ∃ (k : Nat), v = .int .i64 (k : Int) ∧ k ≤ rs.length ∧ wr = w1 ∧ Hid ((rs.take k).all Ck.inReach = true)) (fun _ v _ => rs.length - (intOf v).toNat)
          case atStart => exact ⟨0, rfl, Nat.zero_le _, rfl, Lib.hid (by simp)⟩
          case round =>
            obtain ⟨k, rfl, hk, rfl, HA⟩ := hrel
            by_cases hlt : k < rs.length
            · obtain ⟨b', off', rfl, hbl', hcell'⟩ := HR1.out.2 (by omega)
              have c0 := hcell' k hlt
              have hN := Lib.hid (all_notI Ck.inReach rs k hlt)
              have hY := Lib.hid (all_takeI Ck.inReach rs k hlt HA.out)
              generalize rs[k] = r at *
              clear hcell'
              by_cases o1 : r < -1099511627776
              · have HR : Hid (res = false) := Lib.hid (by rw [HRES.out, hN.out (by unfold Ck.inReach; exact decide_eq_false (by omega))]; rfl)
                go_wp2_with fail
                go_ret
                exact ⟨ret_bool HR.out.symm, HB1.out⟩
              · by_cases o2 : 1099511627776 < r
                · have HR : Hid (res = false) := Lib.hid (by rw [HRES.out, hN.out (by unfold Ck.inReach; exact decide_eq_false (by omega))]; rfl)
                  go_wp2_with fail
                  go_ret
                  exact ⟨ret_bool HR.out.symm, HB1.out⟩
                · have HN := Lib.hid (hY.out (by unfold Ck.inReach; exact decide_eq_true (by omega)))
                  go_wp2_with fail
                  go_roundw
                  case rel => exact ⟨k + 1, by go_num, hlt, trivial, HN⟩
                  case measure => simp [intOf]; omega
            · have hall : rs.all Ck.inReach = true := by have := HA.out; rwa [List.take_of_length_le (by omega)] at this
              have HS := Lib.hid (steady_any d R rcap rs (by omega) _ HR1.out d0 d1 hall)
              have HO := Lib.hid fun (W : World) (hb : Below wr.heap.size wr W) => observed_any A cap l hl first R rcap rs (by omega) W (HX1.out.later hb) (HR1.out.later hb) (by omega) (by omega)
              have HRE : Hid (res = (Ck.steady d rs && Ck.observed l first rs)) := Lib.hid (by rw [HRES.out, hall]; rfl)
              clear hall HRES
              generalize Ck.observed l first rs = ob at *
              cases hst : Ck.steady d rs
              · rw [hst] at HS HRE
                clear hst
                go_wp2_with fail
                refine HS.out.mono ?_
                rintro e w2 ⟨rfl, hb2⟩
                have HB2 := Lib.hid (HB1.out.trans (hb2.mono HB1.out.size))
                clear hb2
                go_wp2_with fail
                go_ret
                exact ⟨ret_bool (by rw [HRE.out]; rfl), HB2.out⟩
              · rw [hst] at HS HRE
                clear hst
                go_wp2_with fail
                refine HS.out.mono ?_
                rintro e w2 ⟨rfl, hb2⟩
                have HB2 := Lib.hid (HB1.out.trans (hb2.mono HB1.out.size))
                have HO2 := Lib.hid (HO.out w2 hb2)
                clear hb2 HO
                go_wp2_with fail
                refine HO2.out.mono ?_
                rintro e w3 ⟨rfl, hb3⟩
                have HB3 := Lib.hid (HB2.out.trans (hb3.mono HB2.out.size))
                clear hb3
                go_wp2_with fail
                go_ret
                exact ⟨ret_bool (by rw [HRE.out]; rfl), HB3.out⟩

end Go.Proofs.Ytjldhikadijbiaa
