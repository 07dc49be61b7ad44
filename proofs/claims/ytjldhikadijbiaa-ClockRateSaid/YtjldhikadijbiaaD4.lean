/- The walk of the reference's Agrees. -/
import Derived.Test.YtjldhikadijbiaaD3
namespace Go.Proofs.Ytjldhikadijbiaa
open Go.RowKit

theorem getD_at (l : List Int) (i : Nat) (h : i < l.length) : l.getD i 0 = l[i] := by
  rw [List.getD_eq_getElem?_getD, List.getElem?_eq_getElem h, Option.getD_some]

set_option maxRecDepth 100000 in
set_option maxHeartbeats 1000000 in
theorem ragrees_bad (d : Int) (A : Option Addr) (cap : Nat) (l : List Ck.Ex) (hl : l.length ≤ 9223372036854775806) (first : Int) (R : Option Addr) (rcap : Nat) (rs : List Int) (_hrl : rs.length ≤ 1000000) (w : World) (hx : Exs w w.heap.size A l)
    (hbad : Ck.valid d l = false ∨ first < 0 ∨ 1048576 < first ∨ 1048576 < first + rs.length - 1) :
    Calls Try.prog 30 #[.int .i64 d, .slice A l.length cap, .int .i64 first, .slice R rs.length rcap] w (Told false w) := by
  have HV := Lib.hid (rvalid_any d A cap l hl _ hx)
  clear hx
  cases hv : Ck.valid d l
  · rw [hv] at HV
    clear hv hbad
    go_enter Try.func30, Try.ntmps30
    go_wp2_with fail
    refine HV.out.mono ?_
    rintro e w1 ⟨rfl, hb1⟩
    have HB1 := Lib.hid hb1
    clear hb1
    go_wp2_with fail
    go_ret
    exact ⟨rfl, HB1.out⟩
  · rw [hv] at HV hbad
    clear hv
    by_cases h1 : first < 0
    · clear hbad
      go_enter Try.func30, Try.ntmps30
      go_wp2_with fail
      refine HV.out.mono ?_
      rintro e w1 ⟨rfl, hb1⟩
      have HB1 := Lib.hid hb1
      clear hb1
      go_wp2_with fail
      go_ret
      exact ⟨rfl, HB1.out⟩
    · have g1 : decide (first < 0) = false := by simp; omega
      by_cases h2 : 1048576 < first
      · clear hbad
        go_enter Try.func30, Try.ntmps30
        go_wp2_with fail
        refine HV.out.mono ?_
        rintro e w1 ⟨rfl, hb1⟩
        have HB1 := Lib.hid hb1
        clear hb1
        go_wp2_with fail
        go_ret
        exact ⟨rfl, HB1.out⟩
      · have g2 : decide (1048576 < first) = false := by simp; omega
        have h3 : 1048577 - first < (rs.length : Int) := by rcases hbad with h | h | h | h <;> first | omega | cases h
        clear hbad
        go_enter Try.func30, Try.ntmps30
        go_wp2_with fail
        refine HV.out.mono ?_
        rintro e w1 ⟨rfl, hb1⟩
        have HB1 := Lib.hid hb1
        clear hb1
        go_wp2_with fail
        go_ret
        exact ⟨rfl, HB1.out⟩

/-- the readings before i are in reach and in step -/
def Good (d : Int) (rs : List Int) (i : Nat) : Prop := ∀ i', i' < i → Ck.inReach (rs.getD i' 0) = true ∧ ∀ j, j < i' → Ck.pairB d rs i' j = true

set_option maxRecDepth 100000 in
set_option maxHeartbeats 8000000 in
theorem ragrees_in (d : Int) (A : Option Addr) (cap : Nat) (l : List Ck.Ex) (hl : l.length ≤ 9223372036854775806) (first : Int) (R : Option Addr) (rcap : Nat) (rs : List Int) (hrl : rs.length ≤ 1000000) (w : World) (hx : Exs w w.heap.size A l) (hr : Ints w w.heap.size R rs)
    (hv : Ck.valid d l = true) (f0 : 0 ≤ first) (f1 : first ≤ 1048576) (f2 : first + rs.length - 1 ≤ 1048576) :
    Calls Try.prog 30 #[.int .i64 d, .slice A l.length cap, .int .i64 first, .slice R rs.length rcap] w (Told (Ck.agrees d l first rs) w) := by
  have HV := Lib.hid (rvalid_any d A cap l hl _ hx)
  rw [hv] at HV
  have HRES : Hid (Ck.agrees d l first rs = (rs.all Ck.inReach && (Ck.steady d rs && Ck.observed l first rs))) := Lib.hid (by unfold Ck.agrees; rw [decide_eq_true (by omega), hv]; simp)
  generalize Ck.agrees d l first rs = res at *
  have HX := Lib.hid hx
  have HR := Lib.hid hr
  obtain ⟨⟨d0, d1, l0, l1⟩, -⟩ := okEx_of hv
  have g1 : decide (first < 0) = false := by simp; omega
  have g2 : decide (1048576 < first) = false := by simp; omega
  have g3 : decide (1048577 - first < (rs.length : Int)) = false := by simp; omega
  clear hx hr hv
  go_enter Try.func30, Try.ntmps30
  go_wp2_with fail
  refine HV.out.mono ?_
  rintro e w1 ⟨rfl, hb1⟩
  have HB1 := Lib.hid hb1
  clear hb1 HV
  go_wp2_with fail
  go_loopw [10, 11, 12] (fun v _ _ wr => ∃ (i : Nat), v = .int .i64 (i : Int) ∧ i ≤ rs.length ∧ Below w.heap.size w wr ∧ Hid (Good d rs i)) (fun v _ _ _ => rs.length - (intOf v).toNat)
  case atStart => exact ⟨0, rfl, Nat.zero_le _, HB1.out, Lib.hid (fun i' h => by omega)⟩
  case round =>
    obtain ⟨i, rfl, hi, hbw, HG⟩ := hrel
    have HBW := Lib.hid hbw
    clear hbw
    by_cases hlt : i < rs.length
    · obtain ⟨b, off, rfl, hbl, hcell⟩ := HR.out.2 (by omega)
      have c0 := (HBW.out.cell (p := ⟨b, off + i, none⟩) hbl).trans (hcell i hlt)
      have HC := Lib.hid hcell
      have HE := Lib.hid (getD_at rs i hlt)
      have HNI := Lib.hid (all_notI Ck.inReach rs i hlt)
      clear hcell
      generalize rs[i] = r at *
      by_cases o1 : r < -1099511627776
      · have HR' : Hid (res = false) := Lib.hid (by rw [HRES.out, HNI.out (by unfold Ck.inReach; exact decide_eq_false (by omega))]; rfl)
        go_wp2_with fail
        go_ret
        exact ⟨ret_bool HR'.out.symm, HBW.out⟩
      · have q1 : decide (r < -1099511627776) = false := by simp; omega
        by_cases o2 : 1099511627776 < r
        · have HR' : Hid (res = false) := Lib.hid (by rw [HRES.out, HNI.out (by unfold Ck.inReach; exact decide_eq_false (by omega))]; rfl)
          go_wp2_with fail
          go_ret
          exact ⟨ret_bool HR'.out.symm, HBW.out⟩
        · have q2 : decide (1099511627776 < r) = false := by simp; omega
          go_wp2_with fail
          obtain ⟨wo, rfl⟩ : ∃ wo : World, wo = wr := ⟨_, rfl⟩
          go_loopw [11, 12] (fun v _ w2 => ∃ (j : Nat), v = .int .i64 (j : Int) ∧ j ≤ i ∧ Below w.heap.size w w2 ∧ Hid (∀ j', j' < j → Ck.pairB d rs i j' = true)) (fun v _ _ => i - (intOf v).toNat)
          case atStart => exact ⟨0, rfl, Nat.zero_le _, HBW.out, Lib.hid (fun j' h => by omega)⟩
          case round =>
            obtain ⟨j, rfl, hj, hb2, HP⟩ := hrel
            by_cases hjl : j < i
            · have hjr : j < rs.length := by omega
              have k0 := (hb2.cell (p := ⟨b, off + j, none⟩) hbl).trans (HC.out j hjr)
              have k1 := (hb2.cell (p := ⟨b, off + i, none⟩) hbl).trans ((HBW.out.cell (p := ⟨b, off + i, none⟩) hbl).symm.trans c0)
              have HB2 := Lib.hid hb2
              have hin := (HG.out j hjl).1
              have HPN := Lib.hid (Ck.steady_no d rs d0 i j hlt hjl)
              have HPV : Hid (Ck.pairB d rs i j = Ck.canB d (r - rs[j]) ((i : Int) - j)) := Lib.hid (by unfold Ck.pairB; rw [HE.out, getD_at rs j hjr])
              rw [getD_at rs j hjr] at hin
              generalize rs[j] = s at *
              unfold Ck.inReach at hin
              replace hin := of_decide_eq_true hin
              obtain ⟨s1, s2⟩ := hin
              clear hb2 c0
              have HCan := fun W => Lib.hid (can_any d (r - s) ((i : Int) - j) d0 d1 (by omega) (by omega) (by omega) (by omega) W)
              go_wp2_with fail
              have wr1 : IntKind.i64.wrap (r - s) = r - s := IntWalk.i64_in _ (by omega)
              have wr2 : IntKind.i64.wrap ((i : Int) - j) = (i : Int) - j := IntWalk.i64_in _ (by omega)
              cases hp : Ck.canB d (r - s) ((i : Int) - j)
              · rw [hp] at HCan HPV
                clear hp
                go_quiet ((go_at_call 55; exact Calls.quiet_of_same (HCan _).out))
                clear wr1 wr2
                have HR' : Hid (res = false) := Lib.hid (by rw [HRES.out, HPN.out HPV.out]; simp)
                go_wp2_with fail
                go_ret
                exact ⟨ret_bool HR'.out.symm, below_drewN HB2.out _⟩
              · rw [hp] at HCan HPV
                clear hp
                go_quiet ((go_at_call 55; exact Calls.quiet_of_same (HCan _).out))
                clear wr1 wr2
                go_wp2_with fail
                go_roundw
                case rel => exact ⟨j + 1, by go_num, hjl, below_drewN HB2.out _, Lib.hid (fun j' h => by
                    rcases Nat.lt_or_ge j' j with h' | h'
                    · exact HP.out j' h'
                    · obtain rfl : j' = j := by omega
                      exact HPV.out)⟩
                case measure => simp [intOf]; omega
            · obtain rfl : j = i := by omega
              have HB2 := Lib.hid hb2
              clear hb2 c0
              have HGN : Hid (Good d rs (j + 1)) := Lib.hid (fun i' h => by
                rcases Nat.lt_or_ge i' j with h' | h'
                · exact HG.out i' h'
                · obtain rfl : i' = j := by omega
                  exact ⟨by rw [HE.out]; unfold Ck.inReach; exact decide_eq_true (by omega), HP.out⟩)
              go_wp2_with fail
              go_roundw
              case rel => exact ⟨j + 1, by go_num, hlt, HB2.out, HGN⟩
              case measure => simp [intOf]; omega
    · have hall : rs.all Ck.inReach = true := List.all_eq_true.2 fun z hz => by
        obtain ⟨k, hk, rfl⟩ := List.getElem_of_mem hz
        rw [← getD_at rs k hk]
        exact (HG.out k (by omega)).1
      have hst : Ck.steady d rs = true := (Ck.steady_iff d rs d0).2 fun i' hi' j hj => (HG.out i' (by omega)).2 j hj
      have HRE : Hid (res = l.all (Ck.obs first rs)) := Lib.hid (by rw [HRES.out, hall, hst]; rfl)
      clear hall hst HRES
      go_wp2_with fail
      obtain ⟨wo, rfl⟩ : ∃ wo : World, wo = wr := ⟨_, rfl⟩
      go_loopw [13, 14, 15, 16, 17] (fun v _ _ _ _ w2 => ∃ (k : Nat), v = .int .i64 (k : Int) ∧ k ≤ l.length ∧ Below w.heap.size w w2 ∧ Hid ((l.take k).all (Ck.obs first rs) = true)) (fun v _ _ _ _ _ => l.length - (intOf v).toNat)
      case atStart => exact ⟨0, rfl, Nat.zero_le _, HBW.out, Lib.hid (by simp)⟩
      case round =>
        obtain ⟨k, rfl, hk, hb2, HA⟩ := hrel
        have HB := Lib.hid hb2
        by_cases hlt2 : k < l.length
        · obtain ⟨b, off, rfl, hbl, hcell⟩ := HX.out.2 (by omega)
          obtain ⟨c0, c1, c2⟩ := hcell k hlt2
          replace c0 := (hb2.cell (p := ⟨b, off + k * 3, none⟩) hbl).trans c0
          replace c1 := (hb2.cell (p := ⟨b, off + k * 3 + 1, none⟩) hbl).trans c1
          replace c2 := (hb2.cell (p := ⟨b, off + k * 3 + 2, none⟩) hbl).trans c2
          have hN := Lib.hid (all_notB (Ck.obs first rs) l k hlt2)
          have hY := Lib.hid (all_takeB (Ck.obs first rs) l k hlt2 HA.out)
          obtain ⟨i1, i2, i3⟩ := HX.out.1 _ (List.getElem_mem hlt2)
          clear hb2 hcell
          generalize l[k] = x at *
          unfold i64 at i1 i2 i3
          have HOB : Hid (Ck.obs first rs x = (decide (min x.recv (first + rs.length - 1) < max x.send first) || Ck.obFind rs first x.reading (min x.recv (first + rs.length - 1) - max x.send first + 1).toNat (max x.send first))) := Lib.hid rfl
          generalize Ck.obs first rs x = ob at *
          have HC2 := Lib.hid c2
          clear c2
          go_upto_region 20 with fail
          obtain ⟨fr, hfr⟩ : ∃ fr, fr = max x.send first := ⟨_, rfl⟩
          obtain ⟨tu, htu⟩ : ∃ tu, tu = min x.recv (first + rs.length - 1) := ⟨_, rfl⟩
          rw [show (if x.send < first then first else x.send) = fr by rw [hfr]; split <;> omega, show (if first + (rs.length : Int) - 1 < x.recv then first + (rs.length : Int) - 1 else x.recv) = tu by rw [htu]; split <;> omega]
          rw [← hfr, ← htu] at HOB
          have b1 : first ≤ fr := by omega
          have b2 : fr ≤ 9223372036854775807 := by omega
          have b3 : tu ≤ first + rs.length - 1 := by omega
          have b4 : -9223372036854775808 ≤ tu := by omega
          clear hfr htu c0 c1
          generalize x.reading = rd at *
          clear i1 i2
          go_wp2_with fail
          obtain ⟨wq, rfl⟩ : ∃ wq : World, wq = wr := ⟨_, rfl⟩
          go_loopw [16, 17] (fun v11 v12 w2 => ∃ (fnd : Bool) (j : Nat), v11 = .bool fnd ∧ v12 = .int .i64 (first + j) ∧ (first + (j : Int) ≤ tu + 1 ∨ first + (j : Int) ≤ fr) ∧ (∃ m, w2 = wq.drewN m) ∧ Hid (ob = (fnd || Ck.obFind rs first rd (tu - (first + j) + 1).toNat (first + j)))) (fun _ v _ => (tu + 1 - intOf v).toNat)
          case atStart =>
            have e : fr = first + ((fr - first).toNat : Int) := by omega
            exact ⟨decide (tu < fr), (fr - first).toNat, rfl, by rw [← e], by omega, ⟨0, rfl⟩, Lib.hid (by rw [HOB.out, ← e])⟩
          case round =>
            obtain ⟨fnd, j, rfl, rfl, hj, ⟨m, rfl⟩, HF⟩ := hrel
            by_cases hjt : first + (j : Int) ≤ tu
            · cases fnd
              · have hjl : j < rs.length := by omega
                obtain ⟨b', off', rfl, hbl', hcell'⟩ := HR.out.2 (by omega)
                have c0 : (wq.drewN m).cell? ⟨b', off' + j, none⟩ = some (.int .i64 rs[j]) := (HB.out.cell (p := ⟨b', off' + j, none⟩) hbl').trans (hcell' j hjl)
                have c1 : (wq.drewN m).cell? ⟨b, off + k * 3 + 2, none⟩ = some (.int .i64 rd) := HC2.out
                obtain ⟨w3, hw3⟩ : ∃ w3, w3 = wq.drewN m := ⟨_, rfl⟩
                rw [← hw3] at c0 c1
                rw [← hw3]
                have HW3 := Lib.hid hw3
                have HSt : Hid (ob = if rs[j] = rd then true else Ck.obFind rs first rd (tu - (first + (j + 1 : Nat)) + 1).toNat (first + (j + 1 : Nat))) := Lib.hid (by
                  rw [HF.out, Bool.false_or, show (tu - (first + (j : Int)) + 1).toNat = (tu - (first + ((j + 1 : Nat) : Int)) + 1).toNat + 1 by omega, Ck.obFind]
                  rw [show (first + (j : Int) - first).toNat = j by omega, List.getD_eq_getElem?_getD, List.getElem?_eq_getElem hjl, Option.getD_some]
                  rw [show first + ((j + 1 : Nat) : Int) = first + j + 1 by omega])
                generalize rs[j] = z at *
                clear hcell' hw3
                go_wp2_with fail
                have wr1 : IntKind.i64.wrap (first + j - first) = (j : Int) := by rw [show first + (j : Int) - first = j by omega]; exact IntWalk.i64_in _ (by omega)
                go_quiet (fail)
                clear wr1
                go_wp2_with fail
                go_roundw
                case rel =>
                  refine ⟨z == rd, j + 1, rfl, by go_num, by omega, ?_, Lib.hid (by
                    rw [HSt.out]
                    by_cases h : z = rd
                    · rw [if_pos h]; simp [h]
                    · rw [if_neg h]; simp [h])⟩
                  rw [HW3.out]
                  exact ⟨m + nq, by simp⟩
                case measure => simp [intOf]; omega
              · go_wp2_with fail
                go_quiet (fail)
                go_wp2_with fail
                go_roundw
                case rel =>
                  exact ⟨true, j + 1, rfl, by go_num, by omega, ⟨m + nq, by simp⟩, Lib.hid (by rw [HF.out]; rfl)⟩
                case measure => simp [intOf]; omega
            · have hjf : decide (first + (j : Int) ≤ tu) = false := by simp; omega
              have HOb : Hid (ob = fnd) := Lib.hid (by rw [HF.out, show (tu - (first + (j : Int)) + 1).toNat = 0 by omega, Ck.obFind, Bool.or_false])
              cases fnd
              · have HO : Hid (res = false) := Lib.hid (by rw [HRE.out]; exact hN.out HOb.out)
                go_wp2_with fail
                go_ret
                exact ⟨ret_bool HO.out.symm, below_drewN HB.out _⟩
              · have HO : Hid ((List.take (k + 1) l).all (Ck.obs first rs) = true) := Lib.hid (hY.out HOb.out)
                go_wp2_with fail
                go_roundw
                case rel => exact ⟨k + 1, by go_num, hlt2, below_drewN HB.out _, HO⟩
                case measure => simp [intOf]; omega
        · have HY : Hid (res = true) := Lib.hid (by have := HA.out; rw [List.take_of_length_le (by omega)] at this; rw [HRE.out]; exact this)
          clear hb2
          go_wp2_with fail
          go_ret
          exact ⟨ret_bool HY.out.symm, HB.out⟩

theorem ragrees_any (d : Int) (A : Option Addr) (cap : Nat) (l : List Ck.Ex) (hl : l.length ≤ 9223372036854775806) (first : Int) (R : Option Addr) (rcap : Nat) (rs : List Int) (hrl : rs.length ≤ 1000000) (w : World) (hx : Exs w w.heap.size A l) (hr : Ints w w.heap.size R rs) :
    Calls Try.prog 30 #[.int .i64 d, .slice A l.length cap, .int .i64 first, .slice R rs.length rcap] w (Told (Ck.agrees d l first rs) w) := by
  by_cases hbad : Ck.valid d l = false ∨ first < 0 ∨ 1048576 < first ∨ 1048576 < first + rs.length - 1
  · have : Ck.agrees d l first rs = false := by
      unfold Ck.agrees
      rcases hbad with h | h
      · rw [h]; simp
      · rw [decide_eq_false (by omega)]; simp
    rw [this]
    exact ragrees_bad d A cap l hl first R rcap rs hrl w hx hbad
  · have hv : Ck.valid d l = true := by
      cases h : Ck.valid d l
      · exact absurd (Or.inl h) hbad
      · rfl
    exact ragrees_in d A cap l hl first R rcap rs hrl w hx hr hv (by omega) (by omega) (by omega)

end Go.Proofs.Ytjldhikadijbiaa
