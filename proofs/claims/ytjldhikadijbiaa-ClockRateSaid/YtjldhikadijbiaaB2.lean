/- The walk of the reference's Ticks. -/
import Derived.Test.YtjldhikadijbiaaB1
namespace Go.Proofs.Ytjldhikadijbiaa
open Go.RowKit

theorem down_is (d e r : Int) (h0 : 0 ≤ d) (h1 : d ≤ 512) (e1 : -2097152 ≤ e) (e2 : e ≤ 2097152) (hr : Ck.DownTo d e r) (hb : -4194304 ≤ r) : r = max (Ck.lowN d e) (-4194304) := by
  obtain ⟨a, b, c⟩ := hr
  have hru := b r (Int.le_refl _) a
  rw [Ck.can_up d e r h0 a] at hru
  rcases c with c | c
  · rw [Ck.can_up d e (r - 1) h0 (by omega)] at c
    rw [Ck.lowN_eq d e r h0 h1 (by omega) (by omega) hru c]
    omega
  · have hle : Ck.lowN d e ≤ r := by
      obtain ⟨q1, q2, q3, q4⟩ := Ck.lowN_is d e h0 h1
      rcases Int.lt_or_le r (Ck.lowN d e) with h | h
      · rw [q3 r (by omega) h] at hru; cases hru
      · exact h
    omega
theorem up_is (d e r : Int) (h0 : 0 ≤ d) (h1 : d ≤ 512) (e1 : -2097152 ≤ e) (e2 : e ≤ 2097152) (hr : Ck.UpTo d e r) (hb : r ≤ 4194304) : r = min (Ck.highN d e - 1) 4194304 := by
  obtain ⟨a, b, c⟩ := hr
  have hru := b r a (Int.le_refl _)
  rw [Ck.can_down d e r h0 a, Bool.not_eq_true'] at hru
  rcases c with c | c
  · rw [Ck.can_down d e (r + 1) h0 (by omega), Bool.not_eq_false'] at c
    rw [Ck.highN_eq d e (r + 1) h0 h1 (by omega) (by omega) c (by rw [show r + 1 - 1 = r by omega]; exact hru)]
    omega
  · have hle : r + 1 ≤ Ck.highN d e := by
      obtain ⟨q1, q2, q3, q4⟩ := Ck.highN_is d e h0 h1
      rcases Int.lt_or_le r (Ck.highN d e) with h | h
      · omega
      · rw [q4 r h (by omega)] at hru; cases hru
    omega

theorem reach_low (d e : Int) (h0 : 0 ≤ d) (h1 : d ≤ 512) (e1 : -2097152 ≤ e) (e2 : e ≤ 2097152) (w : World) :
    Calls Try.prog 53 #[.int .i64 d, .int .i64 e, .int .i64 (-1)] w fun x w' => x = .returned (.int .i64 (max (Ck.lowN d e) (-4194304))) ∧ w' = w := by
  refine (reach_down d e h0 h1 e1 e2 w).mono ?_
  rintro x w' ⟨r, ⟨hr, hb, _⟩, rfl, rfl⟩
  exact ⟨ret_int (down_is d e r h0 h1 e1 e2 hr hb), rfl⟩
theorem reach_high (d e : Int) (h0 : 0 ≤ d) (h1 : d ≤ 512) (e1 : -2097152 ≤ e) (e2 : e ≤ 2097152) (w : World) :
    Calls Try.prog 53 #[.int .i64 d, .int .i64 e, .int .i64 1] w fun x w' => x = .returned (.int .i64 (min (Ck.highN d e - 1) 4194304)) ∧ w' = w := by
  refine (reach_up d e h0 h1 e1 e2 w).mono ?_
  rintro x w' ⟨r, ⟨hr, _, hb⟩, rfl, rfl⟩
  exact ⟨ret_int (up_is d e r h0 h1 e1 e2 hr hb), rfl⟩

set_option maxRecDepth 100000 in
set_option maxHeartbeats 1000000 in
theorem rticks_invalid (d : Int) (A : Option Addr) (cap : Nat) (l : List Ck.Ex) (hl : l.length ≤ 9223372036854775806) (r : Int) (w : World) (hx : Exs w w.heap.size A l) (hv : Ck.valid d l = false) :
    Calls Try.prog 27 #[.int .i64 d, .slice A l.length cap, .int .i64 r] w (Three (0, 0, 1) w) := by
  have HV := Lib.hid (rvalid_any d A cap l hl _ hx)
  rw [hv] at HV
  clear hx hv
  go_enter Try.func27, Try.ntmps27
  go_wp2_with fail
  refine HV.out.mono ?_
  rintro e w1 ⟨rfl, hb1⟩
  have HB1 := Lib.hid hb1
  clear hb1
  go_wp2_with fail
  go_ret3
  exact ⟨rfl, HB1.out⟩

set_option maxRecDepth 100000 in
set_option maxHeartbeats 1000000 in
theorem rticks_out (d : Int) (A : Option Addr) (cap : Nat) (l : List Ck.Ex) (hl : l.length ≤ 9223372036854775806) (r : Int) (w : World) (hx : Exs w w.heap.size A l) (hv : Ck.valid d l = true) (hr : r < -1100000000 ∨ 1100000000 < r) :
    Calls Try.prog 27 #[.int .i64 d, .slice A l.length cap, .int .i64 r] w (Three (0, 0, 13) w) := by
  have HV := Lib.hid (rvalid_any d A cap l hl _ hx)
  obtain ⟨⟨d0, d1, l0, l1⟩, -⟩ := okEx_of hv
  rw [hv] at HV
  clear hx hv
  rcases hr with hr | hr
  · go_enter Try.func27, Try.ntmps27
    go_wp2_with fail
    refine HV.out.mono ?_
    rintro e w1 ⟨rfl, hb1⟩
    have HB1 := Lib.hid hb1
    clear hb1
    go_wp2_with fail
    refine wp_loop_rounds 1 ?_
    rw [rounds_succ]
    go_wp2_with fail
    go_ret3
    exact ⟨rfl, HB1.out⟩
  · have hr2 : decide (r < -1100000000) = false := by simp; omega
    go_enter Try.func27, Try.ntmps27
    go_wp2_with fail
    refine HV.out.mono ?_
    rintro e w1 ⟨rfl, hb1⟩
    have HB1 := Lib.hid hb1
    clear hb1
    go_wp2_with fail
    refine wp_loop_rounds 1 ?_
    rw [rounds_succ]
    go_wp2_with fail
    go_ret3
    exact ⟨rfl, HB1.out⟩

set_option maxRecDepth 100000 in
set_option maxHeartbeats 4000000 in
theorem rticks_in (d : Int) (A : Option Addr) (cap : Nat) (l : List Ck.Ex) (hl : l.length ≤ 9223372036854775806) (r : Int) (w : World) (hx : Exs w w.heap.size A l) (hv : Ck.valid d l = true) (r1 : -1100000000 ≤ r) (r2 : r ≤ 1100000000) :
    Calls Try.prog 27 #[.int .i64 d, .slice A l.length cap, .int .i64 r] w (Three (Ck.ticks d l r) w) := by
  have HV := Lib.hid (rvalid_any d A cap l hl _ hx)
  obtain ⟨⟨d0, d1, l0, l1⟩, hok⟩ := okEx_of hv
  have HOK := Lib.hid hok
  have HTK : Hid (Ck.ticks d l r = Ck.tkEnd (Ck.tkGo d r 0 1048576 l)) := Lib.hid (by
    unfold Ck.ticks; rw [if_neg (by simp [hv]), if_neg (by omega)])
  rw [hv] at HV
  generalize Ck.ticks d l r = res at *
  obtain ⟨b, off, rfl, hbl, hcell⟩ := hx.2 (by omega)
  have HC := Lib.hid hcell
  clear hx hv hok hcell
  have rb1 : decide (r < -1100000000) = false := by simp; omega
  have rb2 : decide (1100000000 < r) = false := by simp; omega
  go_enter Try.func27, Try.ntmps27
  go_wp2_with fail
  refine HV.out.mono ?_
  rintro e w1 ⟨rfl, hb1⟩
  have HB1 := Lib.hid hb1
  clear hb1 HV
  go_wp2_with fail
  go_loopw [10, 11, 12, 13] (fun v10 v11 v12 _ wr => ∃ (f la : Int) (k : Nat), v10 = .int .i64 f ∧ v11 = .int .i64 la ∧ v12 = .int .i64 (k : Int) ∧ 0 ≤ f ∧ f ≤ 268435456 ∧ -268435456 ≤ la ∧ la ≤ 1048576 ∧ k ≤ l.length ∧ Below w.heap.size w wr ∧ Hid (Ck.tkGo d r 0 1048576 l = Ck.tkGo d r f la (l.drop k))) (fun _ _ v _ _ => l.length - (intOf v).toNat)
  case atStart => exact ⟨0, 1048576, 0, rfl, rfl, rfl, by omega, by omega, by omega, by omega, Nat.zero_le _, HB1.out, Lib.hid rfl⟩
  case round =>
    obtain ⟨f, la, k, rfl, rfl, rfl, f0, f1, la0, la1, hk, hbw, HG⟩ := hrel
    have HBW := Lib.hid hbw
    by_cases hlt : k < l.length
    · obtain ⟨c0, c1, c2⟩ := HC.out k hlt
      replace c0 := (hbw.cell (p := ⟨b, off + k * 3, none⟩) hbl).trans c0
      replace c1 := (hbw.cell (p := ⟨b, off + k * 3 + 1, none⟩) hbl).trans c1
      replace c2 := (hbw.cell (p := ⟨b, off + k * 3 + 2, none⟩) hbl).trans c2
      obtain ⟨o1, o2, o3, o4, o5⟩ := HOK.out _ (List.getElem_mem hlt)
      have hN := Ck.tkGo_near d r f la l k hlt
      have hF := Ck.tk_apart_at d r f la l k hlt d0 d1 f0 la1 o1 o2 o3
      clear hbw
      generalize l[k] = x at *
      obtain ⟨m, hm⟩ : ∃ m : Int, ((r - x.reading).natAbs : Int) = m := ⟨_, rfl⟩
      have HA := fun W => Lib.hid (abs_any (r - x.reading) m hm (by omega) (by omega) W)
      by_cases hfar : 2097152 < m
      · have HF := Lib.hid (hF (by rw [hm]; exact hfar))
        have HRES : Hid (res = (0, 0, 13)) := Lib.hid (by rw [HTK.out, HG.out, HF.out])
        clear hN hF hm
        go_wp2_with (go_at_call 52; refine (HA _).out.mono ?_; rintro e w' ⟨rfl, rfl⟩)
        go_ret3
        exact ⟨by rw [HRES.out]; rfl, HBW.out⟩
      · have hfb : decide (2097152 < m) = false := by simp; omega
        have e1 : -2097152 ≤ r - x.reading := by omega
        have e2 : r - x.reading ≤ 2097152 := by omega
        have HN := Lib.hid (hN (by unfold Ck.far; exact decide_eq_false (by omega)))
        have HL := fun W => Lib.hid (reach_low d (r - x.reading) d0 d1 e1 e2 W)
        have HH := fun W => Lib.hid (reach_high d (r - x.reading) d0 d1 e1 e2 W)
        have lw2 := (Ck.lowN_is d (r - x.reading) d0 d1).2.1
        have hg1 := (Ck.highN_is d (r - x.reading) d0 d1).1
        obtain ⟨rl, hrl⟩ : ∃ rl, rl = max (Ck.lowN d (r - x.reading)) (-4194304) := ⟨_, rfl⟩
        obtain ⟨rh, hrh⟩ : ∃ rh, rh = min (Ck.highN d (r - x.reading) - 1) 4194304 := ⟨_, rfl⟩
        rw [← hrl] at HL
        rw [← hrh] at HH
        have rl1 : -4194304 ≤ rl := by omega
        have rl2 : rl ≤ 67108864 := by omega
        have rh1 : -67108865 ≤ rh := by omega
        have rh2 : rh ≤ 4194304 := by omega
        have HLo : Hid (max f (x.send + Ck.lowN d (r - x.reading)) = max f (x.send + rl)) := Lib.hid (by omega)
        have HHi : Hid (min la (x.recv + Ck.highN d (r - x.reading) - 1) = min la (x.recv + rh)) := Lib.hid (by omega)
        generalize Ck.lowN d (r - x.reading) = lo at *
        generalize Ck.highN d (r - x.reading) = hi at *
        clear hN hF hm hrl hrh
        go_wp2_with (go_at_call 52; refine (HA _).out.mono ?_; rintro e w' ⟨rfl, hw⟩; obtain rfl := hw.symm; clear hw)
        have wr1 : IntKind.i64.wrap (x.send + rl) = x.send + rl := IntWalk.i64_in _ (by omega)
        go_quiet ((go_at_call 53; exact Calls.quiet_of_same (HL _).out))
        obtain ⟨f', hf'⟩ : ∃ f', f' = max f (x.send + rl) := ⟨_, rfl⟩
        rw [show (if f < x.send + rl then x.send + rl else f) = f' by rw [hf']; split <;> omega]
        have g1 : 0 ≤ f' := by omega
        have g2 : f' ≤ 268435456 := by omega
        have HF' := Lib.hid hf'
        clear wr1 hf'
        obtain ⟨wy, hwy⟩ : ∃ wy, wy = wr.drewN nq := ⟨_, rfl⟩
        have y1 : wy.cell? ⟨b, off + k * 3 + 1, none⟩ = some (.int .i64 x.recv) := by rw [hwy]; exact c1
        have HBY : Hid (Below w.heap.size w wy) := Lib.hid (by rw [hwy]; exact below_drewN HBW.out _)
        rw [← hwy]
        clear hwy c0 c1 c2
        go_wp2_with fail
        have wr1 : IntKind.i64.wrap (x.recv + rh) = x.recv + rh := IntWalk.i64_in _ (by omega)
        go_quiet ((go_at_call 53; exact Calls.quiet_of_same (HH _).out))
        obtain ⟨la', hla'⟩ : ∃ la', la' = min la (x.recv + rh) := ⟨_, rfl⟩
        rw [show (if x.recv + rh < la then x.recv + rh else la) = la' by rw [hla']; split <;> omega]
        have g3 : -268435456 ≤ la' := by omega
        have g4 : la' ≤ 1048576 := by omega
        have HLa' := Lib.hid hla'
        clear wr1 hla'
        go_wp2_with fail
        go_roundw
        case rel =>
          exact ⟨_, _, k + 1, rfl, rfl, by go_num, g1, g2, g3, g4, hlt, below_drewN HBY.out _, Lib.hid (by
            rw [HG.out, HN.out, HLo.out, HHi.out, HF'.out, HLa'.out])⟩
        case measure => simp [intOf]; omega
    · have hkl : k = l.length := by omega
      have HRES : Hid (res = if la < f then (0, 0, 13) else (f, la, 0)) := Lib.hid (by
        rw [HTK.out, HG.out, hkl, List.drop_length]; rfl)
      clear hkl hbw
      by_cases hfl : la < f
      · go_wp2_with fail
        go_ret3
        exact ⟨by rw [HRES.out, if_pos hfl]; rfl, HBW.out⟩
      · go_wp2_with fail
        go_ret3
        exact ⟨by rw [HRES.out, if_neg (by omega)]; rfl, HBW.out⟩

theorem rticks_any (d : Int) (A : Option Addr) (cap : Nat) (l : List Ck.Ex) (hl : l.length ≤ 9223372036854775806) (r : Int) (w : World) (hx : Exs w w.heap.size A l) :
    Calls Try.prog 27 #[.int .i64 d, .slice A l.length cap, .int .i64 r] w (Three (Ck.ticks d l r) w) := by
  by_cases hv : Ck.valid d l = true
  · by_cases hr : r < -1100000000 ∨ 1100000000 < r
    · rw [Ck.ticks_out_far d r l hv hr]
      exact rticks_out d A cap l hl r w hx hv hr
    · exact rticks_in d A cap l hl r w hx hv (by omega) (by omega)
  · have : Ck.ticks d l r = (0, 0, 1) := by unfold Ck.ticks; rw [if_pos (by simpa using hv)]
    rw [this]
    exact rticks_invalid d A cap l hl r w hx (by simpa using hv)

end Go.Proofs.Ytjldhikadijbiaa
