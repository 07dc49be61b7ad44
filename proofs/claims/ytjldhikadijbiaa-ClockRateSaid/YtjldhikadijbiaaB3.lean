/- The walk of the reference's Offset. -/
import Derived.Test.YtjldhikadijbiaaB2
namespace Go.Proofs.Ytjldhikadijbiaa
open Go.RowKit

set_option maxRecDepth 100000 in
set_option maxHeartbeats 1000000 in
theorem roffset_bad (d : Int) (A : Option Addr) (cap : Nat) (l : List Ck.Ex) (hl : l.length ≤ 9223372036854775806) (t : Int) (w : World) (hx : Exs w w.heap.size A l) (hv : Ck.valid d l = false ∨ t < 0 ∨ 1048576 < t) :
    Calls Try.prog 28 #[.int .i64 d, .slice A l.length cap, .int .i64 t] w (Three (0, 0, 1) w) := by
  have HV := Lib.hid (rvalid_any d A cap l hl _ hx)
  clear hx
  cases hc : Ck.valid d l
  · rw [hc] at HV
    clear hv hc
    go_enter Try.func28, Try.ntmps28
    go_wp2_with fail
    refine HV.out.mono ?_
    rintro e w1 ⟨rfl, hb1⟩
    have HB1 := Lib.hid hb1
    clear hb1
    go_wp2_with fail
    go_ret3
    exact ⟨rfl, HB1.out⟩
  · rw [hc] at HV
    rw [hc] at hv
    clear hc
    rcases hv with hv | hv | hv
    · cases hv
    · go_enter Try.func28, Try.ntmps28
      go_wp2_with fail
      refine HV.out.mono ?_
      rintro e w1 ⟨rfl, hb1⟩
      have HB1 := Lib.hid hb1
      clear hb1
      go_wp2_with fail
      go_ret3
      exact ⟨rfl, HB1.out⟩
    · have hr2 : decide (t < 0) = false := by simp; omega
      go_enter Try.func28, Try.ntmps28
      go_wp2_with fail
      refine HV.out.mono ?_
      rintro e w1 ⟨rfl, hb1⟩
      have HB1 := Lib.hid hb1
      clear hb1
      go_wp2_with fail
      go_ret3
      exact ⟨rfl, HB1.out⟩

set_option maxRecDepth 100000 in
set_option maxHeartbeats 4000000 in
theorem roffset_in (d : Int) (A : Option Addr) (cap : Nat) (l : List Ck.Ex) (hl : l.length ≤ 9223372036854775806) (t : Int) (w : World) (hx : Exs w w.heap.size A l) (hv : Ck.valid d l = true) (r1 : 0 ≤ t) (r2 : t ≤ 1048576) :
    Calls Try.prog 28 #[.int .i64 d, .slice A l.length cap, .int .i64 t] w (Three (Ck.offset d l t) w) := by
  have HV := Lib.hid (rvalid_any d A cap l hl _ hx)
  obtain ⟨⟨d0, d1, l0, l1⟩, hok⟩ := okEx_of hv
  have HOK := Lib.hid hok
  have HTK : Hid (Ck.offset d l t = Ck.ofEnd t (Ck.ofGo d t (-4611686018427387904) 4611686018427387904 l)) := Lib.hid (by
    rw [Ck.of_wider d t l hv r1 r2]; unfold Ck.offset; rw [if_neg (by rw [hv]; simp; omega)])
  rw [hv] at HV
  generalize Ck.offset d l t = res at *
  obtain ⟨b, off, rfl, hbl, hcell⟩ := hx.2 (by omega)
  have HC := Lib.hid hcell
  clear hx hv hok hcell
  have rb1 : decide (t < 0) = false := by simp; omega
  have rb2 : decide (1048576 < t) = false := by simp; omega
  go_enter Try.func28, Try.ntmps28
  go_wp2_with fail
  refine HV.out.mono ?_
  rintro e w1 ⟨rfl, hb1⟩
  have HB1 := Lib.hid hb1
  clear hb1 HV
  go_wp2_with fail
  go_loopw [10, 11, 12, 13] (fun v6 v7 v29 _ wr => ∃ (lo hi : Int) (k : Nat), v6 = .int .i64 lo ∧ v7 = .int .i64 hi ∧ v29 = .int .i64 (k : Int) ∧ -4611686018427387904 ≤ lo ∧ lo ≤ 1099511627776 ∧ -1099511627776 ≤ hi ∧ hi ≤ 4611686018427387904 ∧ k ≤ l.length ∧ Below w.heap.size w1 wr ∧ Hid (Ck.ofGo d t (-4611686018427387904) 4611686018427387904 l = Ck.ofGo d t lo hi (l.drop k))) (fun _ _ v _ _ => l.length - (intOf v).toNat)
  case atStart => exact ⟨_, _, 0, rfl, rfl, rfl, by omega, by omega, by omega, by omega, Nat.zero_le _, Below.refl _ _, Lib.hid rfl⟩
  case round =>
    obtain ⟨lo, hi, k, rfl, rfl, rfl, f0, f1, la0, la1, hk, hbw, HG⟩ := hrel
    have HBW : Hid (Below w.heap.size w wr) := Lib.hid (HB1.out.trans hbw)
    by_cases hlt : k < l.length
    · obtain ⟨c0, c1, c2⟩ := HC.out k hlt
      replace c0 := (HBW.out.cell (p := ⟨b, off + k * 3, none⟩) hbl).trans c0
      replace c1 := (HBW.out.cell (p := ⟨b, off + k * 3 + 1, none⟩) hbl).trans c1
      replace c2 := (HBW.out.cell (p := ⟨b, off + k * 3 + 2, none⟩) hbl).trans c2
      obtain ⟨o1, o2, o3, o4, o5⟩ := HOK.out _ (List.getElem_mem hlt)
      have HN := Lib.hid (Ck.ofGo_step d t lo hi l k hlt)
      have hsw := hbw.size
      have HBWR := Lib.hid hbw
      clear hbw
      generalize l[k] = x at *
      have s0 := Ck.slack_nonneg d (t - x.recv) d0
      have s1 := Ck.slack_half d (t - x.recv) d0 d1
      have s2 := Ck.slack_nonneg d (t - x.send) d0
      have s3 := Ck.slack_half d (t - x.send) d0 d1
      have HS := fun W => Lib.hid (rslack_any d (t - x.recv) d0 d1 (by omega) (by omega) W)
      have HT := fun W => Lib.hid (rslack_any d (t - x.send) d0 d1 (by omega) (by omega) W)
      have HL : Hid (Ck.ofLo d t x = x.reading + t - x.recv - Ck.slack d (t - x.recv)) := Lib.hid (by unfold Ck.ofLo; omega)
      have HH : Hid (Ck.ofHi d t x = x.reading + t - x.send + Ck.slack d (t - x.send)) := Lib.hid (by unfold Ck.ofHi; omega)
      generalize Ck.slack d (t - x.recv) = sl at *
      generalize Ck.slack d (t - x.send) = sh at *
      have s1' : sl ≤ 1048577 := by omega
      have s3' : sh ≤ 1048577 := by omega
      clear s1 s3
      obtain ⟨wx, hwx⟩ : ∃ wx, wx = wr.alloc (.cells #[.int .i64 x.send, .int .i64 x.recv, .int .i64 x.reading] 51) := ⟨_, rfl⟩
      have hbx : Blk wx wr.heap.size 51 #[.int .i64 x.send, .int .i64 x.recv, .int .i64 x.reading] := by rw [hwx]; exact (Blk.new wr 51 _)
      have x0 : wx.cell? ⟨wr.heap.size, 0, none⟩ = some (.int .i64 x.send) := hbx.cell 0
      have x1 : wx.cell? ⟨wr.heap.size, 1, none⟩ = some (.int .i64 x.recv) := hbx.cell 1
      have x2 : wx.cell? ⟨wr.heap.size, 2, none⟩ = some (.int .i64 x.reading) := hbx.cell 2
      have HBX : Hid (Below w.heap.size w1 wx) := Lib.hid (by rw [hwx]; exact HBWR.out.alloc (Nat.le_trans HB1.out.size hsw) _)
      have HWX := Lib.hid hwx
      clear hwx hbx
      go_wp2_with fail
      rw [← HWX.out]
      have wr0 : IntKind.i64.wrap (t - x.recv) = t - x.recv := IntWalk.i64_in _ (by omega)
      have wr1 : IntKind.i64.wrap (x.reading + t) = x.reading + t := IntWalk.i64_in _ (by omega)
      have wr2 : IntKind.i64.wrap (x.reading + t - x.recv) = x.reading + t - x.recv := IntWalk.i64_in _ (by omega)
      have wr3 : IntKind.i64.wrap (x.reading + t - x.recv - sl) = x.reading + t - x.recv - sl := IntWalk.i64_in _ (by omega)
      go_quiet ((go_at_call 54; exact Calls.quiet_of_same (HS _).out))
      clear wr0 wr1 wr2 wr3
      obtain ⟨lo', hlo⟩ : ∃ lo', lo' = max lo (x.reading + t - x.recv - sl) := ⟨_, rfl⟩
      rw [show (if lo < x.reading + t - x.recv - sl then x.reading + t - x.recv - sl else lo) = lo' by rw [hlo]; split <;> omega]
      have lo0 : -4611686018427387904 ≤ lo' := by omega
      have lo1 : lo' ≤ 1099511627776 := by omega
      have HLO := Lib.hid hlo
      clear hlo
      obtain ⟨wz, hwz⟩ : ∃ wz, wz = wx.drewN nq := ⟨_, rfl⟩
      have z0 : wz.cell? ⟨wr.heap.size, 0, none⟩ = some (.int .i64 x.send) := by rw [hwz]; exact x0
      have z2 : wz.cell? ⟨wr.heap.size, 2, none⟩ = some (.int .i64 x.reading) := by rw [hwz]; exact x2
      have HBZ : Hid (Below w.heap.size w1 wz) := Lib.hid (by rw [hwz]; exact below_drewN HBX.out _)
      rw [← hwz]
      clear hwz x0 x1 x2
      go_wp2_with fail
      have wr0 : IntKind.i64.wrap (t - x.send) = t - x.send := IntWalk.i64_in _ (by omega)
      have wr1 : IntKind.i64.wrap (x.reading + t) = x.reading + t := IntWalk.i64_in _ (by omega)
      have wr2 : IntKind.i64.wrap (x.reading + t - x.send) = x.reading + t - x.send := IntWalk.i64_in _ (by omega)
      have wr3 : IntKind.i64.wrap (x.reading + t - x.send + sh) = x.reading + t - x.send + sh := IntWalk.i64_in _ (by omega)
      go_quiet ((go_at_call 54; exact Calls.quiet_of_same (HT _).out))
      clear wr0 wr1 wr2 wr3
      obtain ⟨hi', hhi⟩ : ∃ hi', hi' = min hi (x.reading + t - x.send + sh) := ⟨_, rfl⟩
      rw [show (if x.reading + t - x.send + sh < hi then x.reading + t - x.send + sh else hi) = hi' by rw [hhi]; split <;> omega]
      have hi0 : -1099511627776 ≤ hi' := by omega
      have hi1 : hi' ≤ 4611686018427387904 := by omega
      have HHI := Lib.hid hhi
      clear hhi
      go_wp2_with fail
      go_roundw
      case rel =>
        exact ⟨_, _, k + 1, rfl, rfl, by go_num, lo0, lo1, hi0, hi1, hlt, below_drewN HBZ.out _, Lib.hid (by
          rw [HG.out, HN.out, HL.out, HH.out, HLO.out, HHI.out])⟩
      case measure => simp [intOf]; omega
    · have hkl : k = l.length := by omega
      have HRES : Hid (res = if hi < lo then (0, 0, 13) else (lo - t, hi - t, 0)) := Lib.hid (by
        rw [HTK.out, HG.out, hkl, List.drop_length]; rfl)
      clear hkl
      by_cases hfl : hi < lo
      · go_wp2_with fail
        go_ret3
        exact ⟨by rw [HRES.out, if_pos hfl]; rfl, HBW.out⟩
      · go_wp2_with fail
        go_ret3
        exact ⟨by rw [HRES.out, if_neg (by omega)]; rfl, HBW.out⟩

theorem roffset_any (d : Int) (A : Option Addr) (cap : Nat) (l : List Ck.Ex) (hl : l.length ≤ 9223372036854775806) (t : Int) (w : World) (hx : Exs w w.heap.size A l) :
    Calls Try.prog 28 #[.int .i64 d, .slice A l.length cap, .int .i64 t] w (Three (Ck.offset d l t) w) := by
  by_cases hv : Ck.valid d l = false ∨ t < 0 ∨ 1048576 < t
  · have : Ck.offset d l t = (0, 0, 1) := by unfold Ck.offset; rw [if_pos hv]
    rw [this]
    exact roffset_bad d A cap l hl t w hx hv
  · have h1 : Ck.valid d l = true := by
      cases h : Ck.valid d l
      · exact absurd (Or.inl h) hv
      · rfl
    exact roffset_in d A cap l hl t w hx h1 (by omega) (by omega)

end Go.Proofs.Ytjldhikadijbiaa
