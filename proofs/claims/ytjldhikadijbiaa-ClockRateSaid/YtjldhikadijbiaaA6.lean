/- The walk of the clock's observed and Agrees. -/
import Derived.Test.YtjldhikadijbiaaA5
namespace Go.Proofs.Ytjldhikadijbiaa
open Go.RowKit

theorem obFind_hit (rs : List Int) (first rd : Int) (n : Nat) (t : Int) (h : rs.getD (t - first).toNat 0 = rd) : Ck.obFind rs first rd (n + 1) t = true := by
  rw [Ck.obFind, if_pos h]
theorem obFind_miss (rs : List Int) (first rd : Int) (n : Nat) (t : Int) (h : ¬ rs.getD (t - first).toNat 0 = rd) : Ck.obFind rs first rd (n + 1) t = Ck.obFind rs first rd n (t + 1) := by
  rw [Ck.obFind, if_neg h]

theorem all_takeB (p : Ck.Ex → Bool) (l : List Ck.Ex) (k : Nat) (hk : k < l.length) (h : (l.take k).all p = true) (hc : p l[k] = true) : (l.take (k + 1)).all p = true := by
  rw [List.take_succ_eq_append_getElem hk, List.all_append, h]
  simp [hc]
theorem all_notB (p : Ck.Ex → Bool) (l : List Ck.Ex) (k : Nat) (hk : k < l.length) (hc : p l[k] = false) : l.all p = false := by
  cases h : l.all p with
  | false => rfl
  | true => rw [List.all_eq_true.1 h _ (List.getElem_mem hk)] at hc; cases hc

set_option maxRecDepth 100000 in
set_option maxHeartbeats 4000000 in
theorem observed_any (A : Option Addr) (cap : Nat) (l : List Ck.Ex) (hl : l.length ≤ 9223372036854775807) (first : Int) (R : Option Addr) (rcap : Nat) (rs : List Int) (hrl : rs.length ≤ 2097152) (w : World) (hx : Exs w w.heap.size A l) (hr : Ints w w.heap.size R rs)
    (f0 : 0 ≤ first) (f1 : first ≤ 1048576) :
    Calls Try.prog 45 #[.slice A l.length cap, .int .i64 first, .slice R rs.length rcap] w (Told (Ck.observed l first rs) w) := by
  have HX := Lib.hid hx
  have HR := Lib.hid hr
  have HRES : Hid (Ck.observed l first rs = l.all (Ck.obs first rs)) := Lib.hid rfl
  generalize Ck.observed l first rs = res at *
  clear hx hr
  go_enter Try.func45, Try.ntmps45
  go_wp2_with fail
  go_loopw [8, 9, 10, 11, 12, 15] (fun _ _ _ _ _ v wr => ∃ (k : Nat), v = .int .i64 (k : Int) ∧ k ≤ l.length ∧ Below w.heap.size w wr ∧ Hid ((l.take k).all (Ck.obs first rs) = true)) (fun _ _ _ _ _ v _ => l.length - (intOf v).toNat)
  case atStart => exact ⟨0, rfl, Nat.zero_le _, Below.refl _ _, Lib.hid (by simp)⟩
  case round =>
    obtain ⟨k, rfl, hk, hbw, HA⟩ := hrel
    have HB := Lib.hid hbw
    by_cases hlt : k < l.length
    · obtain ⟨b, off, rfl, hbl, hcell⟩ := HX.out.2 (by omega)
      obtain ⟨c0, c1, c2⟩ := hcell k hlt
      replace c0 := (hbw.cell (p := ⟨b, off + k * 3, none⟩) hbl).trans c0
      replace c1 := (hbw.cell (p := ⟨b, off + k * 3 + 1, none⟩) hbl).trans c1
      replace c2 := (hbw.cell (p := ⟨b, off + k * 3 + 2, none⟩) hbl).trans c2
      have hN := Lib.hid (all_notB (Ck.obs first rs) l k hlt)
      have hY := Lib.hid (all_takeB (Ck.obs first rs) l k hlt HA.out)
      obtain ⟨i1, i2, i3⟩ := HX.out.1 _ (List.getElem_mem hlt)
      clear hbw hcell
      generalize l[k] = x at *
      unfold i64 at i1 i2 i3
      obtain ⟨wx, hwx⟩ : ∃ wx, wx = wr.alloc (.cells #[.int .i64 x.send, .int .i64 x.recv, .int .i64 x.reading] 51) := ⟨_, rfl⟩
      have hbx : Blk wx wr.heap.size 51 #[.int .i64 x.send, .int .i64 x.recv, .int .i64 x.reading] := by rw [hwx]; exact (Blk.new wr 51 _)
      have x0 : wx.cell? ⟨wr.heap.size, 0, none⟩ = some (.int .i64 x.send) := hbx.cell 0
      have x1 : wx.cell? ⟨wr.heap.size, 1, none⟩ = some (.int .i64 x.recv) := hbx.cell 1
      have x2 : wx.cell? ⟨wr.heap.size, 2, none⟩ = some (.int .i64 x.reading) := hbx.cell 2
      have HBX : Hid (Below w.heap.size w wx) := Lib.hid (by rw [hwx]; exact HB.out.alloc HB.out.size _)
      have HWX := Lib.hid hwx
      have HX2 := Lib.hid x2
      have HOB : Hid (Ck.obs first rs x = (decide (min x.recv (first + rs.length - 1) < max x.send first) || Ck.obFind rs first x.reading (min x.recv (first + rs.length - 1) - max x.send first + 1).toNat (max x.send first))) := Lib.hid rfl
      generalize Ck.obs first rs x = ob at *
      clear hwx hbx
      go_wp2_with fail
      rw [← HWX.out]
      have wr1 : IntKind.i64.wrap (first + rs.length) = first + rs.length := IntWalk.i64_in _ (by omega)
      have wr2 : IntKind.i64.wrap (first + rs.length - 1) = first + rs.length - 1 := IntWalk.i64_in _ (by omega)
      go_quiet (fail)
      obtain ⟨fr, hfr⟩ : ∃ fr, fr = max x.send first := ⟨_, rfl⟩
      obtain ⟨to, hto⟩ : ∃ to, to = min x.recv (first + rs.length - 1) := ⟨_, rfl⟩
      clear wr1 wr2 x0 x1 x2 c0 c1 c2
      rw [show (if x.send < first then first else x.send) = fr by rw [hfr]; split <;> omega, show (if first + (rs.length : Int) - 1 < x.recv then first + (rs.length : Int) - 1 else x.recv) = to by rw [hto]; split <;> omega]
      rw [← hfr, ← hto] at HOB
      obtain ⟨wy, hwy⟩ : ∃ wy, wy = wx.drewN nq := ⟨_, rfl⟩
      have HBY : Hid (Below w.heap.size w wy) := Lib.hid (by rw [hwy]; exact below_drewN HBX.out _)
      have HX2' : Hid (wy.cell? ⟨wr.heap.size, 2, none⟩ = some (.int .i64 x.reading)) := Lib.hid (by rw [hwy]; exact HX2.out)
      rw [← hwy]
      have b1 : first ≤ fr := by omega
      have b2 : fr ≤ 9223372036854775807 := by omega
      have b3 : to ≤ first + rs.length - 1 := by omega
      have b4 : -9223372036854775808 ≤ to := by omega
      have HRR : Hid (Ints wy w.heap.size R rs) := Lib.hid (HR.out.below HBY.out)
      clear hwy hfr hto HWX HX2 HBX
      generalize x.reading = rd at *
      clear i1 i2
      go_wp2_with fail
      go_loopw [11, 12] (fun v11 v12 w2 => ∃ (fnd : Bool) (j : Nat), v11 = .bool fnd ∧ v12 = .int .i64 (first + j) ∧ (first + (j : Int) ≤ to + 1 ∨ first + (j : Int) ≤ fr) ∧ (∃ m, w2 = wy.drewN m) ∧ Hid (ob = (fnd || Ck.obFind rs first rd (to - (first + j) + 1).toNat (first + j)))) (fun _ v _ => (to + 1 - intOf v).toNat)
      case atStart =>
        have e : fr = first + ((fr - first).toNat : Int) := by omega
        exact ⟨decide (to < fr), (fr - first).toNat, rfl, by rw [← e], by omega, ⟨0, rfl⟩, Lib.hid (by rw [HOB.out, ← e])⟩
      case round =>
        obtain ⟨fnd, j, rfl, rfl, hj, ⟨m, rfl⟩, HF⟩ := hrel
        cases fnd
        · by_cases hjt : first + (j : Int) ≤ to
          · have hjl : j < rs.length := by omega
            obtain ⟨b', off', rfl, hbl', hcell'⟩ := HRR.out.2 (by omega)
            have c0 : (wy.drewN m).cell? ⟨b', off' + j, none⟩ = some (.int .i64 rs[j]) := hcell' j hjl
            have c1 : (wy.drewN m).cell? ⟨wr.heap.size, 2, none⟩ = some (.int .i64 rd) := HX2'.out
            obtain ⟨w3, hw3⟩ : ∃ w3, w3 = wy.drewN m := ⟨_, rfl⟩
            rw [← hw3] at c0 c1
            rw [← hw3]
            have HW3 := Lib.hid hw3
            have HSt : Hid (ob = if rs[j] = rd then true else Ck.obFind rs first rd (to - (first + (j + 1 : Nat)) + 1).toNat (first + (j + 1 : Nat))) := Lib.hid (by
              rw [HF.out, Bool.false_or, show (to - (first + (j : Int)) + 1).toNat = (to - (first + ((j + 1 : Nat) : Int)) + 1).toNat + 1 by omega, Ck.obFind]
              rw [show (first + (j : Int) - first).toNat = j by omega, List.getD_eq_getElem?_getD, List.getElem?_eq_getElem hjl, Option.getD_some]
              rw [show first + ((j + 1 : Nat) : Int) = first + j + 1 by omega])
            generalize rs[j] = z at *
            clear hcell' hw3
            go_wp2_with fail
            have wr1 : IntKind.i64.wrap (first + j - first) = (j : Int) := by rw [show first + (j : Int) - first = j by omega]; exact IntWalk.i64_in _ (by omega)
            go_quiet (fail)
            clear wr1
            go_wp2_with fail
            go_roundw
            case rel =>
              refine ⟨z == rd, j + 1, rfl, by go_num, by omega, ?_, Lib.hid (by
                rw [HSt.out]
                by_cases h : z = rd
                · rw [if_pos h]; simp [h]
                · rw [if_neg h]; simp [h])⟩
              rw [HW3.out]
              exact ⟨m + nq, by simp⟩
            case measure => simp [intOf]; omega
          · have HO : Hid (res = false) := Lib.hid (by
              rw [HRES.out]
              refine hN.out ?_
              rw [HF.out, show (to - (first + (j : Int)) + 1).toNat = 0 by omega]; rfl)
            have hjf : decide (first + (j : Int) ≤ to) = false := by simp; omega
            go_wp2_with fail
            go_ret
            exact ⟨ret_bool HO.out.symm, below_drewN HBY.out _⟩
        · have HO : Hid ((List.take (k + 1) l).all (Ck.obs first rs) = true) := Lib.hid (hY.out HF.out)
          by_cases hjt : first + (j : Int) ≤ to
          · go_wp2_with fail
            go_roundw
            case rel => exact ⟨k + 1, by go_num, hlt, below_drewN HBY.out _, HO⟩
            case measure => simp [intOf]; omega
          · have hjf : decide (first + (j : Int) ≤ to) = false := by simp; omega
            go_wp2_with fail
            go_roundw
            case rel => exact ⟨k + 1, by go_num, hlt, below_drewN HBY.out _, HO⟩
            case measure => simp [intOf]; omega
    · have HY : Hid (res = true) := Lib.hid (by have := HA.out; rw [List.take_of_length_le (by omega)] at this; rw [HRES.out]; exact this)
      go_wp2_with fail
      go_ret
      exact ⟨ret_bool HY.out.symm, HB.out⟩

end Go.Proofs.Ytjldhikadijbiaa
