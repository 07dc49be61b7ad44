/- The walk of the reference's Valid (printed by gen_a8.py). -/
import Derived.Test.YtjldhikadijbiaaA7
import Derived.Deep.DeepCutAuto
import Derived.Deep.CutBlock
namespace Go.Proofs.Ytjldhikadijbiaa
open Go.RowKit

theorem all_drop_step (p : Ck.Ex → Bool) (l : List Ck.Ex) (k : Nat) (hk : k < l.length) : (l.drop k).all p = (p l[k] && (l.drop (k + 1)).all p) := by
  rw [List.drop_eq_getElem_cons hk, List.all_cons]

set_option maxRecDepth 100000 in
set_option maxHeartbeats 4000000 in
theorem rvalid_any (d : Int) (A : Option Addr) (cap : Nat) (l : List Ck.Ex) (hl : l.length ≤ 9223372036854775806) (w : World) (hx : Exs w w.heap.size A l) :
    Calls Try.prog 23 #[.int .i64 d, .slice A l.length cap] w (Told (Ck.valid d l) w) := by
  have HX := Lib.hid hx
  have HRES : Hid (Ck.valid d l = (decide (0 ≤ d ∧ d ≤ 512 ∧ 1 ≤ l.length ∧ l.length ≤ 16) && l.all Ck.okEx)) := Lib.hid rfl
  generalize Ck.valid d l = res at *
  clear hx
  go_enter Try.func23, Try.ntmps23
  go_upto_region 1 with fail
  go_cut [5] (fun v5 w' => w' = w ∧ ∃ ok, v5 = .bool ok ∧ Hid (res = (ok && l.all Ck.okEx)))
  case first =>

    by_cases h0 : 0 ≤ d
    rotate_left
    · have g0 : decide (0 ≤ d) = false := by simp; omega
      have HF : Hid (res = (false && l.all Ck.okEx)) := Lib.hid (by rw [HRES.out, decide_eq_false (by omega)])
      go_wp2_with fail
      go_meet
      exact ⟨rfl, false, rfl, HF⟩
    by_cases h1 : d ≤ 512
    rotate_left
    · have g1 : decide (d ≤ 512) = false := by simp; omega
      have HF : Hid (res = (false && l.all Ck.okEx)) := Lib.hid (by rw [HRES.out, decide_eq_false (by omega)])
      go_wp2_with fail
      go_meet
      exact ⟨rfl, false, rfl, HF⟩
    by_cases h2 : 1 ≤ (l.length : Int)
    rotate_left
    · have g2 : decide (1 ≤ (l.length : Int)) = false := by simp; omega
      have HF : Hid (res = (false && l.all Ck.okEx)) := Lib.hid (by rw [HRES.out, decide_eq_false (by omega)])
      go_wp2_with fail
      go_meet
      exact ⟨rfl, false, rfl, HF⟩
    by_cases h3 : (l.length : Int) ≤ 16
    rotate_left
    · have g3 : decide ((l.length : Int) ≤ 16) = false := by simp; omega
      have HF : Hid (res = (false && l.all Ck.okEx)) := Lib.hid (by rw [HRES.out, decide_eq_false (by omega)])
      go_wp2_with fail
      go_meet
      exact ⟨rfl, false, rfl, HF⟩
    have HF : Hid (res = (true && l.all Ck.okEx)) := Lib.hid (by rw [HRES.out, decide_eq_true (by omega)])
    go_wp2_with fail
    go_meet
    exact ⟨rfl, true, rfl, HF⟩
  case rest =>
    obtain ⟨hwc, ok0, rfl, HF0⟩ := hcut
    subst hwc
    go_wp2_with fail
    go_loopw [5, 6, 7] (fun v5 v6 _ wr => ∃ (ok : Bool) (k : Nat), v5 = .bool ok ∧ v6 = .int .i64 (k : Int) ∧ k ≤ l.length ∧ Below wc.heap.size wc wr ∧ Hid (res = (ok && (l.drop k).all Ck.okEx))) (fun _ v _ _ => l.length - (intOf v).toNat)
    case atStart => exact ⟨ok0, 0, rfl, rfl, Nat.zero_le _, Below.refl _ _, HF0⟩
    case round =>
      obtain ⟨ok, k, rfl, rfl, hk, hbw, HA⟩ := hrel
      have HB := Lib.hid hbw
      by_cases hlt : k < l.length
      · cases ok
        · have HR : Hid (res = false) := Lib.hid HA.out
          clear hbw
          go_wp2_with fail
          go_ret
          exact ⟨ret_bool HR.out.symm, HB.out⟩
        · obtain ⟨b, off, rfl, hbl, hcell⟩ := HX.out.2 (by omega)
          obtain ⟨c0, c1, c2⟩ := hcell k hlt
          replace c0 := (hbw.cell (p := ⟨b, off + k * 3, none⟩) hbl).trans c0
          replace c1 := (hbw.cell (p := ⟨b, off + k * 3 + 1, none⟩) hbl).trans c1
          replace c2 := (hbw.cell (p := ⟨b, off + k * 3 + 2, none⟩) hbl).trans c2
          have hS := all_drop_step Ck.okEx l k hlt
          have HO : Hid (Ck.okEx l[k] = decide (0 ≤ l[k].send ∧ l[k].send ≤ l[k].recv ∧ l[k].recv ≤ 1048576 ∧ -1073741824 ≤ l[k].reading ∧ l[k].reading ≤ 1073741824)) := Lib.hid rfl
          have HS := Lib.hid (HA.out.trans (by rw [hS]))
          clear hbw hcell hS HA
          generalize l[k] = x at *
          generalize Ck.okEx x = okx at *
          obtain ⟨xs, xr, xg⟩ := x
          dsimp only at HO c0 c1 c2
          by_cases o0 : 0 ≤ xs
          rotate_left
          · have q0 : decide (0 ≤ xs) = false := by simp; omega
            have HN : Hid (res = (false && (l.drop (k + 1)).all Ck.okEx)) := Lib.hid (by rw [HS.out, HO.out, decide_eq_false (by omega)]; rfl)
            go_wp2_with fail
            go_roundw
            case rel => exact ⟨false, k + 1, rfl, by go_num, hlt, HB.out.alloc HB.out.size _, HN⟩
            case measure => simp [intOf]; omega
          by_cases o1 : xs ≤ xr
          rotate_left
          · have q1 : decide (xs ≤ xr) = false := by simp; omega
            have HN : Hid (res = (false && (l.drop (k + 1)).all Ck.okEx)) := Lib.hid (by rw [HS.out, HO.out, decide_eq_false (by omega)]; rfl)
            go_wp2_with fail
            go_roundw
            case rel => exact ⟨false, k + 1, rfl, by go_num, hlt, HB.out.alloc HB.out.size _, HN⟩
            case measure => simp [intOf]; omega
          by_cases o2 : xr ≤ 1048576
          rotate_left
          · have q2 : decide (xr ≤ 1048576) = false := by simp; omega
            have HN : Hid (res = (false && (l.drop (k + 1)).all Ck.okEx)) := Lib.hid (by rw [HS.out, HO.out, decide_eq_false (by omega)]; rfl)
            go_wp2_with fail
            go_roundw
            case rel => exact ⟨false, k + 1, rfl, by go_num, hlt, HB.out.alloc HB.out.size _, HN⟩
            case measure => simp [intOf]; omega
          by_cases o3 : -1073741824 ≤ xg
          rotate_left
          · have q3 : decide (-1073741824 ≤ xg) = false := by simp; omega
            have HN : Hid (res = (false && (l.drop (k + 1)).all Ck.okEx)) := Lib.hid (by rw [HS.out, HO.out, decide_eq_false (by omega)]; rfl)
            go_wp2_with fail
            go_roundw
            case rel => exact ⟨false, k + 1, rfl, by go_num, hlt, HB.out.alloc HB.out.size _, HN⟩
            case measure => simp [intOf]; omega
          by_cases o4 : xg ≤ 1073741824
          rotate_left
          · have q4 : decide (xg ≤ 1073741824) = false := by simp; omega
            have HN : Hid (res = (false && (l.drop (k + 1)).all Ck.okEx)) := Lib.hid (by rw [HS.out, HO.out, decide_eq_false (by omega)]; rfl)
            go_wp2_with fail
            go_roundw
            case rel => exact ⟨false, k + 1, rfl, by go_num, hlt, HB.out.alloc HB.out.size _, HN⟩
            case measure => simp [intOf]; omega
          have HN : Hid (res = (true && (l.drop (k + 1)).all Ck.okEx)) := Lib.hid (by rw [HS.out, HO.out, decide_eq_true (by omega)]; simp)
          go_wp2_with fail
          go_roundw
          case rel => exact ⟨true, k + 1, rfl, by go_num, hlt, HB.out.alloc HB.out.size _, HN⟩
          case measure => simp [intOf]; omega
      · have HR : Hid (res = ok) := Lib.hid (by rw [HA.out, List.drop_of_length_le (by omega)]; simp)
        have hf : decide ((k : Int) < l.length) = false := by simp; omega
        clear hbw
        go_wp2_with fail
        go_ret
        exact ⟨ret_bool HR.out.symm, HB.out⟩

end Go.Proofs.Ytjldhikadijbiaa
