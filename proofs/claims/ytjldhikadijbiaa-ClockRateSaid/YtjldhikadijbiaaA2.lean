/- Exchanges in memory; the walk of the clock's Valid. -/
import Derived.Test.YtjldhikadijbiaaA1
namespace Go.Proofs.Ytjldhikadijbiaa
open Go.RowKit

def i64 (n : Int) : Prop := -9223372036854775808 ≤ n ∧ n ≤ 9223372036854775807

/-- a slice of exchanges, below block B -/
def Exs (w : World) (B : Nat) (A : Option Addr) (l : List Ck.Ex) : Prop :=
  (∀ x ∈ l, i64 x.send ∧ i64 x.recv ∧ i64 x.reading) ∧
  (0 < l.length → ∃ b off, A = some ⟨b, off, none⟩ ∧ b < B ∧ ∀ i (h : i < l.length), w.cell? ⟨b, off + i * 3, none⟩ = some (.int .i64 l[i].send) ∧ w.cell? ⟨b, off + i * 3 + 1, none⟩ = some (.int .i64 l[i].recv) ∧ w.cell? ⟨b, off + i * 3 + 2, none⟩ = some (.int .i64 l[i].reading))

theorem Exs.keep {w w' : World} {B B' : Nat} {A : Option Addr} {l : List Ck.Ex} (h : Exs w B A l) (hk : ∀ p : Addr, p.block < B → w'.cell? p = w.cell? p) (hB : B ≤ B') : Exs w' B' A l :=
  ⟨h.1, fun hn => by
    obtain ⟨b, off, e, hlt, hc⟩ := h.2 hn
    exact ⟨b, off, e, by omega, fun i hi => ⟨(hk _ hlt).trans (hc i hi).1, (hk _ hlt).trans (hc i hi).2.1, (hk _ hlt).trans (hc i hi).2.2⟩⟩⟩
theorem Exs.below {w w' : World} {B : Nat} {A : Option Addr} {l : List Ck.Ex} (h : Exs w B A l) (hb : Below B w w') : Exs w' B A l := h.keep (fun _ hp => hb.cell hp) (Nat.le_refl _)
theorem Exs.later {w w' : World} {A : Option Addr} {l : List Ck.Ex} (h : Exs w w.heap.size A l) (hb : Below w.heap.size w w') : Exs w' w'.heap.size A l := h.keep (fun _ hp => hb.cell hp) hb.size

def Told (b : Bool) (w : World) (e : Ending) (w' : World) : Prop := e = .returned (.bool b) ∧ Below w.heap.size w w'

theorem all_take_ok (l : List Ck.Ex) (k : Nat) (hk : k < l.length) (h : (l.take k).all Ck.okEx = true) (hc : Ck.okEx l[k] = true) : (l.take (k + 1)).all Ck.okEx = true := by
  rw [List.take_succ_eq_append_getElem hk, List.all_append, h]
  simp [hc]
theorem all_not_ok (l : List Ck.Ex) (k : Nat) (hk : k < l.length) (hc : Ck.okEx l[k] = false) : l.all Ck.okEx = false := by
  cases h : l.all Ck.okEx with
  | false => rfl
  | true => rw [List.all_eq_true.1 h _ (List.getElem_mem hk)] at hc; cases hc

set_option maxRecDepth 100000 in
set_option maxHeartbeats 2000000 in
theorem valid_any (d : Int) (A : Option Addr) (cap : Nat) (l : List Ck.Ex) (hl : l.length ≤ 9223372036854775807) (w : World) (hx : Exs w w.heap.size A l) :
    Calls Try.prog 22 #[.int .i64 d, .slice A l.length cap] w (Told (Ck.valid d l) w) := by
  by_cases h1 : d < 0
  · have H : Hid (Ck.valid d l = false) := Lib.hid (by simp [Ck.valid]; intro h; omega)
    clear hx
    go_enter Try.func22, Try.ntmps22
    go_wp2_with fail
    go_ret
    exact ⟨ret_bool H.out.symm, Below.refl _ _⟩
  · by_cases h2 : 512 < d
    · have H : Hid (Ck.valid d l = false) := Lib.hid (by simp [Ck.valid]; intro h; omega)
      clear hx
      go_enter Try.func22, Try.ntmps22
      go_wp2_with fail
      go_ret
      exact ⟨ret_bool H.out.symm, Below.refl _ _⟩
    · by_cases h3 : l.length < 1
      · have H : Hid (Ck.valid d l = false) := Lib.hid (by simp [Ck.valid]; intro h; omega)
        clear hx
        go_enter Try.func22, Try.ntmps22
        go_wp2_with fail
        go_ret
        exact ⟨ret_bool H.out.symm, Below.refl _ _⟩
      · by_cases h4 : 16 < l.length
        · have H : Hid (Ck.valid d l = false) := Lib.hid (by simp [Ck.valid]; intro h; omega)
          clear hx
          go_enter Try.func22, Try.ntmps22
          go_wp2_with fail
          go_ret
          exact ⟨ret_bool H.out.symm, Below.refl _ _⟩
        · have H : Hid (Ck.valid d l = l.all Ck.okEx) := Lib.hid (by
            unfold Ck.valid
            rw [decide_eq_true (by omega), Bool.true_and])
          have hlI : decide ((l.length : Int) < 1) = false := by simp; omega
          obtain ⟨b, off, rfl, hbl, hcell⟩ := hx.2 (by omega)
          have HC := Lib.hid hcell
          clear hcell hx
          go_enter Try.func22, Try.ntmps22
          go_wp2_with fail
          go_loopw [6, 25] (fun _ v wr => ∃ k : Nat, k ≤ l.length ∧ v = .int .i64 (k : Int) ∧ Below w.heap.size w wr ∧ Hid ((l.take k).all Ck.okEx = true)) (fun _ v _ => l.length - (intOf v).toNat)
          case atStart => exact ⟨0, Nat.zero_le _, rfl, Below.refl _ _, Lib.hid (by simp)⟩
          case round =>
            obtain ⟨k, hk, rfl, hbw, HA⟩ := hrel
            have HB := Lib.hid hbw
            by_cases hlt : k < l.length
            · obtain ⟨c0, c1, c2⟩ := HC.out k hlt
              replace c0 := (hbw.cell (p := ⟨b, off + k * 3, none⟩) hbl).trans c0
              replace c1 := (hbw.cell (p := ⟨b, off + k * 3 + 1, none⟩) hbl).trans c1
              replace c2 := (hbw.cell (p := ⟨b, off + k * 3 + 2, none⟩) hbl).trans c2
              have hN := all_not_ok l k hlt
              have hY := all_take_ok l k hlt HA.out
              clear hbw
              generalize l[k] = x at *
              by_cases ok : 0 ≤ x.send ∧ x.send ≤ x.recv ∧ x.recv ≤ 1048576 ∧ -1073741824 ≤ x.reading ∧ x.reading ≤ 1073741824
              · have HY := Lib.hid (hY (by unfold Ck.okEx; exact decide_eq_true ok))
                obtain ⟨o1, o2, o3, o4, o5⟩ := ok
                clear hN hY
                go_wp2_with fail
                go_roundw
                case rel => exact ⟨k + 1, by omega, by go_num, HB.out.alloc HB.out.size _, HY⟩
                case measure => simp [intOf]; omega
              · have HN := Lib.hid (hN (by unfold Ck.okEx; exact decide_eq_false ok))
                clear hN hY
                by_cases o1 : x.send < 0
                · clear ok
                  go_wp2_with fail
                  go_ret
                  exact ⟨ret_bool (by rw [H.out, HN.out]), HB.out.alloc HB.out.size _⟩
                · by_cases o2 : x.recv < x.send
                  · clear ok
                    go_wp2_with fail
                    go_ret
                    exact ⟨ret_bool (by rw [H.out, HN.out]), HB.out.alloc HB.out.size _⟩
                  · by_cases o3 : 1048576 < x.recv
                    · clear ok
                      go_wp2_with fail
                      go_ret
                      exact ⟨ret_bool (by rw [H.out, HN.out]), HB.out.alloc HB.out.size _⟩
                    · by_cases o4 : x.reading < -1073741824
                      · clear ok
                        go_wp2_with fail
                        go_ret
                        exact ⟨ret_bool (by rw [H.out, HN.out]), HB.out.alloc HB.out.size _⟩
                      · have o5 : 1073741824 < x.reading := by omega
                        clear ok
                        go_wp2_with fail
                        go_ret
                        exact ⟨ret_bool (by rw [H.out, HN.out]), HB.out.alloc HB.out.size _⟩
            · have HY : Hid (l.all Ck.okEx = true) := Lib.hid (by have := HA.out; rw [List.take_of_length_le (by omega)] at this; exact this)
              go_wp2_with fail
              go_ret
              exact ⟨ret_bool (by rw [H.out, HY.out]), HB.out⟩

end Go.Proofs.Ytjldhikadijbiaa
