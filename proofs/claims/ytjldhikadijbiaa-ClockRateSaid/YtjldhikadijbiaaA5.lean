/- The walk of the clock's steady. -/
import Derived.Test.YtjldhikadijbiaaA4
import Derived.Test.YtjldhikadijbiaaCn
namespace Go.Proofs.Ytjldhikadijbiaa
open Go.RowKit

/-- a slice of ints, below block B -/
def Ints (w : World) (B : Nat) (A : Option Addr) (zs : List Int) : Prop :=
  (∀ z ∈ zs, i64 z) ∧ (0 < zs.length → ∃ b off, A = some ⟨b, off, none⟩ ∧ b < B ∧ ∀ i (h : i < zs.length), w.cell? ⟨b, off + i, none⟩ = some (.int .i64 zs[i]))
theorem Ints.keep {w w' : World} {B B' : Nat} {A : Option Addr} {l : List Int} (h : Ints w B A l) (hk : ∀ p : Addr, p.block < B → w'.cell? p = w.cell? p) (hB : B ≤ B') : Ints w' B' A l :=
  ⟨h.1, fun hn => by
    obtain ⟨b, off, e, hlt, hc⟩ := h.2 hn
    exact ⟨b, off, e, by omega, fun i hi => (hk _ hlt).trans (hc i hi)⟩⟩
theorem Ints.below {w w' : World} {B : Nat} {A : Option Addr} {l : List Int} (h : Ints w B A l) (hb : Below B w w') : Ints w' B A l := h.keep (fun _ hp => hb.cell hp) (Nat.le_refl _)
theorem Ints.later {w w' : World} {A : Option Addr} {l : List Int} (h : Ints w w.heap.size A l) (hb : Below w.heap.size w w') : Ints w' w'.heap.size A l := h.keep (fun _ hp => hb.cell hp) hb.size

set_option maxRecDepth 100000 in
set_option maxHeartbeats 4000000 in
theorem steady_any (d : Int) (A : Option Addr) (cap : Nat) (l : List Int) (hl : l.length ≤ 2097152) (w : World) (hx : Ints w w.heap.size A l) (d0 : 0 ≤ d) (d1 : d ≤ 512) (hin : l.all Ck.inReach = true) :
    Calls Try.prog 44 #[.int .i64 d, .slice A l.length cap] w (Told (Ck.steady d l) w) := by
  have HX := Lib.hid hx
  have HIN := Lib.hid hin
  have HRES : Hid (∀ h : 0 < l.length, Ck.steady d l = Ck.stGo d 1 (Ck.dn d 0 l[0]) (Ck.upp d 0 l[0]) (l.drop 1)) := Lib.hid (fun h => by
    cases l with
    | nil => cases h
    | cons a t => rfl)
  have HNIL : Hid (l.length = 0 → Ck.steady d l = true) := Lib.hid (fun h => by rw [List.length_eq_zero_iff.1 h]; rfl)
  generalize Ck.steady d l = res at *
  clear hx hin
  go_enter Try.func44, Try.ntmps44
  go_wp2_with fail
  go_loopw [5, 6, 7, 8, 9, 10, 13] (fun v5 v6 _ _ _ _ v wr => ∃ (le gr : Int) (k : Nat), v5 = .int .i64 le ∧ v6 = .int .i64 gr ∧ v = .int .i64 (k : Int) ∧ -9007199254740992 ≤ le ∧ le ≤ 9007199254740992 ∧ -9007199254740992 ≤ gr ∧ gr ≤ 9007199254740992 ∧ k ≤ l.length ∧ wr = w ∧ Hid (0 < k → res = Ck.stGo d k le gr (l.drop k))) (fun _ _ _ _ _ _ v _ => l.length - (intOf v).toNat)
  case atStart => exact ⟨0, 0, 0, rfl, rfl, rfl, by omega, by omega, by omega, by omega, Nat.zero_le _, rfl, Lib.hid (fun h => by omega)⟩
  case round =>
    obtain ⟨le, gr, k, rfl, rfl, rfl, f0, f1, la0, la1, hk, rfl, HG⟩ := hrel
    by_cases hlt : k < l.length
    · obtain ⟨b, off, rfl, hbl, hcell⟩ := HX.out.2 (by omega)
      have c0 := hcell k hlt
      clear hcell
      have hin := List.all_eq_true.1 HIN.out _ (List.getElem_mem hlt)
      unfold Ck.inReach at hin
      replace hin := of_decide_eq_true hin
      obtain ⟨o1, o2⟩ := hin
      have hB := Ck.stGo_bad d le gr l k hlt
      have hG := Ck.stGo_good d le gr l k hlt
      have hdn : Ck.dn d k l[k] = 1024 * (l[k] - k) - d * k := rfl
      have hup : Ck.upp d k l[k] = 1024 * (l[k] - k) + d * k := rfl
      by_cases hk0 : k = 0
      · have H1 := Lib.hid (HRES.out (by omega))
        rw [hdn, hup] at hB hG
        clear hB hG hdn hup
        have e0 : Hid (Ck.dn d 0 l[0] = 1024 * l[k] ∧ Ck.upp d 0 l[0] = 1024 * l[k]) := Lib.hid (by subst hk0; simp [Ck.dn, Ck.upp])
        have HK0 := Lib.hid hk0
        rw [e0.out.1, e0.out.2] at H1
        clear e0
        generalize l[k] = r at *
        subst hk0
        rw [Nat.add_zero] at c0
        go_wp2_with fail
        go_roundw
        case rel => exact ⟨_, _, 1, rfl, rfl, rfl, by omega, by omega, by omega, by omega, hlt, trivial, Lib.hid (fun _ => H1.out)⟩
        case measure => simp [intOf]; omega
      · have p0 : 0 ≤ d * (k : Int) := Int.mul_nonneg d0 (by omega)
        have p1 : d * (k : Int) ≤ 512 * 2097152 := Int.mul_le_mul d1 (by omega) (by omega) (by omega)
        rw [hdn, hup] at hB hG
        have hkb : ((k : Int) == 0) = false := by simp; omega
        have HG' := HG.out (by omega)
        generalize l[k] = r at *
        clear hdn hup
        by_cases t1 : 1024 ≤ 1024 * (r - k) - d * k - le
        · have HB := Lib.hid (hB (Or.inl t1))
          have HGG := Lib.hid HG'
          clear hB hG HG' HG
          go_wp2_with fail
          go_ret
          exact ⟨ret_bool (by rw [HGG.out, HB.out]), Below.refl _ _⟩
        · by_cases t2 : 1024 ≤ gr - (1024 * (r - k) + d * k)
          · have HB := Lib.hid (hB (Or.inr t2))
            have HGG := Lib.hid HG'
            clear hB hG HG' HG
            go_wp2_with fail
            go_ret
            exact ⟨ret_bool (by rw [HGG.out, HB.out]), Below.refl _ _⟩
          · have HB := Lib.hid (hG (by omega))
            have HGG := Lib.hid HG'
            clear hB hG HG' HG
            go_wp2_with fail
            go_roundw
            case rel =>
              refine ⟨_, _, k + 1, rfl, rfl, by go_num, ?_, ?_, ?_, ?_, hlt, trivial, Lib.hid (fun _ => by
                rw [HGG.out, HB.out]
                congr 1
                · by_cases h : 1024 * (r - k) - d * k < le
                  · rw [if_pos h]; omega
                  · rw [if_neg h]; omega
                · by_cases h : gr < 1024 * (r - k) + d * k
                  · rw [if_pos h]; omega
                  · rw [if_neg h]; omega)⟩ <;> (split <;> omega)
            case measure => simp [intOf]; omega
    · have hkl : k = l.length := by omega
      have HR : Hid (res = true) := Lib.hid (by
        by_cases h0 : l.length = 0
        · exact HNIL.out h0
        · rw [HG.out (by omega), hkl, List.drop_length]; rfl)
      clear hkl
      go_wp2_with fail
      go_ret
      exact ⟨ret_bool (HR.out.symm), Below.refl _ _⟩

end Go.Proofs.Ytjldhikadijbiaa
