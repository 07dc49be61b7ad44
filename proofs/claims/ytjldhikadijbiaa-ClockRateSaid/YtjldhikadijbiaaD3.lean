/- Rows of ints; the walks of Ints and SameInts. -/
import Derived.Test.YtjldhikadijbiaaB5
namespace Go.Proofs.Ytjldhikadijbiaa
open Go.RowKit

def intCells (l : List Int) : List Value := l.map (Value.int .i64)
theorem intCells_length (l : List Int) : (intCells l).length = l.length * 1 := by simp [intCells]
theorem intCells_one (l : List Int) : ∀ u ∈ intCells l, u.oneCell' = true := by
  intro u hu
  simp only [intCells, List.mem_map] at hu
  obtain ⟨z, _, rfl⟩ := hu
  rfl
theorem Ints.of_own {w : World} {base n c : Nat} {A : Option Addr} {l : List Int} (h : w.ownsRow base 3 1 (.slice A n c) n (intCells l)) (hn : l.length = n) (hi : ∀ x ∈ l, i64 x) : Ints w w.heap.size A l := by
  refine ⟨hi, fun hp => ?_⟩
  rcases h.2 with ⟨_, h0⟩ | ⟨g, cap, cur, hv, _, hb, _⟩
  · omega
  · injection hv with hA hB hC
    subst hA
    refine ⟨g, 0, rfl, (Array.getElem?_eq_some_iff.1 hb).1, fun i hil => ?_⟩
    have hh : w.ownsRow base 3 1 (.slice (some ⟨g, 0, none⟩) n c) n (intCells l) := h
    rw [Nat.zero_add, hh.cellAt i (by omega)]
    simp [intCells, hil]
theorem Ints.news {w : World} {B : Nat} {ad : Addr} {l : List Int} (h : Ints w B (some ad) l) : ∀ j u, (intCells l)[j]? = some u → w.cell? (ad.add j) = some u := by
  intro j u hu
  have hj : j < l.length := by
    rcases Nat.lt_or_ge j l.length with h' | h'
    · exact h'
    · rw [List.getElem?_eq_none (by simpa [intCells] using h')] at hu; cases hu
  obtain ⟨b, off, e, _, hc⟩ := h.2 (by omega)
  injection e with e
  subst e
  rw [add_none, hc j hj, ← hu]
  simp [intCells, hj]
theorem Ints.take {w : World} {B : Nat} {A : Option Addr} {l : List Int} (h : Ints w B A l) (k : Nat) : Ints w B A (l.take k) := by
  refine ⟨fun x hx => h.1 x (List.mem_of_mem_take hx), fun hp => ?_⟩
  obtain ⟨b, off, e, hb, hc⟩ := h.2 (by rw [List.length_take] at hp; omega)
  refine ⟨b, off, e, hb, fun i hi => ?_⟩
  rw [List.length_take] at hi
  have := hc i (by omega)
  rw [List.getElem_take]
  exact this

theorem info3 : (Try.prog.info? 3).map (fun i => (i.zero, i.size, i.bytes)) = some (some (.int .i64 0), 1, 8) := by kernel_rfl

/-- a copy in new memory -/
def CopiedI (l : List Int) (w : World) (e : Ending) (w' : World) : Prop :=
  ∃ A c, e = .returned (.slice A l.length c) ∧ Ints w' w'.heap.size A l ∧ Below w.heap.size w w'

set_option maxHeartbeats 1000000 in
theorem ints_any (A : Option Addr) (cap : Nat) (l : List Int) (w : World) (hx : InInts w A cap l) :
    Calls Try.prog 29 #[.slice A l.length cap, .int .i64 60] w (CopiedI (l.take 60) w) := by
  obtain ⟨i0, hi, hz0, hz1, hz2⟩ := info_parts info3
  obtain ⟨hX, hs⟩ := hx
  rcases hs with ⟨rfl, h0, rfl⟩ | ⟨ad, rfl, hc, hm⟩
  · have hl : l = [] := List.length_eq_zero_iff.1 h0
    subst hl
    clear h0
    have HX := Lib.hid hX
    clear hX
    go_enter Try.func29, Try.ntmps29
    go_wp2_with (at_builtin; refine wpList_append_own_none _ rfl _ _ 22 rfl w.heap.size 3 i0 1 Try.underlying22 hi (.slice none 0 0) 0 [] rfl ⟨rfl, .inl ⟨rfl, rfl⟩⟩ rfl ?_)
    go_ret
    exact ⟨none, 0, rfl, HX.out.take 60, Below.refl _ _⟩
  · unfold maxLen at hm
    have hT := hX.take 60
    have HN := Lib.hid hT.news
    have HI := Lib.hid hT.1
    have HLen := Lib.hid (intCells_length (l.take 60))
    have HOne := Lib.hid (intCells_one (l.take 60))
    have htl : (l.take 60).length = min 60 l.length := List.length_take ..
    have HTL := Lib.hid htl
    clear hT hX
    generalize l.take 60 = t at *
    by_cases h16 : 60 < l.length
    · have ht : t.length = 60 := by omega
      have HT := Lib.hid ht
      rw [ht] at HLen
      clear ht htl
      go_enter Try.func29, Try.ntmps29
      go_wp2_with (at_builtin; refine wpList_append_own _ rfl _ _ 22 rfl w.heap.size 3 i0 _ 1 8 Try.underlying22 hi hz0 hz1 hz2 rfl (by decide) (.slice none 0 0) 0 [] rfl ⟨rfl, .inl ⟨rfl, rfl⟩⟩ ad 60 cap (intCells t) rfl HLen.out HN.out HOne.out (by unfold maxLen; omega) (by omega) (Nat.le_refl _) ?_; intro v' w1 hown' hgrow _; have HO := Lib.hid hown'; have HG := Lib.hid hgrow; clear hown' hgrow)
      go_ret
      have hb : Below w.heap.size w w1 := (Below.refl _ w).grown HG.out (Nat.le_refl _) (by simp [Value.ownBlock])
      have ho := HO.out
      simp only [Nat.zero_add, List.nil_append] at ho
      rcases ho.2 with ⟨_, h⟩ | ⟨g, cp, cur, hv, _⟩
      · omega
      · subst hv
        exact ⟨_, cp, by rw [HT.out]; rfl, Ints.of_own ho HT.out HI.out, hb⟩
    · have ht : t.length = l.length := by omega
      have HT := Lib.hid ht
      rw [ht] at HLen
      clear ht htl
      go_enter Try.func29, Try.ntmps29
      go_wp2_with (at_builtin; refine wpList_append_own _ rfl _ _ 22 rfl w.heap.size 3 i0 _ 1 8 Try.underlying22 hi hz0 hz1 hz2 rfl (by decide) (.slice none 0 0) 0 [] rfl ⟨rfl, .inl ⟨rfl, rfl⟩⟩ ad l.length cap (intCells t) rfl HLen.out HN.out HOne.out (by unfold maxLen; omega) (by omega) (Nat.le_refl _) ?_; intro v' w1 hown' hgrow _; have HO := Lib.hid hown'; have HG := Lib.hid hgrow; clear hown' hgrow)
      go_ret
      have hb : Below w.heap.size w w1 := (Below.refl _ w).grown HG.out (Nat.le_refl _) (by simp [Value.ownBlock])
      have ho := HO.out
      simp only [Nat.zero_add, List.nil_append] at ho
      have hex : ∃ A c, v' = .slice A l.length c := by
        rcases ho.2 with ⟨rfl, h⟩ | ⟨g, cp, cur, hv, _⟩
        · exact ⟨none, 0, by rw [h]⟩
        · exact ⟨_, _, hv⟩
      obtain ⟨A', c', rfl⟩ := hex
      exact ⟨_, c', by rw [HT.out]; rfl, Ints.of_own ho HT.out HI.out, hb⟩

set_option maxRecDepth 100000 in
set_option maxHeartbeats 1000000 in
theorem sameInts_any (A B : Option Addr) (ca cb : Nat) (l : List Int) (hl : l.length ≤ 1000000) (w : World) (ha : Ints w w.heap.size A l) (hb : Ints w w.heap.size B l) :
    Calls Try.prog 31 #[.slice A l.length ca, .slice B l.length cb] w (Told true w) := by
  have HA := Lib.hid ha
  have HB := Lib.hid hb
  clear ha hb
  go_enter Try.func31, Try.ntmps31
  go_wp2_with fail
  go_loopw [5] (fun v wr => ∃ k m : Nat, v = .int .i64 (k : Int) ∧ k ≤ l.length ∧ wr = w.drewN m) (fun v _ => l.length - (intOf v).toNat)
  case atStart => exact ⟨0, 0, rfl, Nat.zero_le _, rfl⟩
  case round =>
    obtain ⟨k, m, rfl, hk, rfl⟩ := hrel
    by_cases hlt : k < l.length
    · obtain ⟨b, off, rfl, hbl, hcell⟩ := HA.out.2 (by omega)
      obtain ⟨b', off', rfl, hbl', hcell'⟩ := HB.out.2 (by omega)
      have c0 : (w.drewN m).cell? ⟨b, off + k, none⟩ = some (.int .i64 l[k]) := hcell k hlt
      have c1 : (w.drewN m).cell? ⟨b', off' + k, none⟩ = some (.int .i64 l[k]) := hcell' k hlt
      obtain ⟨w3, hw3⟩ : ∃ w3, w3 = w.drewN m := ⟨_, rfl⟩
      rw [← hw3] at c0 c1
      rw [← hw3]
      have HW3 := Lib.hid hw3
      generalize l[k] = z at *
      clear hcell hcell' hw3
      go_wp2_with fail
      go_quiet (fail)
      go_wp2_with fail
      go_roundw
      case rel => exact ⟨k + 1, m + nq, by go_num, hlt, by rw [HW3.out]; simp⟩
      case measure => simp [intOf]; omega
    · go_wp2_with fail
      go_ret
      exact ⟨rfl, below_drewN (Below.refl _ _) _⟩

end Go.Proofs.Ytjldhikadijbiaa
