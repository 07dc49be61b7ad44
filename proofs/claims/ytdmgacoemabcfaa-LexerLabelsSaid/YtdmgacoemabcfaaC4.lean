/- A slice of ints that came in, as the walks want it; LexerTokens: the law's walk. -/
import Derived.Test.YtdmgacoemabcfaaC3
namespace Go.Proofs.Ytdmgacoemabcfaa
open Go.RowKit

theorem cell_lt {w : World} {b off : Nat} {v : Value} (h : w.cell? ⟨b, off, none⟩ = some v) : b < w.heap.size := by
  rcases Nat.lt_or_ge b w.heap.size with hlt | hge
  · exact hlt
  · unfold World.cell? at h; simp [Array.getElem?_eq_none hge] at h

theorem ints_of_row {w : World} {a : Option Addr} {len cap : Nat} {zs : List Int}
    (h : (a = none ∧ len = 0 ∧ cap = 0 ∧ zs = []) ∨ ∃ x, a = some x ∧ len ≤ cap ∧ cap ≤ maxLen ∧ zs.length = cap ∧ (∀ i, i < zs.length → w.cell? (x.add i) = some (.int .i64 (zs.getD i 0))) ∧ ∀ n ∈ zs, (Lit.int .i64 n).wf = true) :
    ∃ ys, Ints w w.heap.size a len ys ∧ len ≤ 9223372036854775807 := by
  rcases h with ⟨rfl, rfl, rfl, rfl⟩ | ⟨x, rfl, hl, hm, hz, hcell, hwz⟩
  · exact ⟨[], ⟨rfl, by simp, fun h => absurd h (by omega)⟩, by omega⟩
  · refine ⟨zs.take len, ⟨by simp; omega, fun z hz' => ?_, fun hn => ?_⟩, by unfold maxLen at hm; omega⟩
    · have := hwz z (List.mem_of_mem_take hz')
      simpa [Lit.wf, IntKind.min, IntKind.max, IntKind.signed, IntKind.bits] using this
    · obtain ⟨b, off, spot⟩ := x
      have hc := hcell 0 (by omega)
      have hspot : spot = none := by simpa [Addr.add] using World.cell?_spot hc
      subst hspot
      have ha : ∀ j, (⟨b, off, none⟩ : Addr).add j = ⟨b, off + j, none⟩ := fun j => by
        unfold Addr.add; by_cases h : j = 0 <;> simp [h]
      rw [ha] at hc
      refine ⟨b, off, rfl, cell_lt hc, fun i hi => ?_⟩
      have hi' : i < len := by simp at hi; omega
      have := hcell i (by omega)
      rw [ha, List.getD_eq_getElem?_getD, List.getElem?_eq_getElem (by omega)] at this
      rw [List.getElem_take]
      exact this

set_option maxRecDepth 100000 in
set_option maxHeartbeats 1000000 in
theorem tokens_walk (A : Option Addr) (n cap : Nat) (zs : List Int) (w : World) (hz : Ints w w.heap.size A n zs) (hn : n ≤ 9223372036854775807) :
    Calls Try.prog 3 #[.slice A n cap] w (Agreed w) := by
  have HZ := Lib.hid hz
  clear hz
  go_enter Try.func3, Try.ntmps3
  go_wp2_with fail
  refine (source_any A n cap zs w HZ.out hn).mono ?_
  rintro e w1 ⟨X, hX, rfl, hb1⟩
  have HB1 := Lib.hid hb1
  clear hb1
  go_wp2_with fail
  refine (agrees_any X (by unfold maxLen; omega) w1).mono ?_
  rintro e w2 ⟨rfl, hb2⟩
  have HB2 := Lib.hid (HB1.out.trans (hb2.mono HB1.out.size))
  have HZ2 : Hid (Ints w2 w2.heap.size A n zs) := Lib.hid (by
    have h := HZ.out.below HB2.out
    exact ⟨h.1, h.2.1, fun hp => by obtain ⟨b, off, e, hl, hc⟩ := h.2.2 hp; exact ⟨b, off, e, by have := HB2.out.size; omega, hc⟩⟩)
  clear hb2
  go_wp2_with fail
  refine (clean_any A n cap zs w2 HZ2.out hn).mono ?_
  rintro e w3 ⟨Y, hY, rfl, hb3⟩
  have HB3 := Lib.hid (HB2.out.trans (hb3.mono HB2.out.size))
  clear hb3
  go_wp2_with fail
  refine (agrees_any Y (by unfold maxLen; omega) w3).mono ?_
  rintro e w4 ⟨rfl, hb4⟩
  have HB4 := Lib.hid (HB3.out.trans (hb4.mono HB3.out.size))
  clear hb4
  go_wp2_with fail
  refine (lives_any w4).mono ?_
  rintro e w5 ⟨rfl, hb5⟩
  have HB5 := Lib.hid (HB4.out.trans (hb5.mono HB4.out.size))
  clear hb5
  go_wp2_with fail
  go_ret
  exact ⟨rfl, HB5.out⟩

end Go.Proofs.Ytdmgacoemabcfaa
