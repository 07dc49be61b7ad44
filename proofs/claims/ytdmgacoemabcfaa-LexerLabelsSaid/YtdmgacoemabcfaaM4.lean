/- The walk of LexerLabels. -/
import Derived.Test.YtdmgacoemabcfaaM3
namespace Go.Proofs.Ytdmgacoemabcfaa
open Go.RowKit

/-- a row of tokens by kinds and texts -/
def KTRow (w : World) (g : Nat) (K : List (Nat × List UInt8)) : Prop :=
  ∀ (j kd : Nat) (tx : List UInt8), K[j]? = some (kd, tx) → w.cell? ⟨g, j * 4, none⟩ = some (.int .i64 (kd : Int)) ∧ w.cell? ⟨g, j * 4 + 1, none⟩ = some (.string ⟨tx.toArray⟩)
theorem TokRow.kt {w : World} {A : Option Addr} {ts : List Lx.Tk} (h : TokRow w A ts) (hn : 0 < ts.length) : ∃ g, A = some ⟨g, 0, none⟩ ∧ g < w.heap.size ∧ KTRow w g (ts.map Lx.kt) := by
  obtain ⟨g, rfl, hg, hc⟩ := h hn
  refine ⟨g, rfl, hg, fun j kd tx hj => ?_⟩
  rw [List.getElem?_map] at hj
  obtain ⟨t, ht, he⟩ := Option.map_eq_some_iff.1 hj
  obtain ⟨hlt, rfl⟩ := List.getElem?_eq_some_iff.1 ht
  unfold Lx.kt at he
  injection he with h1 h2
  obtain ⟨a, b, _, _⟩ := hc j hlt
  rw [h1] at a
  rw [h2] at b
  exact ⟨a, b⟩
theorem KTRow.later {w w' : World} {g : Nat} {K : List (Nat × List UInt8)} (h : KTRow w g K) (hg : g < w.heap.size) (hb : Below w.heap.size w w') : KTRow w' g K := fun j kd tx hj => by
  obtain ⟨a, b⟩ := h j kd tx hj
  exact ⟨(hb.cell (p := ⟨g, j * 4, none⟩) hg).trans a, (hb.cell (p := ⟨g, j * 4 + 1, none⟩) hg).trans b⟩

theorem accum_len : ∀ (ls : List Lx.Lab) (k : Nat) (a : List UInt8), (∀ x ∈ ls, x.name.length ≤ 16 ∧ x.value.length ≤ 16) → (Lx.accum k a ls).length ≤ a.length + 36 * ls.length := by
  intro ls
  induction ls with
  | nil => intro k a _; simp [Lx.accum]
  | cons x xs ih =>
    intro k a h
    have h1 := h x (List.mem_cons_self ..)
    have := ih (k + 1) (a ++ ((if 0 < k then [44] else []) ++ Lx.item x)) (fun y hy => h y (List.mem_cons_of_mem _ hy))
    have hi := item_len x h1.1 h1.2
    rw [Lx.accum]
    have hif : ((if 0 < k then [44] else [] : List UInt8)).length ≤ 1 := by split <;> simp
    simp only [List.length_append, List.length_cons] at this ⊢
    omega

set_option maxRecDepth 100000 in
set_option maxHeartbeats 8000000 in
theorem labels_walk (A : Option Addr) (n cap : Nat) (zs : List Int) (w : World) (hz : Ints w w.heap.size A n zs) (hn : n ≤ 9223372036854775807) :
    Calls Try.prog 9 #[.slice A n cap] w (Agreed w) := by
  have HSet := Lib.hid (set_any A n cap zs w hz hn)
  clear hz
  go_enter Try.func9, Try.ntmps9
  go_wp2_with fail
  refine HSet.out.mono ?_
  rintro e w1 ⟨A1, c1, ls, rfl, h6, hfine, hlabs, hb1⟩
  have HB1 := Lib.hid hb1
  have HLab1 := Lib.hid hlabs
  have hsz : ∀ x ∈ ls, x.name.length ≤ 16 ∧ x.value.length ≤ 16 := fun x hx => ⟨(hfine x hx).1.2.1, (hfine x hx).2.1⟩
  have HTx := Lib.hid (labText_any A1 c1 ls (by omega) hsz w1 hlabs)
  have hlen : (Lx.labText ls).length ≤ 300 := by
    unfold Lx.labText
    have := accum_len ls 0 [123] hsz
    simp only [List.length_append, List.length_cons, List.length_nil] at this ⊢
    omega
  obtain ⟨te0, tkt⟩ := Lx.lab_toks ls hfine (by omega)
  have hTl : (Lx.toks (Lx.labText ls)).length = 2 + 4 * ls.length - min ls.length 1 := by
    rw [← Lx.labKT_len, ← tkt, List.length_map]
  have HLx := fun W => Lib.hid (lexed_any ⟨(Lx.labText ls).toArray⟩ (by rw [bsz3]; unfold maxLen; simp; omega) W)
  have hdl : (⟨(Lx.labText ls).toArray⟩ : ByteArray).data.toList = Lx.labText ls := rfl
  rw [hdl] at HLx
  unfold Lexed at HLx
  have HKT := Lib.hid tkt
  have HAt := Lib.hid (Lx.labKT_at ls)
  have HLast : Hid ((Lx.labKT ls)[2 + 4 * ls.length - min ls.length 1 - 1]? = some (3, [125])) := Lib.hid (by rw [← Lx.labKT_len]; exact Lx.labKT_last ls)
  have HFirst := Lib.hid (Lx.labKT_first ls)
  rw [te0] at HLx
  generalize Lx.tokAt (Lx.labText ls) = ta at *
  generalize Lx.toks (Lx.labText ls) = T at *
  generalize Lx.labText ls = LT at *
  generalize Lx.labKT ls = KT at *
  obtain ⟨N, hN⟩ : ∃ N, N = T.length := ⟨_, rfl⟩
  have hNv : N = 2 + 4 * ls.length - min ls.length 1 := by rw [hN, hTl]
  rw [← hN] at HLx
  rw [← hNv] at HLast
  have HNl := Lib.hid hN
  clear hb1 hlabs hsz hfine hlen te0 tkt hTl hdl HSet hN
  go_wp2_with fail
  refine HTx.out.mono ?_
  rintro e w2 ⟨rfl, hb2⟩
  have HB2 := Lib.hid (HB1.out.trans (hb2.mono HB1.out.size))
  have HLab2 := Lib.hid (HLab1.out.later hb2)
  clear hb2 HTx HB1 HLab1
  go_wp2_with fail
  refine (HLx _).out.mono ?_
  rintro e w3 ⟨A3, c3, rfl, hr3, hb3⟩
  have HB3 := Lib.hid (HB2.out.trans (hb3.mono HB2.out.size))
  have HLab3 := Lib.hid (HLab2.out.later hb3)
  obtain ⟨g, rfl, hg, hkt⟩ := hr3.kt (by rw [← HNl.out]; omega)
  rw [HKT.out] at hkt
  have HR := Lib.hid hkt
  clear hb3 hr3 hkt HB2 HLab2 HLx
  have f0 : w3.cell? ⟨g, 1, none⟩ = some (.string ⟨#[123]⟩) := (HR.out 0 _ _ HFirst.out).2
  have f1 : w3.cell? ⟨g, (N - 1) * 4 + 1, none⟩ = some (.string ⟨#[125]⟩) := (HR.out (N - 1) _ _ HLast.out).2
  have hN1 : 2 ≤ N := by omega
  have HNv := Lib.hid hNv
  have hb0 : ((N : Int) != 2 + 4 * (ls.length : Int) - min (ls.length : Int) 1) = false := by rw [bne_eq_false_iff_eq]; omega
  have hN2 : N ≤ 100 := by omega
  clear hNv
  go_wp2_with fail
  clear f0 f1 hb0
  go_loopw [7, 8] (fun v7 _ wr => ∃ i m : Nat, v7 = .int .i64 (i : Int) ∧ i ≤ ls.length ∧ wr = w3.drewN m) (fun v _ _ => ls.length - (intOf v).toNat)
  case atStart => exact ⟨0, 0, rfl, Nat.zero_le _, rfl⟩
  case round =>
    obtain ⟨i, m, rfl, hil, rfl⟩ := hrel
    by_cases hlt : i < ls.length
    · obtain ⟨bl, ol, rfl, hbl, hcl⟩ := HLab3.out (by omega)
      obtain ⟨a0, a1, a2, a3⟩ := HAt.out i hlt
      have l0 : (w3.drewN m).cell? ⟨bl, ol + i * 2, none⟩ = _ := (hcl i hlt).1
      have l1 : (w3.drewN m).cell? ⟨bl, ol + i * 2 + 1, none⟩ = _ := (hcl i hlt).2
      have k0 : (w3.drewN m).cell? ⟨g, (1 + 4 * i) * 4, none⟩ = some (.int .i64 0) := (HR.out _ _ _ a0).1
      have k1 : (w3.drewN m).cell? ⟨g, (1 + 4 * i) * 4 + 1, none⟩ = _ := (HR.out _ _ _ a0).2
      have k2 : (w3.drewN m).cell? ⟨g, (1 + 4 * i + 1) * 4 + 1, none⟩ = some (.string ⟨#[61]⟩) := (HR.out _ _ _ a1).2
      have k3 : (w3.drewN m).cell? ⟨g, (1 + 4 * i + 2) * 4, none⟩ = some (.int .i64 2) := (HR.out _ _ _ a2).1
      have k4 : (w3.drewN m).cell? ⟨g, (1 + 4 * i + 2) * 4 + 1, none⟩ = _ := (HR.out _ _ _ a2).2
      have HK5 : Hid (i + 1 < ls.length → (w3.drewN m).cell? ⟨g, (1 + 4 * i + 3) * 4 + 1, none⟩ = some (.string ⟨#[44]⟩)) := Lib.hid (fun h => (HR.out _ _ _ (a3 h)).2)
      have hN4 : 4 * ls.length + 1 ≤ N := by have := HNv.out; omega
      generalize ls[i].name = nm at *
      generalize ls[i].value = vl at *
      obtain ⟨W, hW⟩ : ∃ W, W = w3.drewN m := ⟨_, rfl⟩
      rw [← hW] at l0 l1 k0 k1 k2 k3 k4 HK5
      rw [← hW]
      have HWm := Lib.hid hW
      clear hcl a0 a1 a2 a3 hW
      go_wp2_with fail
      have u1 : IntKind.i64.wrap (1 + 4 * (i : Int) + 1) = 1 + 4 * (i : Int) + 1 := IntWalk.i64_in _ (by omega)
      have u2 : IntKind.i64.wrap (1 + 4 * (i : Int) + 2) = 1 + 4 * (i : Int) + 2 := IntWalk.i64_in _ (by omega)
      have v0 : 0 ≤ 1 + 4 * (i : Int) := by omega
      have v1 : 0 ≤ 1 + 4 * (i : Int) + 1 := by omega
      have v2 : 0 ≤ 1 + 4 * (i : Int) + 2 := by omega
      have x0 : 1 + 4 * (i : Int) < (N : Int) := by omega
      have x1 : 1 + 4 * (i : Int) + 1 < (N : Int) := by omega
      have x2 : 1 + 4 * (i : Int) + 2 < (N : Int) := by omega
      have y0 : (1 + 4 * (i : Int)).toNat = 1 + 4 * i := by omega
      have y1 : (1 + 4 * (i : Int) + 1).toNat = 1 + 4 * i + 1 := by omega
      have y2 : (1 + 4 * (i : Int) + 2).toNat = 1 + 4 * i + 2 := by omega
      have z0 : (i : Int) < (ls.length : Int) := by omega
      go_quiet (fail)
      clear u1 u2 v0 v1 v2 x0 x1 x2 y0 y1 y2 z0 l0 l1 k0 k1 k2 k3 k4
      have HV : Hid (W.drewN nq = w3.drewN (m + nq)) := Lib.hid (by rw [HWm.out]; simp)
      by_cases h1 : i + 1 < ls.length
      · have k5 : (W.drewN nq).cell? ⟨g, (1 + 4 * i + 3) * 4 + 1, none⟩ = some (.string ⟨#[44]⟩) := HK5.out h1
        have hd : decide ((i : Int) + 1 < (ls.length : Int)) = true := by simp; omega
        have hx3 : 1 + 4 * (i : Int) + 3 < (N : Int) := by omega
        generalize W.drewN nq = V at *
        go_wp2_with fail
        go_roundw
        case rel => exact ⟨i + 1, m + nq, by go_num, hlt, HV.out⟩
        case measure => simp [intOf]; omega
      · have hd : decide ((i : Int) + 1 < (ls.length : Int)) = false := by simp; omega
        generalize W.drewN nq = V at *
        go_wp2_with fail
        go_roundw
        case rel => exact ⟨i + 1, m + nq, by go_num, hlt, HV.out⟩
        case measure => simp [intOf]; omega
    · have HBm : Hid (Below w.heap.size w (w3.drewN m)) := Lib.hid ⟨HB3.out.os, HB3.out.tape, HB3.out.output, HB3.out.size, HB3.out.block⟩
      go_wp2_with fail
      refine (lives_any _).mono ?_
      rintro e w6 ⟨rfl, hb6⟩
      have HB6 := Lib.hid (HBm.out.trans (hb6.mono HBm.out.size))
      clear hb6
      go_wp2_with fail
      go_ret
      exact ⟨rfl, HB6.out⟩

end Go.Proofs.Ytdmgacoemabcfaa
