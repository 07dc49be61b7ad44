/- The walks of Pick, Names, values and Set. -/
import Derived.Test.YtdmgacoemabcfaaM2
import Derived.Deep.RegionHeld3
import Derived.Deep.AppendLies
namespace Go.Proofs.Ytdmgacoemabcfaa
open Go.RowKit

def nameOk (l : List UInt8) : Bool := decide (1 ≤ l.length ∧ l.length ≤ 16) && Lx.letter (l.getD 0 0) && l.all Lx.wordc
def valueOk (l : List UInt8) : Bool := decide (l.length ≤ 16) && l.all Lx.valc
theorem name_of_ok {l : List UInt8} (h : nameOk l = true) : Lx.IsName l := by
  unfold nameOk at h
  simp only [Bool.and_eq_true, decide_eq_true_eq] at h
  exact ⟨h.1.1.1, h.1.1.2, h.1.2, fun j hj => by rw [Lx.getD_lt l j hj]; exact List.all_eq_true.1 h.2 _ (List.getElem_mem hj)⟩
theorem value_of_ok {l : List UInt8} (h : valueOk l = true) : Lx.IsValue l := by
  unfold valueOk at h
  simp only [Bool.and_eq_true, decide_eq_true_eq] at h
  exact ⟨h.1, fun j hj => by rw [Lx.getD_lt l j hj]; exact List.all_eq_true.1 h.2 _ (List.getElem_mem hj)⟩

def namesA : Array Value := #[.string ⟨#[97]⟩, .string ⟨#[97, 98]⟩, .string ⟨#[98]⟩, .string ⟨#[106, 111, 98]⟩, .string ⟨#[120, 95, 49]⟩, .string ⟨#[122, 111, 110, 101]⟩]
def valuesA : Array Value := #[.string ⟨#[97]⟩, .string ⟨#[97, 98]⟩, .string ⟨#[98]⟩, .string ⟨#[120, 49]⟩, .string ⟨#[126, 33]⟩, .string ⟨#[48]⟩]
/-- six strings with a property in a block -/
def Six (w : World) (b : Nat) (P : List UInt8 → Prop) : Prop := ∀ k, k < 6 → ∃ x : List UInt8, w.cell? ⟨b, k, none⟩ = some (.string ⟨x.toArray⟩) ∧ P x
def sixOk (p : List UInt8 → Bool) : Value → Bool
  | .string x => p x.data.toList
  | _ => false
theorem Six.of {w : World} {b : Nat} {t : TypeId} {cs : Array Value} {p : List UInt8 → Bool} {P : List UInt8 → Prop} (hp : ∀ l, p l = true → P l) (h : Blk w b t cs) (hn : cs.size = 6) (hall : cs.all (sixOk p) = true) : Six w b P := by
  intro k hk
  have hk' : k < cs.size := by omega
  have h1 := Array.all_eq_true.1 hall k hk'
  have h2 : w.cell? ⟨b, k, none⟩ = some cs[k] := by rw [h.cell k, Array.getElem?_eq_getElem hk']
  cases hv : cs[k] with
  | string x => rw [hv] at h1 h2; exact ⟨x.data.toList, h2, hp _ h1⟩
  | _ => rw [hv] at h1; simp [sixOk] at h1

set_option maxRecDepth 100000 in
theorem names_any (w : World) : Calls Try.prog 27 #[] w fun e w' => e = .returned (.slice (some ⟨w.heap.size, 0, none⟩) 6 6) ∧ w' = w.alloc (.cells namesA 9) := by
  go_enter Try.func27, Try.ntmps27
  go_wp2_with fail
  go_ret
  exact ⟨rfl, rfl⟩
set_option maxRecDepth 100000 in
theorem values_any (w : World) : Calls Try.prog 28 #[] w fun e w' => e = .returned (.slice (some ⟨w.heap.size, 0, none⟩) 6 6) ∧ w' = w.alloc (.cells valuesA 9) := by
  go_enter Try.func28, Try.ntmps28
  go_wp2_with fail
  go_ret
  exact ⟨rfl, rfl⟩

theorem pick_no (A : Option Addr) (n cap : Nat) (k m : Int) (h : (n : Int) ≤ k) (w : World) :
    Calls Try.prog 29 #[.slice A n cap, .int .i64 k, .int .i64 m] w fun e w' => e = .returned (.int .i64 0) ∧ w' = w := by
  have hk0 : decide (k < 0) = false := by simp; omega
  have hg : decide ((n : Int) ≤ k) = true := by simp; omega
  go_enter Try.func29, Try.ntmps29
  go_wp2_with fail
  go_ret
  exact ⟨rfl, rfl⟩
set_option maxHeartbeats 400000 in
theorem pick_yes (b off n cap k : Nat) (kI m z : Int) (hkI : (k : Int) = kI) (h : k < n) (hm : 0 < m) (hm2 : m ≤ 10000) (z1 : -9223372036854775808 ≤ z) (z2 : z ≤ 9223372036854775807) (w : World) (hc : w.cell? ⟨b, off + k, none⟩ = some (.int .i64 z)) :
    Calls Try.prog 29 #[.slice (some ⟨b, off, none⟩) n cap, .int .i64 kI, .int .i64 m] w fun e w' => e = .returned (.int .i64 (around z m)) ∧ w' = w := by
  subst hkI
  have hk0 : decide ((k : Int) < 0) = false := by simp
  have hg : decide ((n : Int) ≤ k) = false := by simp; omega
  have HA := fun W => Lib.hid (around_any z m z1 z2 hm (by omega) W)
  generalize around z m = ar at *
  go_enter Try.func29, Try.ntmps29
  go_wp2_with (go_at_call 15; refine (HA _).out.mono ?_; rintro e w' ⟨rfl, rfl⟩)
  go_ret
  exact ⟨rfl, rfl⟩

def labCells : List Lx.Lab → List Value
  | [] => []
  | x :: xs => .string ⟨x.name.toArray⟩ :: .string ⟨x.value.toArray⟩ :: labCells xs
theorem labCells_append : ∀ a b, labCells (a ++ b) = labCells a ++ labCells b
  | [], b => rfl
  | x :: xs, b => by simp only [List.cons_append, labCells, labCells_append xs b]
theorem labCells_at : ∀ (l : List Lx.Lab) (i : Nat) (h : i < l.length), (labCells l)[i * 2]? = some (.string ⟨l[i].name.toArray⟩) ∧ (labCells l)[i * 2 + 1]? = some (.string ⟨l[i].value.toArray⟩) := by
  intro l
  induction l with
  | nil => intro i h; simp at h
  | cons x xs ih =>
    intro i h
    cases i with
    | zero => simp [labCells]
    | succ i =>
      have := ih i (by simpa using h)
      rw [show (i + 1) * 2 = i * 2 + 2 by omega]
      simp only [labCells]
      exact this
theorem Labs.of_own {w : World} {base n c : Nat} {A : Option Addr} {l : List Lx.Lab} (h : w.ownsRow base 43 2 (.slice A n c) n (labCells l)) (hn : l.length = n) : Labs w w.heap.size A l := by
  intro hp
  rcases h.2 with ⟨_, h0⟩ | ⟨g, cap, cur, hv, _, hb, _⟩
  · omega
  · injection hv with hA hB hC
    subst hA
    refine ⟨g, 0, rfl, (Array.getElem?_eq_some_iff.1 hb).1, fun i hil => ?_⟩
    have hh : w.ownsRow base 43 2 (.slice (some ⟨g, 0, none⟩) n c) n (labCells l) := h
    obtain ⟨a1, a2⟩ := labCells_at l i hil
    rw [Nat.zero_add]
    exact ⟨(hh.cellAt (i * 2) (by omega)).trans a1, (hh.cellAt (i * 2 + 1) (by omega)).trans a2⟩

theorem info43 : (Try.prog.info? 43).map (fun i => (i.zero, i.size, i.bytes)) = some (some (.agg #[.string ⟨#[]⟩, .string ⟨#[]⟩]), 2, 32) := by kernel_rfl

/-- a set of labels in new memory -/
def MadeSet (w : World) (e : Ending) (w' : World) : Prop :=
  ∃ A c ls, e = .returned (.slice A ls.length c) ∧ ls.length ≤ 6 ∧ (∀ x ∈ ls, Lx.Fine x) ∧ Labs w' w'.heap.size A ls ∧ Below w.heap.size w w'

set_option maxRecDepth 100000 in
set_option maxHeartbeats 4000000 in
theorem set_any (A : Option Addr) (n cap : Nat) (zs : List Int) (w : World) (hz : Ints w w.heap.size A n zs) (hn : n ≤ 9223372036854775807) :
    Calls Try.prog 22 #[.slice A n cap] w (MadeSet w) := by
  obtain ⟨i0, hi, hz0, hz1, hz2⟩ := info_parts info43
  obtain ⟨wn, hwn⟩ : ∃ wn, wn = w.alloc (.cells namesA 9) := ⟨_, rfl⟩
  obtain ⟨wv, hwv⟩ : ∃ wv, wv = wn.alloc (.cells valuesA 9) := ⟨_, rfl⟩
  have hsn : wn.heap.size = w.heap.size + 1 := by rw [hwn, World.size_alloc]
  have hsv : wv.heap.size = w.heap.size + 2 := by rw [hwv, World.size_alloc, hsn]
  have hbw : Below w.heap.size w wv := by rw [hwv, hwn]; exact ((Below.refl _ w).alloc (Nat.le_refl _) _).alloc (by simp) _
  have h6n : Six wv w.heap.size Lx.IsName := Six.of (fun _ => name_of_ok) (by rw [hwv, hwn]; exact (Blk.new w 9 namesA).alloc _) rfl (by decide +kernel)
  have h6v : Six wv (w.heap.size + 1) Lx.IsValue := Six.of (fun _ => value_of_ok) (by rw [hwv, ← hsn]; exact Blk.new wn 9 valuesA) rfl (by decide +kernel)
  have HZ := Lib.hid (hz.below hbw)
  have HBW := Lib.hid hbw
  have H6N := Lib.hid h6n
  have H6V := Lib.hid h6v
  have HN := Lib.hid (names_any w)
  have HV := Lib.hid (values_any wn)
  rw [← hwn] at HN
  rw [← hwv, hsn] at HV
  have HSV := Lib.hid hsv
  have hzl := hz.1
  have HZL := Lib.hid hzl
  clear hz hbw h6n h6v hsn hwn hwv hzl
  go_enter Try.func22, Try.ntmps22
  go_wp2_with fail
  refine HN.out.mono ?_
  rintro e w' ⟨rfl, hw⟩
  obtain rfl := hw.symm
  clear hw
  go_wp2_with fail
  refine HV.out.mono ?_
  rintro e w' ⟨rfl, hw⟩
  obtain rfl := hw.symm
  clear hw HN HV
  go_wp2_with fail
  -- the first number says which names
  have HP : Hid (∃ q : Int, 0 ≤ q ∧ q < 64 ∧ Calls Try.prog 29 #[.slice A n cap, .int .i64 0, .int .i64 64] wv fun e w' => e = .returned (.int .i64 q) ∧ w' = wv) := Lib.hid (by
    by_cases h0 : 0 < n
    · obtain ⟨b, off, rfl, hbl, hcell⟩ := HZ.out.2.2 h0
      have hz' : 0 < zs.length := by rw [HZL.out]; exact h0
      obtain ⟨q1, q2⟩ := HZ.out.2.1 _ (List.getElem_mem hz')
      exact ⟨_, around_ge zs[0] 64 (by omega), around_lt zs[0] 64 (by omega), pick_yes b off n cap 0 0 64 zs[0] rfl h0 (by omega) (by omega) q1 q2 wv (hcell 0 hz')⟩
    · exact ⟨0, by omega, by omega, pick_no A n cap 0 64 (by omega) wv⟩)
  obtain ⟨q, q0, q1, hP⟩ := HP.out
  have HP' := Lib.hid hP
  clear hP HP
  refine HP'.out.mono ?_
  rintro e w' ⟨rfl, hw⟩
  obtain rfl := hw.symm
  clear hw HP'
  go_wp2_with fail
  go_loopw [5, 6, 7] (fun v5 v6 v7 wr => ∃ (q : Int) (ls : List Lx.Lab) (i k : Nat) (A6 : Option Addr) (c6 : Nat), v5 = .int .i64 q ∧ 0 ≤ q ∧ q < 64 ∧ v6 = .slice A6 k c6 ∧ v7 = .int .i64 (i : Int) ∧ i ≤ 6 ∧ k ≤ i ∧ Hid (ls.length = k) ∧ Hid (wr.ownsRow (w.heap.size + 2) 43 2 (.slice A6 k c6) k (labCells ls)) ∧ Hid (Below (w.heap.size + 2) wv wr) ∧ Hid (∀ x ∈ ls, Lx.Fine x)) (fun _ _ v _ => 6 - (intOf v).toNat)
  case atStart => exact ⟨q, [], 0, 0, none, 0, rfl, q0, q1, rfl, rfl, by omega, by omega, Lib.hid rfl, Lib.hid ⟨rfl, .inl ⟨rfl, rfl⟩⟩, Lib.hid (Below.refl _ _), Lib.hid (by simp)⟩
  case round =>
    obtain ⟨q, ls, i, k, A6, c6, rfl, q0', q1', rfl, rfl, hi6, hki, HK, HO, HB, HG⟩ := hrel
    have hszr := HB.out.size
    rw [HSV.out] at hszr
    by_cases hlt : i < 6
    · by_cases hq : q % 2 = 1
      · have hqb : (q % 2 == 1) = true := by rw [beq_iff_eq]; exact hq
        have HP : Hid (∃ p : Nat, p < 6 ∧ ∀ W, Below w.heap.size wr W → Calls Try.prog 29 #[.slice A n cap, .int .i64 ((i : Int) + 1), .int .i64 6] W fun e w' => e = .returned (.int .i64 (p : Int)) ∧ w' = W) := Lib.hid (by
          by_cases h0 : i + 1 < n
          · obtain ⟨b, off, rfl, hbl, hcell⟩ := HZ.out.2.2 (by omega)
            have hz' : i + 1 < zs.length := by rw [HZL.out]; exact h0
            obtain ⟨y1, y2⟩ := HZ.out.2.1 _ (List.getElem_mem hz')
            have a0 := around_ge zs[i + 1] 6 (by omega)
            have a1 := around_lt zs[i + 1] 6 (by omega)
            refine ⟨(around zs[i + 1] 6).toNat, by omega, fun W hW => ?_⟩
            rw [show (((around zs[i + 1] 6).toNat : Nat) : Int) = around zs[i + 1] 6 by omega]
            exact pick_yes b off n cap (i + 1) ((i : Int) + 1) 6 zs[i + 1] (by omega) h0 (by omega) (by omega) y1 y2 W ((hW.cell (p := ⟨b, off + (i + 1), none⟩) hbl).trans (((HB.out.mono (by omega)).cell (p := ⟨b, off + (i + 1), none⟩) hbl).trans (hcell (i + 1) hz')))
          · exact ⟨0, by omega, fun W _ => pick_no A n cap ((i : Int) + 1) 6 (by omega) W⟩)
        obtain ⟨p, hp6, hPW⟩ := HP.out
        have HPW := Lib.hid hPW
        clear hPW HP
        obtain ⟨nm, hcn, hnm⟩ := H6N.out i hlt
        obtain ⟨vl, hcv, hvl⟩ := H6V.out p hp6
        have k1 := (HB.out.cell (p := ⟨w.heap.size, i, none⟩) (by show w.heap.size < w.heap.size + 2; omega)).trans hcn
        have k2 := (HB.out.cell (p := ⟨w.heap.size + 1, p, none⟩) (by show w.heap.size + 1 < w.heap.size + 2; omega)).trans hcv
        have HF : Hid (∀ x ∈ ls ++ [⟨nm, vl⟩], Lx.Fine x) := Lib.hid (fun x hx => by
          rcases List.mem_append.1 hx with h | h
          · exact HG.out x h
          · rw [List.mem_singleton] at h
            subst h
            exact ⟨hnm, hvl⟩)
        have ag : (Value.slice A6 k c6).ownBlock ≠ some w.heap.size := fun h => by have := (HO.out.lt _ h).1; omega
        have ar : (Value.slice A6 k c6).ownBlock ≠ some (w.heap.size + 1) := fun h => by have := (HO.out.lt _ h).1; omega
        clear hcn hcv hnm hvl
        go_wp2_with fail
        have wr1 : IntKind.i64.wrap ((i : Int) + 1) = (i : Int) + 1 := IntWalk.i64_in _ (by omega)
        have hy1 : (i : Int) < 6 := by omega
        have hy2 : (p : Int) < 6 := by omega
        go_region_held3 (fun w' => w'.cell? ⟨w.heap.size, i, none⟩ = some (.string ⟨nm.toArray⟩) ∧ w'.cell? ⟨w.heap.size + 1, p, none⟩ = some (.string ⟨vl.toArray⟩))
          (first
            | go_keep
            | (go_split_ands
               refine ⟨?_, ?_⟩
               · (rw [hgrow.cell_far _ (by simp; omega) (Ne.symm ag)]; assumption)
               · (rw [hgrow.cell_far _ (by simp; omega) (Ne.symm ar)]; assumption)))
          (first
            | (go_at_call 29; refine (HPW.out _ ((Below.refl _ wr).drew)).mono ?_; rintro e w' ⟨rfl, hw⟩; obtain rfl := hw.symm; clear hw)
            | (refine step_append_lies _ (by rfl) _ _ _ (by rfl) (w.heap.size + 2) 43 i0 _ 2 32 Try.underlying39 hi hz0 hz1 hz2 rfl (by omega) (.slice A6 k c6) k (labCells ls) (by rfl) ((HO.out.alloc _).drew)
                ⟨wr.heap.size, 0, none⟩ 1 1 [.string ⟨nm.toArray⟩, .string ⟨vl.toArray⟩] (by rfl) (by rfl) (World.news_of_block (cs := #[.string ⟨nm.toArray⟩, .string ⟨vl.toArray⟩]) (t := 43) (fr := (0, 0)) (heap_alloc_new wr _)) (by simp [Value.oneCell'])
                (by omega) (by unfold maxLen; omega) (by omega) (by simp; omega) (wr.heap.size + 1) (by simp) ?_; intro gg cap w1 hown1 hgrow hat hlt'))
        have hsz1 : w.heap.size + 2 ≤ (wr.alloc (.cells #[.string ⟨nm.toArray⟩, .string ⟨vl.toArray⟩] 43)).drew.heap.size := by simp; omega
        have HB1 : Hid (Below (w.heap.size + 2) wv w1) := Lib.hid (((HB.out.alloc hszr _).drew).grown hgrow hsz1 (fun g hg => (HO.out.lt g hg).1))
        have HO1 := Lib.hid hown1
        clear hown1 hgrow hat hlt' hsz1 wr1 hy1 hy2 k1 k2
        go_wp2_with fail
        go_roundw
        case rel => exact ⟨q / 2, ls ++ [⟨nm, vl⟩], i + 1, k + 1, some ⟨gg, 0, none⟩, cap, rfl, by omega, by omega, rfl, by go_num, by omega, by omega, Lib.hid (by simp [HK.out]), Lib.hid (by rw [labCells_append]; exact HO1.out), HB1, HF⟩
        case measure => simp [intOf]; omega
      · have hqb : (q % 2 == 1) = false := by rw [beq_eq_false_iff_ne]; exact hq
        go_wp2_with fail
        go_roundw
        case rel => exact ⟨q / 2, ls, i + 1, k, A6, c6, rfl, by omega, by omega, rfl, by go_num, by omega, by omega, HK, HO, HB, HG⟩
        case measure => simp [intOf]; omega
    · have HL : Hid (Labs wr wr.heap.size A6 ls) := Lib.hid (Labs.of_own HO.out HK.out)
      go_wp2_with fail
      go_ret
      exact ⟨A6, c6, ls, by rw [HK.out]; rfl, by rw [HK.out]; omega, HG.out, HL.out, HBW.out.trans (HB.out.mono (by omega))⟩

end Go.Proofs.Ytdmgacoemabcfaa
