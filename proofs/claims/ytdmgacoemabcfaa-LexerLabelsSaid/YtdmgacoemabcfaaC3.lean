/- The walks of the generators Source and Clean: each hands back some short string. -/
import Derived.Test.YtdmgacoemabcfaaC2
namespace Go.Proofs.Ytdmgacoemabcfaa
open Go.RowKit

theorem bsz2 (a : Array UInt8) : (ByteArray.mk a).size = a.size := rfl

/-- a slice of ints that came in: its elements zs -/
def Ints (w : World) (B : Nat) (A : Option Addr) (n : Nat) (zs : List Int) : Prop :=
  zs.length = n ∧ (∀ z ∈ zs, -9223372036854775808 ≤ z ∧ z ≤ 9223372036854775807) ∧
  (0 < n → ∃ b off, A = some ⟨b, off, none⟩ ∧ b < B ∧ ∀ i (h : i < zs.length), w.cell? ⟨b, off + i, none⟩ = some (.int .i64 zs[i]))

theorem Ints.below {w w' : World} {B n : Nat} {A : Option Addr} {zs : List Int} (h : Ints w B A n zs) (hb : Below B w w') : Ints w' B A n zs :=
  ⟨h.1, h.2.1, fun hn => by
    obtain ⟨b, off, e, hlt, hc⟩ := h.2.2 hn
    exact ⟨b, off, e, hlt, fun i hi => (hb.cell (p := ⟨b, off + i, none⟩) hlt).trans (hc i hi)⟩⟩

/-- all cells of a block are strings of at most m bytes -/
def Strs (w : World) (b n m : Nat) : Prop := ∀ k, k < n → ∃ x : ByteArray, w.cell? ⟨b, k, none⟩ = some (.string x) ∧ x.size ≤ m

def strOk (m : Nat) : Value → Bool
  | .string x => decide (x.size ≤ m)
  | _ => false
theorem Strs.of {w : World} {b n m : Nat} {t : TypeId} {cs : Array Value} (h : Blk w b t cs) (hn : cs.size = n) (hall : cs.all (strOk m) = true) : Strs w b n m := by
  intro k hk
  have hk' : k < cs.size := by omega
  have h1 := Array.all_eq_true.1 hall k hk'
  have h2 : w.cell? ⟨b, k, none⟩ = some cs[k] := by rw [h.cell k, Array.getElem?_eq_getElem hk']
  cases hv : cs[k] with
  | string x => rw [hv] at h1 h2; exact ⟨x, h2, by simpa [strOk] using h1⟩
  | _ => rw [hv] at h1; simp [strOk] at h1

def SomeString (w : World) (m : Nat) (e : Ending) (w' : World) : Prop := ∃ X : ByteArray, X.size ≤ m ∧ e = .returned (.string X) ∧ Below w.heap.size w w'

def cleanA : Array Value := #[.string ⟨#[97]⟩, .string ⟨#[115, 117, 109]⟩, .string ⟨#[120, 95, 49]⟩, .string ⟨#[48]⟩, .string ⟨#[55]⟩, .string ⟨#[48, 52, 50]⟩, .string ⟨#[49, 48, 55, 51, 55, 52, 49, 56, 50, 52]⟩, .string ⟨#[34, 34]⟩, .string ⟨#[34, 98, 50, 34]⟩, .string ⟨#[43]⟩, .string ⟨#[45]⟩, .string ⟨#[42]⟩, .string ⟨#[47]⟩, .string ⟨#[40]⟩, .string ⟨#[41]⟩, .string ⟨#[123]⟩, .string ⟨#[125]⟩, .string ⟨#[44]⟩, .string ⟨#[46]⟩, .string ⟨#[64]⟩, .string ⟨#[61]⟩, .string ⟨#[33, 61]⟩, .string ⟨#[94, 61]⟩, .string ⟨#[107, 116, 104]⟩, .string ⟨#[98, 121]⟩, .string ⟨#[122, 111, 110, 101]⟩]
def sourceA : Array Value := #[.string ⟨#[97]⟩, .string ⟨#[115, 117, 109]⟩, .string ⟨#[120, 95, 49]⟩, .string ⟨#[48]⟩, .string ⟨#[55]⟩, .string ⟨#[48, 52, 50]⟩, .string ⟨#[49, 48, 55, 51, 55, 52, 49, 56, 50, 52]⟩, .string ⟨#[34, 34]⟩, .string ⟨#[34, 98, 50, 34]⟩, .string ⟨#[43]⟩, .string ⟨#[45]⟩, .string ⟨#[42]⟩, .string ⟨#[47]⟩, .string ⟨#[40]⟩, .string ⟨#[41]⟩, .string ⟨#[123]⟩, .string ⟨#[125]⟩, .string ⟨#[44]⟩, .string ⟨#[46]⟩, .string ⟨#[64]⟩, .string ⟨#[61]⟩, .string ⟨#[33, 61]⟩, .string ⟨#[94, 61]⟩, .string ⟨#[107, 116, 104]⟩, .string ⟨#[98, 121]⟩, .string ⟨#[122, 111, 110, 101]⟩, .string ⟨#[33]⟩, .string ⟨#[94]⟩, .string ⟨#[34]⟩, .string ⟨#[49, 48, 55, 51, 55, 52, 49, 56, 50, 53]⟩, .string ⟨#[97, 98, 99, 100, 101, 102, 103, 104, 105, 106, 107, 108, 109, 110, 111, 112]⟩, .string ⟨#[97, 98, 99, 100, 101, 102, 103, 104, 105, 106, 107, 108, 109, 110, 111, 112, 113]⟩, .string ⟨#[65]⟩, .string ⟨#[95]⟩, .string ⟨#[35]⟩, .string ⟨#[34, 97, 32, 98, 34]⟩, .string ⟨#[34, 97, 98, 99, 100, 101, 102, 103, 104, 105, 106, 107, 108, 109, 110, 111, 112, 113, 34]⟩]
def spacesA : Array Value := #[.string ⟨#[32]⟩, .string ⟨#[]⟩, .string ⟨#[9]⟩, .string ⟨#[10]⟩, .string ⟨#[13, 32]⟩, .string ⟨#[32, 32]⟩]

set_option maxRecDepth 100000 in
set_option maxHeartbeats 2000000 in
theorem clean_any (A : Option Addr) (n cap : Nat) (zs : List Int) (w : World) (hz : Ints w w.heap.size A n zs) (hn : n ≤ 9223372036854775807) :
    Calls Try.prog 12 #[.slice A n cap] w (SomeString w 1200) := by
  have hblk := Strs.of (n := 26) (m := 10) (Blk.new w 9 cleanA) rfl (by decide +kernel)
  have hbel : Below w.heap.size w (w.alloc (.cells cleanA 9)) := (Below.refl _ w).alloc (Nat.le_refl _) _
  have HZ := Lib.hid (hz.below hbel)
  have HB := Lib.hid hbel
  have HK := Lib.hid hblk
  have hzl := hz.1
  clear hblk hbel hz
  unfold cleanA at HZ HB HK
  by_cases h0 : n = 0
  · subst h0
    go_enter Try.func12, Try.ntmps12
    go_wp2_with fail
    refine wp_loop_rounds 1 ?_
    rw [rounds_succ]
    go_wp2_with fail
    go_ret
    exact ⟨⟨#[]⟩, by decide, rfl, HB.out⟩
  · obtain ⟨b, off, rfl, hbl, hcell⟩ := HZ.out.2.2 (by omega)
    have HC := Lib.hid hcell
    have HV := Lib.hid HZ.out.2.1
    clear hcell HZ
    go_enter Try.func12, Try.ntmps12
    go_wp2_with fail
    generalize w.alloc _ = W at *
    go_loop [4, 5, 6] (fun x i _ => ∃ (X : ByteArray) (k : Nat), x = .string X ∧ i = .int .i64 (k : Int) ∧ k ≤ n ∧ k ≤ 30 ∧ X.size ≤ 11 * k) (fun _ i _ => 30 - (intOf i).toNat)
    case atStart => exact ⟨⟨#[]⟩, 0, rfl, rfl, by omega, by omega, by decide⟩
    case round =>
      obtain ⟨X, k, rfl, rfl, hk1, hk2, hX⟩ := hrel
      by_cases hc : k < n ∧ k < 30
      · obtain ⟨hc1, hc2⟩ := hc
        have hkz : k < zs.length := by omega
        have hcl := HC.out k hkz
        obtain ⟨hv1, hv2⟩ := HV.out _ (List.getElem_mem hkz)
        have ha1 := around_ge zs[k] 1000 (by omega)
        have ha2 := around_lt zs[k] 1000 (by omega)
        obtain ⟨nn, hnn⟩ : ∃ nn : Nat, around zs[k] 1000 = (nn : Int) := ⟨(around zs[k] 1000).toNat, by omega⟩
        have hm : nn % 26 < 26 := Nat.mod_lt _ (by omega)
        obtain ⟨x, hx1, hx2⟩ := HK.out (nn % 26) hm
        have HAr := fun W => Lib.hid (around_any zs[k] 1000 hv1 hv2 (by omega) (by omega) W)
        rw [hnn] at HAr ha2
        clear hnn ha1 hv1 hv2
        generalize zs[k] = z at *
        by_cases h8 : nn < 800
        · go_wp2_with (go_at_call 15; refine (HAr _).out.mono ?_; rintro e w' ⟨rfl, rfl⟩)
          go_round
          case rel => exact ⟨_, k + 1, rfl, by go_num, by omega, by omega, by simp only [ByteArray.size_append, bsz2, List.size_toArray, List.length_cons, List.length_nil]; omega⟩
          case measure => simp [intOf]; omega
        · go_wp2_with (go_at_call 15; refine (HAr _).out.mono ?_; rintro e w' ⟨rfl, rfl⟩)
          go_round
          case rel => exact ⟨_, k + 1, rfl, by go_num, by omega, by omega, by simp only [ByteArray.size_append]; omega⟩
          case measure => simp [intOf]; omega
      · by_cases hc1 : k < n
        · have hc2 : ¬ k < 30 := by omega
          go_wp2_with fail
          go_ret
          exact ⟨X, by omega, rfl, HB.out⟩
        · go_wp2_with fail
          go_ret
          exact ⟨X, by omega, rfl, HB.out⟩

set_option maxRecDepth 100000 in
set_option maxHeartbeats 2000000 in
theorem source_any (A : Option Addr) (n cap : Nat) (zs : List Int) (w : World) (hz : Ints w w.heap.size A n zs) (hn : n ≤ 9223372036854775807) :
    Calls Try.prog 11 #[.slice A n cap] w (SomeString w 1200) := by
  have hblk := Strs.of (n := 37) (m := 20) ((Blk.new w 9 sourceA).alloc (.cells spacesA 9)) rfl (by decide +kernel)
  have hbl2 := Blk.new (w.alloc (.cells sourceA 9)) 9 spacesA
  rw [World.size_alloc] at hbl2
  have hblk2 := Strs.of (n := 6) (m := 2) hbl2 rfl (by decide +kernel)
  have hbel : Below w.heap.size w ((w.alloc (.cells sourceA 9)).alloc (.cells spacesA 9)) := ((Below.refl _ w).alloc (Nat.le_refl _) _).alloc (by simp) _
  have HZ := Lib.hid (hz.below hbel)
  have HB := Lib.hid hbel
  have HK := Lib.hid hblk
  have HK2 := Lib.hid hblk2
  have hzl := hz.1
  clear hblk hblk2 hbl2 hbel hz
  unfold sourceA spacesA at HZ HB HK HK2
  by_cases h0 : n = 0
  · subst h0
    go_enter Try.func11, Try.ntmps11
    go_wp2_with fail
    refine wp_loop_rounds 1 ?_
    rw [rounds_succ]
    go_wp2_with fail
    go_ret
    exact ⟨⟨#[]⟩, by decide, rfl, HB.out⟩
  · obtain ⟨b, off, rfl, hbl, hcell⟩ := HZ.out.2.2 (by omega)
    have HC := Lib.hid hcell
    have HV := Lib.hid HZ.out.2.1
    clear hcell HZ
    go_enter Try.func11, Try.ntmps11
    go_wp2_with fail
    generalize (w.alloc _).alloc _ = W at *
    go_loopw [5, 6, 7, 8] (fun x i _ _ wr => ∃ (X : ByteArray) (k m : Nat), x = .string X ∧ i = .int .i64 (k : Int) ∧ k ≤ n ∧ k ≤ 30 ∧ X.size ≤ 22 * k ∧ wr = W.drewN m) (fun _ i _ _ _ => 30 - (intOf i).toNat)
    case atStart => exact ⟨⟨#[]⟩, 0, 0, rfl, rfl, by omega, by omega, by decide, rfl⟩
    case round =>
      obtain ⟨X, k, m, rfl, rfl, hk1, hk2, hX, rfl⟩ := hrel
      have HBm : Hid (Below w.heap.size w (W.drewN m)) := Lib.hid ⟨HB.out.os, HB.out.tape, HB.out.output, HB.out.size, HB.out.block⟩
      by_cases hc : k < n ∧ k < 30
      · obtain ⟨hc1, hc2⟩ := hc
        have hkz : k < zs.length := by omega
        have hcl := HC.out k hkz
        obtain ⟨hv1, hv2⟩ := HV.out _ (List.getElem_mem hkz)
        have ha1 := around_ge zs[k] 1800 (by omega)
        have ha2 := around_lt zs[k] 1800 (by omega)
        obtain ⟨nn, hnn⟩ : ∃ nn : Nat, around zs[k] 1800 = (nn : Int) := ⟨(around zs[k] 1800).toNat, by omega⟩
        have hm6 : nn % 6 < 6 := Nat.mod_lt _ (by omega)
        obtain ⟨y, hy1, hy2⟩ := HK2.out (nn % 6) hm6
        have HAr := fun W => Lib.hid (around_any zs[k] 1800 hv1 hv2 (by omega) (by omega) W)
        rw [hnn] at HAr ha2
        clear hnn ha1 hv1 hv2
        generalize zs[k] = z at *
        have hm6I : (nn : Int) % 6 < 6 := by omega
        by_cases h8 : nn / 6 < 37
        · obtain ⟨x, hx1, hx2⟩ := HK.out (nn / 6) h8
          have h8I : (nn : Int) / 6 < 37 := by omega
          go_wp2_with (go_at_call 15; refine (HAr _).out.mono ?_; rintro e w' ⟨rfl, rfl⟩)
          go_quiet (fail)
          go_wp2_with fail
          go_roundw
          case rel => exact ⟨_, k + 1, _, rfl, by go_num, by omega, by omega, by simp only [ByteArray.size_append]; omega, rfl⟩
          case measure => simp [intOf]; omega
        · have hm26 : nn / 6 % 26 < 26 := Nat.mod_lt _ (by omega)
          obtain ⟨x, hx1, hx2⟩ := HK.out (nn / 6 % 26) (by omega)
          have h8I : (nn : Int) / 6 % 26 < 26 := by omega
          go_wp2_with (go_at_call 15; refine (HAr _).out.mono ?_; rintro e w' ⟨rfl, rfl⟩)
          go_quiet (fail)
          go_wp2_with fail
          go_roundw
          case rel => exact ⟨_, k + 1, _, rfl, by go_num, by omega, by omega, by simp only [ByteArray.size_append]; omega, rfl⟩
          case measure => simp [intOf]; omega
      · by_cases hc1 : k < n
        · have hc2 : ¬ k < 30 := by omega
          go_wp2_with fail
          go_ret
          exact ⟨X, by omega, rfl, HBm.out⟩
        · go_wp2_with fail
          go_ret
          exact ⟨X, by omega, rfl, HBm.out⟩

end Go.Proofs.Ytdmgacoemabcfaa
