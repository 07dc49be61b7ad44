/- The walk of the reference's symbol. -/
import Derived.Test.YtdmgacoemabcfaaA5
namespace Go.Proofs.Ytdmgacoemabcfaa
open Go.RowKit

theorem extract_one (s : ByteArray) (i : Nat) (hi : i < s.size) : s.extract i (i + 1) = ⟨#[s[i]]⟩ := by
  rw [extract_sub, Lx.sub]
  have hl : i < s.data.toList.length := by simpa using hi
  have : i + 1 - i = 1 := by omega
  rw [this, List.drop_eq_getElem_cons hl]
  simp
  rfl

def symL : List UInt8 := [43, 45, 42, 47, 40, 41, 123, 125, 44, 46, 64, 61]
def symAt (k : Nat) : UInt8 := symL.getD k 0
def symA : Array Value := #[.string ⟨#[43]⟩, .string ⟨#[45]⟩, .string ⟨#[42]⟩, .string ⟨#[47]⟩, .string ⟨#[40]⟩, .string ⟨#[41]⟩, .string ⟨#[123]⟩, .string ⟨#[125]⟩, .string ⟨#[44]⟩, .string ⟨#[46]⟩, .string ⟨#[64]⟩, .string ⟨#[61]⟩]
theorem symA_at (k : Nat) (hk : k < 12) : symA[k]? = some (.string ⟨#[symAt k]⟩) := by
  have : k = 0 ∨ k = 1 ∨ k = 2 ∨ k = 3 ∨ k = 4 ∨ k = 5 ∨ k = 6 ∨ k = 7 ∨ k = 8 ∨ k = 9 ∨ k = 10 ∨ k = 11 := by omega
  rcases this with rfl | rfl | rfl | rfl | rfl | rfl | rfl | rfl | rfl | rfl | rfl | rfl <;> rfl
theorem sym1_mem (c : UInt8) : Lx.sym1 c = symL.contains c := by
  unfold Lx.sym1 symL
  simp only [List.contains_cons, List.contains_nil, Bool.or_false, Bool.or_assoc]
theorem sym1_at (c : UInt8) (k : Nat) (hk : k < 12) (h : symAt k = c) : Lx.sym1 c = true := by
  rw [sym1_mem, List.contains_iff_mem, ← h, symAt, List.getD_eq_getElem?_getD, List.getElem?_eq_getElem (show k < symL.length from hk)]
  exact List.getElem_mem _
theorem sym1_of_none (c : UInt8) (h : ∀ k, k < 12 → symAt k ≠ c) : Lx.sym1 c = false := by
  cases hs : Lx.sym1 c with
  | false => rfl
  | true =>
    rw [sym1_mem, List.contains_iff_mem] at hs
    obtain ⟨k, hk, he⟩ := List.getElem_of_mem hs
    refine absurd ?_ (h k hk)
    rw [symAt, List.getD_eq_getElem?_getD, List.getElem?_eq_getElem hk]
    exact he

def SymPost (w : World) (c : UInt8) (e : Ending) (w' : World) : Prop :=
  Below w.heap.size w w' ∧ ((Lx.sym1 c = true ∧ e = .returned (.string ⟨#[c]⟩)) ∨ (Lx.sym1 c = false ∧ e = .returned (.string ⟨#[]⟩)))

set_option maxRecDepth 100000 in
set_option maxHeartbeats 2000000 in
theorem refSymbol_list (s : ByteArray) (i : Nat) (hs : s.size ≤ maxLen) (hi : i < s.size) (c : UInt8) (hc : s[i] = c)
    (h1 : (¬ c = 33 ∧ ¬ c = 94) ∨ s.size ≤ i + 1 ∨ ∃ h : i + 1 < s.size, ((s[i + 1].toNat : Int) == 61) = false) (w : World) :
    Calls Try.prog 39 #[.string s, .int .i64 i] w (SymPost w c) := by
  have he := extract_one s i hi
  rw [hc] at he
  unfold maxLen at hs
  have h5 : ((c == 33) = false ∧ (c == 94) = false) ∨ (c = 33 ∧ decide ((i : Int) + 1 < (s.size : Int)) = false) ∨ (c = 94 ∧ decide ((i : Int) + 1 < (s.size : Int)) = false) ∨ (∃ h : i + 1 < s.size, c = 33 ∧ ((s[i + 1].toNat : Int) == 61) = false) ∨ (∃ h : i + 1 < s.size, c = 94 ∧ ((s[i + 1].toNat : Int) == 61) = false) := by
    rcases h1 with h | h | ⟨h, h'⟩
    · exact .inl ⟨by simpa using h.1, by simpa using h.2⟩
    · by_cases e1 : c = 33
      · exact .inr (.inl ⟨e1, by simp; omega⟩)
      · by_cases e2 : c = 94
        · exact .inr (.inr (.inl ⟨e2, by simp; omega⟩))
        · exact .inl ⟨by simpa using e1, by simpa using e2⟩
    · by_cases e1 : c = 33
      · exact .inr (.inr (.inr (.inl ⟨h, e1, h'⟩)))
      · by_cases e2 : c = 94
        · exact .inr (.inr (.inr (.inr ⟨h, e2, h'⟩)))
        · exact .inl ⟨by simpa using e1, by simpa using e2⟩
  have hAt := symA_at
  have HAt := Lib.hid hAt
  obtain ⟨cc, hcc⟩ : ∃ cc, Hid (cc = c) := ⟨c, Lib.hid rfl⟩
  clear h1 hAt hc
  rcases h5 with ⟨n33, n94⟩ | ⟨rfl, hd⟩ | ⟨rfl, hd⟩ | ⟨hlt, rfl, hd⟩ | ⟨hlt, rfl, hd⟩
  all_goals
    go_enter Try.func39, Try.ntmps39
    go_wp2_with fail
    have hblk : Blk (w.alloc (.cells symA 9)) w.heap.size 9 symA := Blk.new w 9 symA
    have HB : Hid (Below w.heap.size w (w.alloc (.cells symA 9))) := Lib.hid ((Below.refl _ w).alloc (Nat.le_refl _) _)
    unfold symA at hblk HB
    generalize w.alloc _ = W at *
    have HC : Hid (∀ k, k < 12 → W.cell? ⟨w.heap.size, k, none⟩ = some (.string ⟨#[symAt k]⟩)) := Lib.hid (fun k hk => (hblk.cell k).trans (HAt.out k hk))
    clear hblk
    go_loop [7] (fun v => ∃ k : Nat, k ≤ 12 ∧ v = .int .i64 k ∧ Hid (∀ j, j < k → symAt j ≠ cc)) (fun v => 12 - (intOf v).toNat)
    case atStart => exact ⟨0, by omega, rfl, Lib.hid (fun j hj => absurd hj (by omega))⟩
    case round =>
      obtain ⟨k, hk, rfl, HN⟩ := hrel
      by_cases hk12 : k < 12
      · have hcell := HC.out k hk12
        by_cases hsc : symAt k = cc
        · have HF := Lib.hid (hcc.out ▸ sym1_at _ k hk12 hsc)
          have hsc2 : (symAt k == cc) = true := by simpa using hsc
          rw [hcc.out] at hsc2
          clear hsc
          go_wp2_with fail
          all_goals (go_ret; exact ⟨HB.out, .inl ⟨HF.out, rfl⟩⟩)
        · have HSC := Lib.hid hsc
          have hsc2 : (symAt k == cc) = false := by simpa using hsc
          rw [hcc.out] at hsc2
          clear hsc
          go_wp2_with fail
          go_round
          case rel => exact ⟨k + 1, by omega, by go_num, Lib.hid (fun j hj => if h : j < k then HN.out j h else (by have e : j = k := (by omega); subst e; exact HSC.out))⟩
          case measure => simp [intOf]; omega
      · have HF := Lib.hid (hcc.out ▸ sym1_of_none _ (fun j hj => HN.out j (by omega)))
        go_wp2_with fail
        go_ret
        exact ⟨HB.out, .inr ⟨HF.out, rfl⟩⟩

end Go.Proofs.Ytdmgacoemabcfaa
