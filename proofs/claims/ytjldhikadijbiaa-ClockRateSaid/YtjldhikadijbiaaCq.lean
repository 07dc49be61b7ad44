/- The plain law of Agrees: the running bounds of steady say the same as the reference's pairs. -/
import Derived.Test.YtjldhikadijbiaaCp
namespace Ck

def dnAt (d : Int) (l : List Int) (i : Nat) : Int := dn d i (l.getD i 0)
def upAt (d : Int) (l : List Int) (i : Nat) : Int := upp d i (l.getD i 0)
def pairB (d : Int) (l : List Int) (i k : Nat) : Bool := canB d (l.getD i 0 - l.getD k 0) ((i : Int) - k)

theorem pair_iff (d : Int) (l : List Int) (i k : Nat) (_h0 : 0 ≤ d) (h : k ≤ i) : pairB d l i k = true ↔ dnAt d l i - dnAt d l k < 1024 ∧ upAt d l k - upAt d l i < 1024 := by
  unfold pairB canB dnAt upAt dn upp slack
  rw [decide_eq_true_eq]
  have e : (((i : Int) - k).natAbs : Int) = (i : Int) - k := by omega
  rw [e, Int.sub_mul, Int.mul_comm (i : Int) d, Int.mul_comm (k : Int) d]
  generalize d * (i : Int) = a
  generalize d * (k : Int) = b
  generalize l.getD i 0 = x
  generalize l.getD k 0 = y
  omega

def LeOf (f : Nat → Int) (k : Nat) (m : Int) : Prop := (∀ j, j < k → m ≤ f j) ∧ ∃ j, j < k ∧ m = f j
def GrOf (f : Nat → Int) (k : Nat) (m : Int) : Prop := (∀ j, j < k → f j ≤ m) ∧ ∃ j, j < k ∧ m = f j
theorem LeOf.step {f : Nat → Int} {k : Nat} {m : Int} (h : LeOf f k m) : LeOf f (k + 1) (min m (f k)) := by
  obtain ⟨a, j, hj, e⟩ := h
  refine ⟨fun i hi => ?_, ?_⟩
  · rcases Nat.lt_or_ge i k with h' | h'
    · have := a i h'; omega
    · have : i = k := by omega
      subst this; omega
  · rcases Int.lt_or_le (f k) m with h' | h'
    · exact ⟨k, by omega, by omega⟩
    · exact ⟨j, by omega, by omega⟩
theorem GrOf.step {f : Nat → Int} {k : Nat} {m : Int} (h : GrOf f k m) : GrOf f (k + 1) (max m (f k)) := by
  obtain ⟨a, j, hj, e⟩ := h
  refine ⟨fun i hi => ?_, ?_⟩
  · rcases Nat.lt_or_ge i k with h' | h'
    · have := a i h'; omega
    · have : i = k := by omega
      subst this; omega
  · rcases Int.lt_or_le m (f k) with h' | h'
    · exact ⟨k, by omega, by omega⟩
    · exact ⟨j, by omega, by omega⟩

theorem st_iff (d : Int) (l : List Int) (h0 : 0 ≤ d) : ∀ (n k : Nat) (le gr : Int), n = l.length - k → k ≤ l.length → LeOf (dnAt d l) k le → GrOf (upAt d l) k gr →
    (stGo d k le gr (l.drop k) = true ↔ ∀ i, k ≤ i → i < l.length → ∀ j, j < i → pairB d l i j = true) := by
  intro n
  induction n with
  | zero =>
    intro k le gr hn hk _ _
    have : l.drop k = [] := List.drop_of_length_le (by omega)
    rw [this, stGo]
    exact ⟨fun _ i h1 h2 => by omega, fun _ => rfl⟩
  | succ n ih =>
    intro k le gr hn hk hle hgr
    have hlt : k < l.length := by omega
    have ed : dn d k l[k] = dnAt d l k := by unfold dnAt; rw [List.getD_eq_getElem?_getD, List.getElem?_eq_getElem hlt]; rfl
    have eu : upp d k l[k] = upAt d l k := by unfold upAt; rw [List.getD_eq_getElem?_getD, List.getElem?_eq_getElem hlt]; rfl
    have hall : (∀ j, j < k → pairB d l k j = true) ↔ ¬ (1024 ≤ dnAt d l k - le ∨ 1024 ≤ gr - upAt d l k) := by
      obtain ⟨a1, j1, b1, c1⟩ := hle
      obtain ⟨a2, j2, b2, c2⟩ := hgr
      constructor
      · intro h
        have p1 := (pair_iff d l k j1 h0 (by omega)).1 (h j1 b1)
        have p2 := (pair_iff d l k j2 h0 (by omega)).1 (h j2 b2)
        omega
      · intro h j hj
        rw [pair_iff d l k j h0 (by omega)]
        have := a1 j hj
        have := a2 j hj
        omega
    by_cases hb : 1024 ≤ dnAt d l k - le ∨ 1024 ≤ gr - upAt d l k
    · rw [stGo_bad d le gr l k hlt (by rw [ed, eu]; exact hb)]
      constructor
      · intro h; cases h
      · intro h
        exact absurd hb (hall.1 (fun j hj => h k (Nat.le_refl _) hlt j hj))
    · rw [stGo_good d le gr l k hlt (by rw [ed, eu]; exact hb), ed, eu, ih (k + 1) _ _ (by omega) (by omega) hle.step hgr.step]
      constructor
      · intro h i h1 h2 j hj
        rcases Nat.lt_or_ge k i with h' | h'
        · exact h i h' h2 j hj
        · have : i = k := by omega
          subst this
          exact hall.2 hb j hj
      · intro h i h1 h2 j hj
        exact h i (by omega) h2 j hj

theorem steady_iff (d : Int) (l : List Int) (h0 : 0 ≤ d) : steady d l = true ↔ ∀ i, i < l.length → ∀ j, j < i → pairB d l i j = true := by
  cases l with
  | nil => exact ⟨fun _ i h => by simp at h, fun _ => rfl⟩
  | cons a t =>
    have e : steady d (a :: t) = stGo d 1 (dnAt d (a :: t) 0) (upAt d (a :: t) 0) ((a :: t).drop 1) := rfl
    rw [e, st_iff d (a :: t) h0 _ 1 _ _ rfl (by simp)
      ⟨fun j hj => by (have : j = 0 := by omega); subst this; exact Int.le_refl _, 0, by omega, rfl⟩
      ⟨fun j hj => by (have : j = 0 := by omega); subst this; exact Int.le_refl _, 0, by omega, rfl⟩]
    constructor
    · intro h i h2 j hj
      exact h i (by omega) h2 j hj
    · intro h i _ h2 j hj
      exact h i h2 j hj

theorem steady_no (d : Int) (l : List Int) (h0 : 0 ≤ d) (i j : Nat) (hi : i < l.length) (hj : j < i) (h : pairB d l i j = false) : steady d l = false := by
  cases hs : steady d l with
  | false => rfl
  | true => rw [(steady_iff d l h0).1 hs i hi j hj] at h; cases h

end Ck
