/- The plain law of the generated clocks: readings whose advance changes within the drift are good. -/
import Derived.Test.YtjldhikadijbiaaCr
namespace Ck

def Runs (d base : Int) (rs : List Int) (a : Int) : Prop :=
  ∃ f : Nat → Int, f 0 = 0 ∧ (∀ i, i < rs.length → -d ≤ f (i + 1) - f i ∧ f (i + 1) - f i ≤ d) ∧ f rs.length = a ∧ ∀ i, i < rs.length → rs.getD i 0 = base + i + f i / 1024

theorem Runs.nil (d base : Int) : Runs d base [] 0 := ⟨fun _ => 0, rfl, fun i h => by simp at h, rfl, fun i h => by simp at h⟩
theorem Runs.snoc {d base a b : Int} {rs : List Int} (h : Runs d base rs a) (h1 : -d ≤ b) (h2 : b ≤ d) : Runs d base (rs ++ [base + (rs.length : Int) + a / 1024]) (a + b) := by
  obtain ⟨f, f0, fs, fe, fr⟩ := h
  refine ⟨fun i => if i ≤ rs.length then f i else a + b, ?_, fun i hi => ?_, ?_, fun i hi => ?_⟩
  · simp [f0]
  · simp only [List.length_append, List.length_cons, List.length_nil] at hi
    rcases Nat.lt_or_ge i rs.length with h' | h'
    · have := fs i h'
      simp only [if_pos (show i + 1 ≤ rs.length by omega), if_pos (show i ≤ rs.length by omega)]
      exact this
    · have e : i = rs.length := by omega
      subst e
      simp only [if_neg (show ¬ rs.length + 1 ≤ rs.length by omega), if_pos (Nat.le_refl rs.length), fe]
      omega
  · simp
    intro h; omega
  · simp only [List.length_append, List.length_cons, List.length_nil] at hi
    rcases Nat.lt_or_ge i rs.length with h' | h'
    · simp only [if_pos (show i ≤ rs.length by omega)]
      rw [← fr i h']
      simp [List.getD_eq_getElem?_getD, List.getElem?_append_left h']
    · have e : i = rs.length := by omega
      subst e
      simp [fe]

theorem run_diff (d : Int) (f : Nat → Int) (n : Nat) (hs : ∀ i, i < n → -d ≤ f (i + 1) - f i ∧ f (i + 1) - f i ≤ d) (i : Nat) : ∀ k : Nat, i + k ≤ n → -(k * d) ≤ f (i + k) - f i ∧ f (i + k) - f i ≤ k * d := by
  intro k
  induction k with
  | zero => intro _; simp
  | succ k ih =>
    intro h
    have a := ih (by omega)
    have b := hs (i + k) (by omega)
    rw [show i + (k + 1) = i + k + 1 by omega]
    have e : ((k + 1 : Nat) : Int) * d = k * d + d := by rw [Int.natCast_add, Int.add_mul]; simp
    rw [e]
    omega

theorem Runs.bound {d base a : Int} {rs : List Int} (h : Runs d base rs a) (d0 : 0 ≤ d) (d1 : d ≤ 512) (hl : rs.length ≤ 40) : -20480 ≤ a ∧ a ≤ 20480 := by
  obtain ⟨f, f0, fs, fe, _⟩ := h
  have := run_diff d f rs.length fs 0 rs.length (by omega)
  rw [Nat.zero_add, fe, f0] at this
  have p : (rs.length : Int) * d ≤ 40 * 512 := Int.mul_le_mul (by omega) d1 d0 (by omega)
  omega

theorem Runs.good {d base a : Int} {rs : List Int} (h : Runs d base rs a) (d0 : 0 ≤ d) (d1 : d ≤ 512) (b1 : -1000 ≤ base) (b2 : base ≤ 1000) (hl : rs.length = 40) :
    GoodR d rs ∧ ∀ i : Nat, i < 40 → -2000 ≤ rs.getD i 0 ∧ rs.getD i 0 ≤ 2000 := by
  obtain ⟨f, f0, fs, fe, fr⟩ := h
  have key : ∀ i j : Nat, i ≤ j → j < rs.length → ((rs.getD j 0 - rs.getD i 0 - ((j : Int) - i)).natAbs : Int) ≤ slack d ((j : Int) - i) := by
    intro i j hij hj
    have hd := run_diff d f rs.length fs i (j - i) (by omega)
    rw [show i + (j - i) = j by omega, show ((j - i : Nat) : Int) = (j : Int) - i by omega] at hd
    rw [fr j hj, fr i (by omega)]
    unfold slack
    rw [show (((j : Int) - i).natAbs : Int) = (j : Int) - i by omega]
    generalize ((j : Int) - i) * d = P at *
    omega
  refine ⟨fun i j hi hj => ?_, fun i hi => ?_⟩
  · rcases Nat.le_total j i with h | h
    · exact key j i h hi
    · have := key i j h hj
      rw [show (i : Int) - j = -((j : Int) - i) by omega, slack_neg]
      omega
  · have hd := run_diff d f rs.length fs 0 i (by omega)
    rw [Nat.zero_add, f0] at hd
    have p : (i : Int) * d ≤ 40 * 512 := Int.mul_le_mul (by omega) d1 d0 (by omega)
    rw [fr i (by omega)]
    omega

/-- Around, Bound -/
def around (n m : Int) : Int := (if n < 0 then -(n + 1) else n) % m
theorem around_ge (n m : Int) (hm : 0 < m) : 0 ≤ around n m := Int.emod_nonneg _ (by omega)
theorem around_lt (n m : Int) (hm : 0 < m) : around n m < m := Int.emod_lt_of_pos _ hm
def bound (n m : Int) : Int := around n (2 * m + 1) - m
theorem bound_in (n m : Int) (hm : 0 ≤ m) : -m ≤ bound n m ∧ bound n m ≤ m := by
  have := around_ge n (2 * m + 1) (by omega)
  have := around_lt n (2 * m + 1) (by omega)
  unfold bound
  omega
def floorF (n : Int) : Int := n / 1024

end Ck
