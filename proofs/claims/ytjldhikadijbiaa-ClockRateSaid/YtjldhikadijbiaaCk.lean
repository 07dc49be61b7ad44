/- The plain model of the clock: slack, the least n of a rising property, validity, Ticks, Offset, Agrees; no program in sight. -/
namespace Ck

structure Ex where
  send : Int
  recv : Int
  reading : Int

def slack (d n : Int) : Int := ((n.natAbs : Int) * d + 1023) / 1024

def okEx (x : Ex) : Bool := decide (0 ≤ x.send ∧ x.send ≤ x.recv ∧ x.recv ≤ 1048576 ∧ -1073741824 ≤ x.reading ∧ x.reading ≤ 1073741824)
def valid (d : Int) (l : List Ex) : Bool := decide (0 ≤ d ∧ d ≤ 512 ∧ 1 ≤ l.length ∧ l.length ≤ 16) && l.all okEx

theorem slack_nonneg (d n : Int) (hd : 0 ≤ d) : 0 ≤ slack d n := by
  unfold slack
  have : 0 ≤ (n.natAbs : Int) * d := Int.mul_nonneg (by omega) hd
  omega
theorem slack_zero (d : Int) : slack d 0 = 0 := by simp [slack]
theorem slack_neg (d n : Int) : slack d (-n) = slack d n := by simp [slack]

theorem natAbs_succ (n : Int) : ((n + 1).natAbs : Int) = if 0 ≤ n then (n.natAbs : Int) + 1 else (n.natAbs : Int) - 1 := by
  split <;> omega

/-- from n to n + 1 the slack changes by at most 1 -/
theorem slack_step (d n : Int) (h0 : 0 ≤ d) (h1 : d ≤ 1024) : slack d n - 1 ≤ slack d (n + 1) ∧ slack d (n + 1) ≤ slack d n + 1 := by
  unfold slack
  rw [natAbs_succ]
  have hp : 0 ≤ (n.natAbs : Int) * d := Int.mul_nonneg (by omega) h0
  split
  · rw [Int.add_mul, Int.one_mul]
    omega
  · rw [Int.sub_mul, Int.one_mul]
    omega

theorem up_step (d n : Int) (h0 : 0 ≤ d) (h1 : d ≤ 1024) : n + slack d n ≤ (n + 1) + slack d (n + 1) := by
  have := slack_step d n h0 h1; omega
theorem down_step (d n : Int) (h0 : 0 ≤ d) (h1 : d ≤ 1024) : n - slack d n ≤ (n + 1) - slack d (n + 1) := by
  have := slack_step d n h0 h1; omega
theorem up_mono (d : Int) (h0 : 0 ≤ d) (h1 : d ≤ 1024) (a : Int) (k : Nat) : a + slack d a ≤ (a + k) + slack d (a + k) := by
  induction k with
  | zero => simp
  | succ k ih =>
    have := up_step d (a + k) h0 h1
    rw [show a + ((k + 1 : Nat) : Int) = a + k + 1 by omega]
    omega
theorem down_mono (d : Int) (h0 : 0 ≤ d) (h1 : d ≤ 1024) (a : Int) (k : Nat) : a - slack d a ≤ (a + k) - slack d (a + k) := by
  induction k with
  | zero => simp
  | succ k ih =>
    have := down_step d (a + k) h0 h1
    rw [show a + ((k + 1 : Nat) : Int) = a + k + 1 by omega]
    omega
theorem up_le (d : Int) (h0 : 0 ≤ d) (h1 : d ≤ 1024) {a b : Int} (h : a ≤ b) : a + slack d a ≤ b + slack d b := by
  have := up_mono d h0 h1 a (b - a).toNat
  rw [show a + (((b - a).toNat : Nat) : Int) = b by omega] at this
  exact this
theorem down_le (d : Int) (h0 : 0 ≤ d) (h1 : d ≤ 1024) {a b : Int} (h : a ≤ b) : a - slack d a ≤ b - slack d b := by
  have := down_mono d h0 h1 a (b - a).toNat
  rw [show a + (((b - a).toNat : Nat) : Int) = b by omega] at this
  exact this

/-- r is the least number from lo to hi from which on a property holds up to hi -/
def IsLeast (p : Int → Bool) (lo hi r : Int) : Prop := lo ≤ r ∧ r ≤ hi ∧ (∀ m, lo ≤ m → m < r → p m = false) ∧ (∀ m, r ≤ m → m < hi → p m = true)
theorem IsLeast.unique {p : Int → Bool} {lo hi r s : Int} (h : IsLeast p lo hi r) (k : IsLeast p lo hi s) : r = s := by
  obtain ⟨a1, a2, a3, a4⟩ := h
  obtain ⟨b1, b2, b3, b4⟩ := k
  rcases Int.lt_trichotomy r s with h | h | h
  · have := a4 r (by omega) (by omega); rw [b3 r a1 h] at this; cases this
  · exact h
  · have := b4 s (by omega) (by omega); rw [a3 s b1 h] at this; cases this

/-- the properties that the searches ask -/
def upB (d e n : Int) : Bool := decide (e ≤ n + slack d n)
def downB (d e n : Int) : Bool := decide (e < n - slack d n)
def Rises (p : Int → Bool) : Prop := ∀ a b, a ≤ b → p a = true → p b = true
theorem up_rises (d e : Int) (h0 : 0 ≤ d) (h1 : d ≤ 1024) : Rises (upB d e) := fun a b hab ha => by
  have := up_le d h0 h1 hab
  simp only [upB, decide_eq_true_eq] at ha ⊢
  omega
theorem down_rises (d e : Int) (h0 : 0 ≤ d) (h1 : d ≤ 1024) : Rises (downB d e) := fun a b hab ha => by
  have := down_le d h0 h1 hab
  simp only [downB, decide_eq_true_eq] at ha ⊢
  omega

end Ck
