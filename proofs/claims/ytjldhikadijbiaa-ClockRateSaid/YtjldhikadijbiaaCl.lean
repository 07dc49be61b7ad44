/- The plain model of the clock, second part: Ticks, Offset. -/
import Derived.Test.YtjldhikadijbiaaCk
namespace Ck

def leastFrom (p : Int → Bool) : Nat → Int → Int
  | 0, lo => lo
  | n + 1, lo => if p lo then lo else leastFrom p n (lo + 1)

theorem leastFrom_isLeast (p : Int → Bool) (hp : Rises p) : ∀ (n : Nat) (lo : Int), IsLeast p lo (lo + n) (leastFrom p n lo) := by
  intro n
  induction n with
  | zero => intro lo; exact ⟨by simp [leastFrom], by simp [leastFrom], fun m h1 h2 => by simp [leastFrom] at h2; omega, fun m h1 h2 => by simp [leastFrom] at h1; omega⟩
  | succ n ih =>
    intro lo
    unfold leastFrom
    cases h : p lo with
    | true =>
      simp only [if_true]
      exact ⟨by omega, by omega, fun m h1 h2 => by omega, fun m h1 _ => hp lo m h1 h⟩
    | false =>
      simp only [Bool.false_eq_true, if_false]
      obtain ⟨a1, a2, a3, a4⟩ := ih (lo + 1)
      refine ⟨by omega, by omega, fun m h1 h2 => ?_, fun m h1 h2 => a4 m h1 (by omega)⟩
      rcases Int.lt_or_le m (lo + 1) with h' | h'
      · have : m = lo := by omega
        rw [this]; exact h
      · exact a3 m h' h2

def lowN (d e : Int) : Int := leastFrom (upB d e) 134217728 (-67108864)
def highN (d e : Int) : Int := leastFrom (downB d e) 134217728 (-67108864)
theorem lowN_is (d e : Int) (h0 : 0 ≤ d) (h1 : d ≤ 512) : IsLeast (upB d e) (-67108864) 67108864 (lowN d e) := leastFrom_isLeast _ (up_rises d e h0 (by omega)) 134217728 (-67108864)
theorem highN_is (d e : Int) (h0 : 0 ≤ d) (h1 : d ≤ 512) : IsLeast (downB d e) (-67108864) 67108864 (highN d e) := leastFrom_isLeast _ (down_rises d e h0 (by omega)) 134217728 (-67108864)

def far (e : Int) : Bool := decide (e < -16777216 ∨ 16777216 < e)

def tkGo (d r : Int) : Int → Int → List Ex → Option (Int × Int)
  | f, la, [] => some (f, la)
  | f, la, x :: xs => if far (r - x.reading) then none else tkGo d r (max f (x.send + lowN d (r - x.reading))) (min la (x.recv + highN d (r - x.reading) - 1)) xs

def tkEnd : Option (Int × Int) → Int × Int × Int
  | none => (0, 0, 13)
  | some x => if x.2 < x.1 then (0, 0, 13) else (x.1, x.2, 0)

/-- what Ticks answers: the first tick, the last, the error -/
def ticks (d : Int) (l : List Ex) (r : Int) : Int × Int × Int :=
  if valid d l = false then (0, 0, 1)
  else if r < -1099511627776 ∨ 1099511627776 < r then (0, 0, 13)
  else tkEnd (tkGo d r 0 1048576 l)

theorem tkGo_far (d r f la : Int) (l : List Ex) (k : Nat) (hk : k < l.length) (h : far (r - l[k].reading) = true) : tkGo d r f la (l.drop k) = none := by
  rw [List.drop_eq_getElem_cons hk, tkGo, if_pos h]
theorem tkGo_near (d r f la : Int) (l : List Ex) (k : Nat) (hk : k < l.length) (h : far (r - l[k].reading) = false) :
    tkGo d r f la (l.drop k) = tkGo d r (max f (l[k].send + lowN d (r - l[k].reading))) (min la (l[k].recv + highN d (r - l[k].reading) - 1)) (l.drop (k + 1)) := by
  rw [List.drop_eq_getElem_cons hk, tkGo, if_neg (by simp [h])]

end Ck
