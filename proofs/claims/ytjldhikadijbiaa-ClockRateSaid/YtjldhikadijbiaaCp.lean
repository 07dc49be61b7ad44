/- The plain law of Ticks: the reference, which walks by single steps, finds the same ticks. -/
import Derived.Test.YtjldhikadijbiaaCo
namespace Ck

/-- a clock can advance by e over n ticks -/
def canB (d e n : Int) : Bool := decide (((e - n).natAbs : Int) ≤ slack d n)

theorem slack_half (d n : Int) (_h0 : 0 ≤ d) (h1 : d ≤ 512) : 2 * slack d n ≤ (n.natAbs : Int) + 1 := by
  unfold slack
  have p1 : (n.natAbs : Int) * d ≤ (n.natAbs : Int) * 512 := Int.mul_le_mul_of_nonneg_left h1 (by omega)
  omega
theorem slack_mono (d n m : Int) (h0 : 0 ≤ d) (h : (n.natAbs : Int) ≤ m.natAbs) : slack d n ≤ slack d m := by
  unfold slack
  have p1 : (n.natAbs : Int) * d ≤ (m.natAbs : Int) * d := Int.mul_le_mul_of_nonneg_right h h0
  omega

def DownTo (d e r : Int) : Prop := r ≤ e ∧ (∀ m, r ≤ m → m ≤ e → canB d e m = true) ∧ (canB d e (r - 1) = false ∨ 4194304 < ((r - 1).natAbs : Int))
def UpTo (d e r : Int) : Prop := e ≤ r ∧ (∀ m, e ≤ m → m ≤ r → canB d e m = true) ∧ (canB d e (r + 1) = false ∨ 4194304 < ((r + 1).natAbs : Int))

theorem can_up (d e n : Int) (h0 : 0 ≤ d) (h : n ≤ e) : canB d e n = upB d e n := by
  have := slack_nonneg d n h0
  unfold canB upB
  rw [Bool.eq_iff_iff, decide_eq_true_eq, decide_eq_true_eq]
  omega
theorem can_down (d e n : Int) (h0 : 0 ≤ d) (h : e ≤ n) : canB d e n = !downB d e n := by
  have := slack_nonneg d n h0
  unfold canB downB
  rw [Bool.eq_iff_iff, decide_eq_true_eq, Bool.not_eq_true', decide_eq_false_iff_not]
  omega

theorem low_same (d e r s f : Int) (h0 : 0 ≤ d) (h1 : d ≤ 512) (e1 : -2097152 ≤ e) (e2 : e ≤ 2097152) (hr : DownTo d e r) (s1 : s ≤ 1048576) (hf : 0 ≤ f) :
    max f (s + r) = max f (s + lowN d e) := by
  obtain ⟨a, b, c⟩ := hr
  have hru := b r (Int.le_refl _) a
  have hh := slack_half d r h0 h1
  have hcr := hru
  unfold canB at hcr
  rw [decide_eq_true_eq] at hcr
  rw [can_up d e r h0 a] at hru
  rcases c with c | c
  · rw [can_up d e (r - 1) h0 (by omega)] at c
    rw [lowN_eq d e r h0 h1 (by omega) (by omega) hru c]
  · have hle : lowN d e ≤ r := by
      obtain ⟨q1, q2, q3, q4⟩ := lowN_is d e h0 h1
      rcases Int.lt_or_le r (lowN d e) with h | h
      · rw [q3 r (by omega) h] at hru; cases hru
      · exact h
    omega
theorem high_same (d e r s la : Int) (h0 : 0 ≤ d) (h1 : d ≤ 512) (e1 : -2097152 ≤ e) (e2 : e ≤ 2097152) (hr : UpTo d e r) (s1 : 0 ≤ s) (hla : la ≤ 1048576) :
    min la (s + r) = min la (s + highN d e - 1) := by
  obtain ⟨a, b, c⟩ := hr
  have hru := b r a (Int.le_refl _)
  have hh := slack_half d r h0 h1
  have hcr := hru
  unfold canB at hcr
  rw [decide_eq_true_eq] at hcr
  rw [can_down d e r h0 a, Bool.not_eq_true'] at hru
  rcases c with c | c
  · rw [can_down d e (r + 1) h0 (by omega), Bool.not_eq_false'] at c
    rw [highN_eq d e (r + 1) h0 h1 (by omega) (by omega) c (by rw [show r + 1 - 1 = r by omega]; exact hru)]
    omega
  · have hle : r + 1 ≤ highN d e := by
      obtain ⟨q1, q2, q3, q4⟩ := highN_is d e h0 h1
      rcases Int.lt_or_le r (highN d e) with h | h
      · omega
      · rw [q4 r h (by omega)] at hru; cases hru
    omega

theorem tk_clash (d r : Int) : ∀ (l : List Ex) (f la : Int), la < f → tkEnd (tkGo d r f la l) = (0, 0, 13) := by
  intro l
  induction l with
  | nil => intro f la h; simp only [tkGo, tkEnd, if_pos h]
  | cons x xs ih =>
    intro f la h
    rw [tkGo]
    split
    · rfl
    · exact ih _ _ (by omega)

theorem tk_apart (d r f la : Int) (x : Ex) (xs : List Ex) (h0 : 0 ≤ d) (h1 : d ≤ 512) (hf : 0 ≤ f) (hla : la ≤ 1048576) (s1 : 0 ≤ x.send) (s2 : x.send ≤ x.recv) (s3 : x.recv ≤ 1048576)
    (ha : 2097152 < ((r - x.reading).natAbs : Int)) : tkEnd (tkGo d r f la (x :: xs)) = (0, 0, 13) := by
  rw [tkGo]
  split
  · rfl
  · refine tk_clash _ _ _ _ _ ?_
    generalize r - x.reading = e at *
    rcases Int.lt_or_le 0 e with h | h
    · have : 1048576 < lowN d e := by
        obtain ⟨q1, q2, q3, q4⟩ := lowN_is d e h0 h1
        rcases Int.lt_or_le 1048576 (lowN d e) with h' | h'
        · exact h'
        · have hu := q4 (lowN d e) (Int.le_refl _) (by omega)
          have := up_le d h0 (by omega) h'
          have hs := slack_half d 1048576 h0 h1
          unfold upB at hu
          rw [decide_eq_true_eq] at hu
          omega
      omega
    · have : highN d e ≤ -1048576 := by
        obtain ⟨q1, q2, q3, q4⟩ := highN_is d e h0 h1
        rcases Int.lt_or_le (-1048576) (highN d e) with h' | h'
        · have hu := q3 (-1048576) (by omega) h'
          have hs := slack_half d (-1048576) h0 h1
          unfold downB at hu
          rw [decide_eq_false_iff_not] at hu
          omega
        · exact h'
      omega

theorem tk_apart_at (d r f la : Int) (l : List Ex) (k : Nat) (hk : k < l.length) (h0 : 0 ≤ d) (h1 : d ≤ 512) (hf : 0 ≤ f) (hla : la ≤ 1048576) (s1 : 0 ≤ l[k].send) (s2 : l[k].send ≤ l[k].recv) (s3 : l[k].recv ≤ 1048576)
    (ha : 2097152 < ((r - l[k].reading).natAbs : Int)) : tkEnd (tkGo d r f la (l.drop k)) = (0, 0, 13) := by
  rw [List.drop_eq_getElem_cons hk]
  exact tk_apart d r f la _ _ h0 h1 hf hla s1 s2 s3 ha

theorem valid_parts {d : Int} {l : List Ex} (h : valid d l = true) : (0 ≤ d ∧ d ≤ 512 ∧ 1 ≤ l.length ∧ l.length ≤ 16) ∧ ∀ x ∈ l, 0 ≤ x.send ∧ x.send ≤ x.recv ∧ x.recv ≤ 1048576 ∧ -1073741824 ≤ x.reading ∧ x.reading ≤ 1073741824 := by
  unfold valid at h
  rw [Bool.and_eq_true, decide_eq_true_eq] at h
  refine ⟨h.1, fun x hx => ?_⟩
  have := List.all_eq_true.1 h.2 x hx
  unfold okEx at this
  exact of_decide_eq_true this

/-- an exchange from which the reading is too far away -/
theorem ticks_apart (d r : Int) (l : List Ex) (hv : valid d l = true) (k : Nat) (hk : k < l.length) (h : 2097152 < ((r - l[k].reading).natAbs : Int)) (hk0 : k = 0) : ticks d l r = (0, 0, 13) := by
  obtain ⟨⟨d0, d1, l0, l1⟩, hok⟩ := valid_parts hv
  unfold ticks
  rw [if_neg (by simp [hv])]
  split
  · rfl
  · obtain ⟨o1, o2, o3, o4, o5⟩ := hok _ (List.getElem_mem hk)
    have := tk_apart_at d r 0 1048576 l k hk d0 d1 (by omega) (by omega) o1 o2 o3 h
    rw [hk0, List.drop_zero] at this
    exact this

theorem ticks_out_far (d r : Int) (l : List Ex) (hv : valid d l = true) (h : r < -1100000000 ∨ 1100000000 < r) : ticks d l r = (0, 0, 13) := by
  obtain ⟨⟨d0, d1, l0, l1⟩, hok⟩ := valid_parts hv
  obtain ⟨o1, o2, o3, o4, o5⟩ := hok _ (List.getElem_mem (show 0 < l.length by omega))
  exact ticks_apart d r l hv 0 (by omega) (by omega) rfl

/-! Offset: the reference begins with wider bounds -/
theorem of_bounds (d t : Int) (x : Ex) (h0 : 0 ≤ d) (h1 : d ≤ 512) (t0 : 0 ≤ t) (t1 : t ≤ 1048576) (o1 : 0 ≤ x.send) (o2 : x.send ≤ x.recv) (o3 : x.recv ≤ 1048576) (o4 : -1073741824 ≤ x.reading) (o5 : x.reading ≤ 1073741824) :
    -2147483648 ≤ ofLo d t x ∧ ofLo d t x ≤ 2147483648 ∧ -2147483648 ≤ ofHi d t x ∧ ofHi d t x ≤ 2147483648 := by
  have a1 := slack_half d (t - x.recv) h0 h1
  have a2 := slack_nonneg d (t - x.recv) h0
  have a3 := slack_half d (t - x.send) h0 h1
  have a4 := slack_nonneg d (t - x.send) h0
  unfold ofLo ofHi
  omega
theorem of_wider (d t : Int) (l : List Ex) (hv : valid d l = true) (t0 : 0 ≤ t) (t1 : t ≤ 1048576) :
    ofGo d t (-4611686018427387904) 4611686018427387904 l = ofGo d t (-1099511627776) 1099511627776 l := by
  obtain ⟨⟨d0, d1, l0, l1⟩, hok⟩ := valid_parts hv
  cases l with
  | nil => simp at l0
  | cons x xs =>
    obtain ⟨o1, o2, o3, o4, o5⟩ := hok x (List.mem_cons_self ..)
    have := of_bounds d t x d0 d1 t0 t1 o1 o2 o3 o4 o5
    rw [ofGo, ofGo]
    congr 1 <;> omega

end Ck
