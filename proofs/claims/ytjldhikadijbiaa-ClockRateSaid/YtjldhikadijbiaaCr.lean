/- The plain laws of a clock that was made within its drift: it agrees, Ticks and Offset contain it, they say the same, and Ticks grows where less is known. -/
import Derived.Test.YtjldhikadijbiaaCq
namespace Ck

/-- readings of a clock within its drift -/
def GoodR (d : Int) (rs : List Int) : Prop := ∀ i j : Nat, i < rs.length → j < rs.length → ((rs.getD i 0 - rs.getD j 0 - ((i : Int) - j)).natAbs : Int) ≤ slack d ((i : Int) - j)
/-- an exchange that agrees with them -/
def GoodX (rs : List Int) (m : Int) (x : Ex) : Prop := ∃ t : Nat, t < rs.length ∧ 0 ≤ x.send ∧ x.send ≤ t ∧ (t : Int) ≤ x.recv ∧ x.recv ≤ m ∧ x.reading = rs.getD t 0

structure Made (d : Int) (rs : List Int) (m : Int) (xs : List Ex) : Prop where
  d0 : 0 ≤ d
  d1 : d ≤ 512
  len : rs.length = 40
  small : ∀ i : Nat, i < 40 → -2000 ≤ rs.getD i 0 ∧ rs.getD i 0 ≤ 2000
  good : GoodR d rs
  ne : 1 ≤ xs.length
  le : xs.length ≤ 16
  ex : ∀ x ∈ xs, GoodX rs m x
  mm : m ≤ 1048576

def hist (rs : List Int) (t : Nat) : Int := rs.getD (min t 39) 0 + ((t : Int) - (min t 39 : Nat))
theorem hist_lt (rs : List Int) (t : Nat) (h : t < 40) : hist rs t = rs.getD t 0 := by
  unfold hist
  rw [show min t 39 = t by omega]
  omega

/-- what the exchanges let a clock show at a tick -/
def Fits (d t r : Int) (x : Ex) : Prop := ofLo d t x ≤ r ∧ r ≤ ofHi d t x

section
variable {d m : Int} {rs : List Int} {xs : List Ex}
theorem Made.reading (h : Made d rs m xs) {x : Ex} (hx : x ∈ xs) : -2000 ≤ x.reading ∧ x.reading ≤ 2000 := by
  obtain ⟨t, ht, _, _, _, _, e⟩ := h.ex x hx
  rw [e]
  exact h.small t (by rw [h.len] at ht; exact ht)
theorem Made.valid (h : Made d rs m xs) : valid d xs = true := by
  unfold Ck.valid
  rw [decide_eq_true ⟨h.d0, h.d1, h.ne, h.le⟩, Bool.true_and, List.all_eq_true]
  intro x hx
  have hr := h.reading hx
  obtain ⟨t, ht, a1, a2, a3, a4, e⟩ := h.ex x hx
  have := h.mm
  unfold okEx
  exact decide_eq_true (by omega)
theorem Made.fits (h : Made d rs m xs) (t : Nat) {x : Ex} (hx : x ∈ xs) : Fits d t (hist rs t) x := by
  obtain ⟨s, hs, a1, a2, a3, a4, e⟩ := h.ex x hx
  have hs' : s < 40 := by rw [h.len] at hs; exact hs
  have hg := h.good (min t 39) s (by rw [h.len]; omega) hs
  have hm := slack_mono d ((min t 39 : Nat) - (s : Int)) ((t : Int) - s) h.d0 (by omega)
  have h1 := h.d1
  have u := up_le d h.d0 (by omega) (show (t : Int) - s ≤ t - x.send by omega)
  have l := down_le d h.d0 (by omega) (show (t : Int) - x.recv ≤ t - s by omega)
  unfold Fits ofLo ofHi hist
  rw [e]
  omega
theorem Made.drift (h : Made d rs m xs) {d' : Int} (h1 : d ≤ d') (h2 : d' ≤ 512) : Made d' rs m xs := by
  refine ⟨by have := h.d0; omega, h2, h.len, h.small, fun i j hi hj => ?_, h.ne, h.le, h.ex, h.mm⟩
  have a := h.good i j hi hj
  unfold slack at a ⊢
  have : (((i : Int) - j).natAbs : Int) * d ≤ (((i : Int) - j).natAbs : Int) * d' := Int.mul_le_mul_of_nonneg_left h1 (by omega)
  omega
end

theorem low_le (d e n : Int) (h0 : 0 ≤ d) (h1 : d ≤ 512) (n1 : -67108864 ≤ n) (n2 : n < 67108864) : lowN d e ≤ n ↔ e ≤ n + slack d n := by
  obtain ⟨q1, q2, q3, q4⟩ := lowN_is d e h0 h1
  constructor
  · intro h
    have := q4 n h n2
    unfold upB at this
    exact of_decide_eq_true this
  · intro h
    rcases Int.lt_or_le n (lowN d e) with h' | h'
    · have := q3 n n1 h'
      unfold upB at this
      exact absurd h (of_decide_eq_false this)
    · exact h'
theorem lt_high (d e n : Int) (h0 : 0 ≤ d) (h1 : d ≤ 512) (n1 : -67108864 ≤ n) (n2 : n < 67108864) : n < highN d e ↔ n - slack d n ≤ e := by
  obtain ⟨q1, q2, q3, q4⟩ := highN_is d e h0 h1
  constructor
  · intro h
    have := q3 n n1 h
    unfold downB at this
    have := of_decide_eq_false this
    omega
  · intro h
    rcases Int.lt_or_le n (highN d e) with h' | h'
    · exact h'
    · have := q4 n h' n2
      unfold downB at this
      have := of_decide_eq_true this
      omega

theorem tk_char (d r : Int) : ∀ (l : List Ex) (f la : Int), (∀ x ∈ l, far (r - x.reading) = false) → ∃ F L, tkGo d r f la l = some (F, L) ∧
    (∀ t, F ≤ t ↔ f ≤ t ∧ ∀ x ∈ l, x.send + lowN d (r - x.reading) ≤ t) ∧ (∀ t, t ≤ L ↔ t ≤ la ∧ ∀ x ∈ l, t ≤ x.recv + highN d (r - x.reading) - 1) := by
  intro l
  induction l with
  | nil => intro f la _; exact ⟨f, la, rfl, fun t => by simp, fun t => by simp⟩
  | cons x xs ih =>
    intro f la h
    obtain ⟨F, L, e, hF, hL⟩ := ih (max f (x.send + lowN d (r - x.reading))) (min la (x.recv + highN d (r - x.reading) - 1)) (fun y hy => h y (List.mem_cons_of_mem _ hy))
    refine ⟨F, L, by rw [tkGo, if_neg (by rw [h x (List.mem_cons_self ..)]; simp), e], fun t => ?_, fun t => ?_⟩
    · rw [hF t]
      simp only [List.mem_cons, forall_eq_or_imp]
      constructor
      · rintro ⟨a, b⟩; exact ⟨by omega, by omega, b⟩
      · rintro ⟨a, b, c⟩; exact ⟨by omega, c⟩
    · rw [hL t]
      simp only [List.mem_cons, forall_eq_or_imp]
      constructor
      · rintro ⟨a, b⟩; exact ⟨by omega, by omega, b⟩
      · rintro ⟨a, b, c⟩; exact ⟨by omega, c⟩

/-- t is among the ticks of an answer -/
def Among (p : Int × Int × Int) (t : Int) : Prop := p.2.2 = 0 ∧ p.1 ≤ t ∧ t ≤ p.2.1

theorem ticks_char (d r : Int) (l : List Ex) (hv : valid d l = true) (r1 : -10000 ≤ r) (r2 : r ≤ 10000) (hs : ∀ x ∈ l, -10000 ≤ x.reading ∧ x.reading ≤ 10000) :
    (∀ t, 0 ≤ t → t ≤ 1048576 → (Among (ticks d l r) t ↔ ∀ x ∈ l, Fits d t r x)) ∧ ((ticks d l r).2.2 = 0 → 0 ≤ (ticks d l r).1 ∧ (ticks d l r).1 ≤ (ticks d l r).2.1 ∧ (ticks d l r).2.1 ≤ 1048576) := by
  obtain ⟨⟨d0, d1, l0, l1⟩, hok⟩ := valid_parts hv
  obtain ⟨F, L, e, hF, hL⟩ := tk_char d r l 0 1048576 (fun x hx => by
    have := hs x hx
    unfold far
    exact decide_eq_false (by omega))
  have ht : ticks d l r = if L < F then (0, 0, 13) else (F, L, 0) := by
    unfold ticks
    rw [if_neg (by simp [hv]), if_neg (by omega), e]
    rfl
  refine ⟨fun t t0 t1 => ?_, fun h0 => ?_⟩
  · have key : (F ≤ t ∧ t ≤ L) ↔ ∀ x ∈ l, Fits d t r x := by
      rw [hF t, hL t]
      constructor
      · rintro ⟨⟨_, a⟩, _, b⟩ x hx
        obtain ⟨o1, o2, o3, o4, o5⟩ := hok x hx
        have p := (low_le d (r - x.reading) (t - x.send) d0 d1 (by omega) (by omega)).1 (by have := a x hx; omega)
        have q := (lt_high d (r - x.reading) (t - x.recv) d0 d1 (by omega) (by omega)).1 (by have := b x hx; omega)
        unfold Fits ofLo ofHi
        omega
      · intro h
        refine ⟨⟨t0, fun x hx => ?_⟩, t1, fun x hx => ?_⟩
        · obtain ⟨o1, o2, o3, o4, o5⟩ := hok x hx
          have := (low_le d (r - x.reading) (t - x.send) d0 d1 (by omega) (by omega)).2 (by have := (h x hx).2; unfold ofHi at this; omega)
          omega
        · obtain ⟨o1, o2, o3, o4, o5⟩ := hok x hx
          have := (lt_high d (r - x.reading) (t - x.recv) d0 d1 (by omega) (by omega)).2 (by have := (h x hx).1; unfold ofLo at this; omega)
          omega
    rw [← key, ht]
    unfold Among
    by_cases hlt : L < F
    · rw [if_pos hlt]
      constructor
      · rintro ⟨h, _⟩; simp at h
      · rintro ⟨_, _⟩; omega
    · rw [if_neg hlt]
      simp
  · rw [ht] at h0 ⊢
    by_cases hlt : L < F
    · rw [if_pos hlt] at h0; simp at h0
    · rw [if_neg hlt]
      have a := (hF F).1 (Int.le_refl _)
      have b := (hL L).1 (Int.le_refl _)
      exact ⟨a.1, by simp; omega, b.1⟩

theorem of_char (d t : Int) : ∀ (l : List Ex) (lo hi : Int), (∀ v, (ofGo d t lo hi l).1 ≤ v ↔ lo ≤ v ∧ ∀ x ∈ l, ofLo d t x ≤ v) ∧ (∀ v, v ≤ (ofGo d t lo hi l).2 ↔ v ≤ hi ∧ ∀ x ∈ l, v ≤ ofHi d t x) := by
  intro l
  induction l with
  | nil => intro lo hi; exact ⟨fun v => by simp [ofGo], fun v => by simp [ofGo]⟩
  | cons x xs ih =>
    intro lo hi
    obtain ⟨a, b⟩ := ih (max lo (ofLo d t x)) (min hi (ofHi d t x))
    rw [ofGo]
    refine ⟨fun v => ?_, fun v => ?_⟩
    · rw [a v]
      simp only [List.mem_cons, forall_eq_or_imp]
      constructor
      · rintro ⟨a, b⟩; exact ⟨by omega, by omega, b⟩
      · rintro ⟨a, b, c⟩; exact ⟨by omega, c⟩
    · rw [b v]
      simp only [List.mem_cons, forall_eq_or_imp]
      constructor
      · rintro ⟨a, b⟩; exact ⟨by omega, by omega, b⟩
      · rintro ⟨a, b, c⟩; exact ⟨by omega, c⟩

theorem offset_char (d t : Int) (l : List Ex) (hv : valid d l = true) (t0 : 0 ≤ t) (t1 : t ≤ 1048576) (v : Int) (v1 : -10000 ≤ v) (v2 : v ≤ 10000) :
    Among (offset d l t) (v - t) ↔ ∀ x ∈ l, Fits d t v x := by
  obtain ⟨a, b⟩ := of_char d t l (-1099511627776) 1099511627776
  have ht : offset d l t = ofEnd t (ofGo d t (-1099511627776) 1099511627776 l) := by
    unfold offset
    rw [if_neg (by rw [hv]; simp; omega)]
  have key : ((ofGo d t (-1099511627776) 1099511627776 l).1 ≤ v ∧ v ≤ (ofGo d t (-1099511627776) 1099511627776 l).2) ↔ ∀ x ∈ l, Fits d t v x := by
    rw [a v, b v]
    constructor
    · rintro ⟨⟨_, h1⟩, _, h2⟩ x hx
      exact ⟨h1 x hx, h2 x hx⟩
    · intro h
      exact ⟨⟨by omega, fun x hx => (h x hx).1⟩, by omega, fun x hx => (h x hx).2⟩
  rw [← key, ht]
  generalize ofGo d t (-1099511627776) 1099511627776 l = p at *
  unfold Among ofEnd
  by_cases hlt : p.2 < p.1
  · rw [if_pos hlt]
    constructor
    · rintro ⟨h, _⟩; simp at h
    · rintro ⟨_, _⟩; omega
  · rw [if_neg hlt]
    simp only [true_and]
    omega

section
variable {d m : Int} {rs : List Int} {xs : List Ex}
theorem Made.hist_small (h : Made d rs m xs) (t : Nat) (ht : t < 100) : -2000 ≤ hist rs t ∧ hist rs t ≤ 2100 := by
  have := h.small (min t 39) (by omega)
  unfold hist
  omega
theorem Made.ticks_char (h : Made d rs m xs) (r : Int) (r1 : -10000 ≤ r) (r2 : r ≤ 10000) (t : Int) (t0 : 0 ≤ t) (t1 : t ≤ 1048576) : Among (ticks d xs r) t ↔ ∀ x ∈ xs, Fits d t r x :=
  (Ck.ticks_char d r xs h.valid r1 r2 (fun x hx => by have := h.reading hx; omega)).1 t t0 t1
/-- the clock's own reading: its tick is among the ticks -/
theorem Made.ticks_has (h : Made d rs m xs) (t : Nat) (ht : t < 40) : Among (ticks d xs (rs.getD t 0)) t := by
  have := h.small t ht
  rw [h.ticks_char _ (by omega) (by omega) t (by omega) (by omega), ← hist_lt rs t ht]
  exact fun x hx => h.fits t hx
theorem Made.offset_has (h : Made d rs m xs) (t : Nat) (ht : t < 100) : Among (offset d xs t) (hist rs t - t) := by
  have := h.hist_small t ht
  rw [offset_char d t xs h.valid (by omega) (by omega) _ (by omega) (by omega)]
  exact fun x hx => h.fits t hx
theorem Made.dual (h : Made d rs m xs) (t : Nat) (ht : t < 100) (r : Int) (r1 : -10000 ≤ r) (r2 : r ≤ 10000) : Among (ticks d xs r) t ↔ Among (offset d xs t) (r - t) := by
  rw [h.ticks_char r r1 r2 t (by omega) (by omega), offset_char d t xs h.valid (by omega) (by omega) r r1 r2]

theorem Made.wider {d' m' : Int} {ys : List Ex} (h : Made d rs m xs) (h' : Made d' rs m' ys) (hw : ∀ t r : Int, (∀ x ∈ xs, Fits d t r x) → ∀ y ∈ ys, Fits d' t r y) (t : Nat) (ht : t < 40) :
    (ticks d xs (rs.getD t 0)).2.2 = 0 ∧ (ticks d' ys (rs.getD t 0)).2.2 = 0 ∧ (ticks d' ys (rs.getD t 0)).1 ≤ (ticks d xs (rs.getD t 0)).1 ∧ (ticks d xs (rs.getD t 0)).2.1 ≤ (ticks d' ys (rs.getD t 0)).2.1 := by
  have hsm := h.small t ht
  have hA := h.ticks_has t ht
  obtain ⟨b1, b2, b3⟩ := (Ck.ticks_char d (rs.getD t 0) xs h.valid (by omega) (by omega) (fun x hx => by have := h.reading hx; omega)).2 hA.1
  generalize rs.getD t 0 = r at *
  have key : ∀ u, 0 ≤ u → u ≤ 1048576 → Among (ticks d xs r) u → Among (ticks d' ys r) u := fun u u0 u1 hu => by
    rw [h'.ticks_char r (by omega) (by omega) u u0 u1]
    exact hw u r ((h.ticks_char r (by omega) (by omega) u u0 u1).1 hu)
  have k1 := key (ticks d xs r).1 b1 (by omega) ⟨hA.1, by omega, b2⟩
  have k2 := key (ticks d xs r).2.1 (by omega) b3 ⟨hA.1, b2, by omega⟩
  exact ⟨hA.1, k1.1, k1.2.1, k2.2.2⟩

theorem obFind_true (rs : List Int) (first rd : Int) : ∀ (n : Nat) (t : Int) (j : Nat), j < n → rs.getD (t + j - first).toNat 0 = rd → obFind rs first rd n t = true := by
  intro n
  induction n with
  | zero => intro t j h; omega
  | succ n ih =>
    intro t j h e
    rw [obFind]
    by_cases h0 : rs.getD (t - first).toNat 0 = rd
    · rw [if_pos h0]
    · rw [if_neg h0]
      cases j with
      | zero => rw [show t + ((0 : Nat) : Int) - first = t - first by omega] at e; exact absurd e h0
      | succ j => exact ih (t + 1) j (by omega) (by rw [← e]; congr 2; omega)

theorem Made.agrees (h : Made d rs m xs) : agrees d xs 0 rs = true := by
  unfold Ck.agrees
  have hl := h.len
  rw [h.valid, decide_eq_true (by omega), Bool.true_and, Bool.true_and, Bool.and_eq_true, Bool.and_eq_true]
  refine ⟨List.all_eq_true.2 fun z hz => ?_, (steady_iff d rs h.d0).2 fun i hi j hj => ?_, List.all_eq_true.2 fun x hx => ?_⟩
  · obtain ⟨i, hi, rfl⟩ := List.getElem_of_mem hz
    have := h.small i (by omega)
    rw [List.getD_eq_getElem?_getD, List.getElem?_eq_getElem hi, Option.getD_some] at this
    unfold inReach
    exact decide_eq_true (by omega)
  · unfold pairB canB
    exact decide_eq_true (h.good i j hi (by omega))
  · obtain ⟨s, hs, a1, a2, a3, a4, e⟩ := h.ex x hx
    unfold obs
    rw [Bool.or_eq_true]
    refine Or.inr (obFind_true rs 0 x.reading _ _ (s - (max x.send 0).toNat) (by omega) ?_)
    rw [e]
    congr 1
    omega
end

/-- removing one, widening one -/
theorem Made.without {d m : Int} {rs : List Int} {xs : List Ex} (h : Made d rs m xs) (ys : List Ex) (hs : ∀ y ∈ ys, y ∈ xs) (h1 : 1 ≤ ys.length) (h2 : ys.length ≤ 16) : Made d rs m ys :=
  ⟨h.d0, h.d1, h.len, h.small, h.good, h1, h2, fun y hy => h.ex y (hs y hy), h.mm⟩
theorem fits_wider (d t r : Int) (x y : Ex) (h0 : 0 ≤ d) (h1 : d ≤ 512) (e : y.reading = x.reading) (a : y.send ≤ x.send) (b : x.recv ≤ y.recv) (h : Fits d t r x) : Fits d t r y := by
  have u := up_le d h0 (by omega) (show t - x.send ≤ t - y.send by omega)
  have l := down_le d h0 (by omega) (show t - y.recv ≤ t - x.recv by omega)
  unfold Fits ofLo ofHi at *
  omega
theorem fits_drift (d d' t r : Int) (x : Ex) (h : d ≤ d') (hf : Fits d t r x) : Fits d' t r x := by
  have m1 : ((t - x.recv).natAbs : Int) * d ≤ ((t - x.recv).natAbs : Int) * d' := Int.mul_le_mul_of_nonneg_left h (by omega)
  have m2 : ((t - x.send).natAbs : Int) * d ≤ ((t - x.send).natAbs : Int) * d' := Int.mul_le_mul_of_nonneg_left h (by omega)
  unfold Fits ofLo ofHi slack at *
  omega
theorem goodX_wider (rs : List Int) (m m' : Int) (x y : Ex) (e : y.reading = x.reading) (a : y.send ≤ x.send) (a' : 0 ≤ y.send) (b : x.recv ≤ y.recv) (c : y.recv ≤ m') (h : GoodX rs m x) : GoodX rs m' y := by
  obtain ⟨t, h1, h2, h3, h4, h5, h6⟩ := h
  exact ⟨t, h1, a', by omega, by omega, c, by rw [e, h6]⟩

end Ck
