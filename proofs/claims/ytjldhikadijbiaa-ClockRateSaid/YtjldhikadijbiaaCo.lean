/- The plain model of the clock: the examples of the section. -/
import Derived.Test.YtjldhikadijbiaaCn
namespace Ck

theorem lowN_eq (d e r : Int) (h0 : 0 ≤ d) (h1 : d ≤ 512) (r1 : -67108864 ≤ r) (r2 : r < 67108864) (ha : upB d e r = true) (hb : upB d e (r - 1) = false) : lowN d e = r := by
  obtain ⟨a1, a2, a3, a4⟩ := lowN_is d e h0 h1
  rcases Int.lt_trichotomy (lowN d e) r with h | h | h
  · have := up_rises d e h0 (by omega) (lowN d e) (r - 1) (by omega) (a4 _ (Int.le_refl _) (by omega))
    rw [hb] at this; cases this
  · exact h
  · rw [a3 r (by omega) h] at ha; cases ha
theorem highN_eq (d e r : Int) (h0 : 0 ≤ d) (h1 : d ≤ 512) (r1 : -67108864 ≤ r) (r2 : r < 67108864) (ha : downB d e r = true) (hb : downB d e (r - 1) = false) : highN d e = r := by
  obtain ⟨a1, a2, a3, a4⟩ := highN_is d e h0 h1
  rcases Int.lt_trichotomy (highN d e) r with h | h | h
  · have := down_rises d e h0 (by omega) (highN d e) (r - 1) (by omega) (a4 _ (Int.le_refl _) (by omega))
    rw [hb] at this; cases this
  · exact h
  · rw [a3 r (by omega) h] at ha; cases ha

def exA : List Ex := [⟨10, 12, 100⟩]
def exB : List Ex := [⟨0, 0, 5⟩, ⟨9, 9, 5⟩]
theorem ticksA : ticks 512 exA 104 = (13, 21, 0) := by
  have hv : valid 512 exA = true := by decide
  have hl : lowN 512 4 = 3 := lowN_eq _ _ _ (by omega) (by omega) (by omega) (by omega) (by decide) (by decide)
  have hh : highN 512 4 = 10 := highN_eq _ _ _ (by omega) (by omega) (by omega) (by omega) (by decide) (by decide)
  unfold ticks
  rw [if_neg (by rw [hv]; decide), if_neg (by omega)]
  unfold exA
  rw [tkGo, if_neg (by decide)]
  simp only [show (104 : Int) - 100 = 4 from rfl, hl, hh]
  rfl
theorem ticksB : ticks 0 exB 5 = (0, 0, 13) := by
  have hv : valid 0 exB = true := by decide
  have hl : lowN 0 0 = 0 := lowN_eq _ _ _ (by omega) (by omega) (by omega) (by omega) (by decide) (by decide)
  have hh : highN 0 0 = 1 := highN_eq _ _ _ (by omega) (by omega) (by omega) (by omega) (by decide) (by decide)
  unfold ticks
  rw [if_neg (by rw [hv]; decide), if_neg (by omega)]
  unfold exB
  rw [tkGo, if_neg (by decide), tkGo, if_neg (by decide)]
  simp only [show (5 : Int) - 5 = 0 from rfl, hl, hh]
  rfl
theorem offsetA : offset 512 exA 12 = (88, 91, 0) := by decide
theorem agreesA : agrees 512 exA 11 [100, 102, 102] = true := by decide
theorem agreesB : agrees 512 exA 11 [100, 103] = false := by decide

end Ck
