/- The plain model of the clock, fourth part: Agrees. -/
import Derived.Test.YtjldhikadijbiaaCm
namespace Ck

def dn (d : Int) (i : Nat) (r : Int) : Int := 1024 * (r - i) - d * i
def upp (d : Int) (i : Nat) (r : Int) : Int := 1024 * (r - i) + d * i
def stGo (d : Int) : Nat → Int → Int → List Int → Bool
  | _, _, _, [] => true
  | i, le, gr, r :: rs =>
    if 1024 ≤ dn d i r - le ∨ 1024 ≤ gr - upp d i r then false
    else stGo d (i + 1) (min le (dn d i r)) (max gr (upp d i r)) rs
def steady (d : Int) : List Int → Bool
  | [] => true
  | r :: rs => stGo d 1 (dn d 0 r) (upp d 0 r) rs

theorem stGo_bad (d : Int) (le gr : Int) (l : List Int) (k : Nat) (hk : k < l.length) (h : 1024 ≤ dn d k l[k] - le ∨ 1024 ≤ gr - upp d k l[k]) : stGo d k le gr (l.drop k) = false := by
  rw [List.drop_eq_getElem_cons hk, stGo, if_pos h]
theorem stGo_good (d : Int) (le gr : Int) (l : List Int) (k : Nat) (hk : k < l.length) (h : ¬ (1024 ≤ dn d k l[k] - le ∨ 1024 ≤ gr - upp d k l[k])) :
    stGo d k le gr (l.drop k) = stGo d (k + 1) (min le (dn d k l[k])) (max gr (upp d k l[k])) (l.drop (k + 1)) := by
  rw [List.drop_eq_getElem_cons hk, stGo, if_neg h]

def obFind (rs : List Int) (first rd : Int) : Nat → Int → Bool
  | 0, _ => false
  | n + 1, t => if rs.getD (t - first).toNat 0 = rd then true else obFind rs first rd n (t + 1)
def obs (first : Int) (rs : List Int) (x : Ex) : Bool :=
  decide (min x.recv (first + rs.length - 1) < max x.send first) || obFind rs first x.reading (min x.recv (first + rs.length - 1) - max x.send first + 1).toNat (max x.send first)
def observed (l : List Ex) (first : Int) (rs : List Int) : Bool := l.all (obs first rs)

def inReach (r : Int) : Bool := decide (-1099511627776 ≤ r ∧ r ≤ 1099511627776)
def agrees (d : Int) (l : List Ex) (first : Int) (rs : List Int) : Bool :=
  valid d l && decide (0 ≤ first ∧ first ≤ 1048576 ∧ first + rs.length - 1 ≤ 1048576) && rs.all inReach && (steady d rs && observed l first rs)

end Ck
