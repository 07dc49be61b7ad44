/- The plain model of the clock, third part: Offset. -/
import Derived.Test.YtjldhikadijbiaaCl
namespace Ck

def ofLo (d t : Int) (x : Ex) : Int := x.reading + (t - x.recv) - slack d (t - x.recv)
def ofHi (d t : Int) (x : Ex) : Int := x.reading + (t - x.send) + slack d (t - x.send)
def ofGo (d t : Int) : Int → Int → List Ex → Int × Int
  | lo, hi, [] => (lo, hi)
  | lo, hi, x :: xs => ofGo d t (max lo (ofLo d t x)) (min hi (ofHi d t x)) xs
def ofEnd (t : Int) (p : Int × Int) : Int × Int × Int := if p.2 < p.1 then (0, 0, 13) else (p.1 - t, p.2 - t, 0)
def offset (d : Int) (l : List Ex) (t : Int) : Int × Int × Int :=
  if valid d l = false ∨ t < 0 ∨ 1048576 < t then (0, 0, 1)
  else ofEnd t (ofGo d t (-1099511627776) 1099511627776 l)
theorem ofGo_step (d t lo hi : Int) (l : List Ex) (k : Nat) (hk : k < l.length) :
    ofGo d t lo hi (l.drop k) = ofGo d t (max lo (ofLo d t l[k])) (min hi (ofHi d t l[k])) (l.drop (k + 1)) := by
  rw [List.drop_eq_getElem_cons hk, ofGo]

end Ck
