/- More of the plain model of the tokenizer. -/
import Derived.Test.YtdmgacoemabcfaaDoorLx
namespace Lx

theorem stepAt_err_pos {l : List UInt8} {i e : Nat} (h : stepAt l i = .error e) : 0 < e := by
  unfold stepAt at h
  simp only at h
  repeat' (split at h)
  all_goals first | (cases h; omega) | cases h

theorem lex_err_pos (l : List UInt8) (i : Nat) (x : Nat × Nat) (h : (lex l i).2 = some x) : 0 < x.2 := by
  induction hn : l.length - i using Nat.strongRecOn generalizing i with
  | _ n ih =>
    by_cases hi : i < l.length
    · cases hw : white l[i] with
      | true => rw [lex_white l i hi hw] at h; exact ih (l.length - (i + 1)) (by omega) (i + 1) h rfl
      | false =>
        cases hs : stepAt l i with
        | error e => rw [lex_err l i hi hw e hs] at h; cases h; exact stepAt_err_pos hs
        | ok t =>
          have ht := stepAt_ends hi hs
          rw [lex_tok l i hi hw t hs] at h
          exact ih (l.length - t.ends) (by omega) t.ends h rfl
    · rw [lex_end l i (by omega)] at h; cases h

end Lx
