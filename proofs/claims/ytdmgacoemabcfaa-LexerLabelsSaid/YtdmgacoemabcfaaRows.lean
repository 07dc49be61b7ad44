/-
  No cell of these rows narrows 'for every input' (looked for: loops, veiled, ifaces, maps, wideKeys, modest, calm, conditions, laid).
  DERIVED. THE GIVEN ROWS OF THIS SEAT. 7 by the template 'for every input the law returns true; each argument reads behind the call as it read before'; 0 by the template 'total and deterministic' (their statements: YtdmgacoemabcfaaTotals.lean).
  GIVEN WITH THE SEED: the statements are not yours to turn. If you find one false, say at which input.
  Laid BY PROGRAM, IN A SANDBOX (cutbox-rows.mjs): the forced cells as the released guide's own fill.sh prints them over the translation f6d30f8897579027… (all of the seat's roots in one cut). By AI agents, Wed Nov 11 2026. No macro, syntax, notation, axiom, sorry.
-/
import Derived.Test.YtdmgacoemabcfaaChecked
import GoSem.Claim
import GoSem.ClaimJoined
import GoSem.ClaimMapViews
import Derived.JoinedTies
import Derived.KernelRfl
namespace Go.Proofs.Ytdmgacoemabcfaa
/- THE CELL 'sum', in the pinned program and in every row, IS THE sha256 OF THE DUMP (.gsa) THAT YtdmgacoemabcfaaProg.lean LOADS. Nothing in Lean hashes anything: it is a label: what it is worth is what the hold of that sum in a sandbox is worth. -/
noncomputable def Try.pinned : Pinned := { name := "ytdmgacoemabcfaa", sum := "f6d30f88975790270256aaaef321e0b4b41d07e574169e23e4970f0a189dda86", checked := Try.checked }
namespace Rows
def none {H : Type} : Left H := { results := [], args := [] }

/-- 'intervalmonlaw06.LexerTokens': WHATEVER THE INPUT: true; the input reads as it did. -/
def lexerTokensSpec : ChangeSpec := { name := "lexerTokens", fn := fun _ => fun
  | [d] => { results := [.lit (.bool true)], args := [d] }
  | _ => none }
def lexerTokensRow : OpenClaim := { program := "ytdmgacoemabcfaa", sum := "f6d30f88975790270256aaaef321e0b4b41d07e574169e23e4970f0a189dda86", func := "intervalmon/intervalmonlaw06.LexerTokens", spec := "lexerTokens", inPlace := ["internal/bytealg.IndexByteString"], unfollowed := true, recurses := true, apart := false }
def LexerTokensSaid : Prop := lexerTokensRow.holds Try.pinned (OpenSpec.ofChange lexerTokensSpec)

/-- ITS FALSE NEIGHBOUR: 'it returns false'. Refute it at one input. -/
def lexerTokensWrong : ChangeSpec := { name := "lexerTokens", fn := fun _ => fun
  | [d] => { results := [.lit (.bool false)], args := [d] }
  | _ => none }
def LexerTokensWrongFalsely : Prop := lexerTokensRow.holds Try.pinned (OpenSpec.ofChange lexerTokensWrong)

/-- 'intervalmonlaw06.LexerRaw': WHATEVER THE INPUT: true; the input reads as it did. -/
def lexerRawSpec : ChangeSpec := { name := "lexerRaw", fn := fun _ => fun
  | [d] => { results := [.lit (.bool true)], args := [d] }
  | _ => none }
def lexerRawRow : OpenClaim := { program := "ytdmgacoemabcfaa", sum := "f6d30f88975790270256aaaef321e0b4b41d07e574169e23e4970f0a189dda86", func := "intervalmon/intervalmonlaw06.LexerRaw", spec := "lexerRaw", inPlace := ["internal/bytealg.IndexByteString"], unfollowed := true, recurses := true, apart := false }
def LexerRawSaid : Prop := lexerRawRow.holds Try.pinned (OpenSpec.ofChange lexerRawSpec)

/-- ITS FALSE NEIGHBOUR: 'it returns false'. Refute it at one input. -/
def lexerRawWrong : ChangeSpec := { name := "lexerRaw", fn := fun _ => fun
  | [d] => { results := [.lit (.bool false)], args := [d] }
  | _ => none }
def LexerRawWrongFalsely : Prop := lexerRawRow.holds Try.pinned (OpenSpec.ofChange lexerRawWrong)

/-- 'intervalmonlaw06.LexerLimits': WHATEVER THE INPUT: true; the input reads as it did. -/
def lexerLimitsSpec : ChangeSpec := { name := "lexerLimits", fn := fun _ => fun
  | [d1, d2, d3] => { results := [.lit (.bool true)], args := [d1, d2, d3] }
  | _ => none }
def lexerLimitsRow : OpenClaim := { program := "ytdmgacoemabcfaa", sum := "f6d30f88975790270256aaaef321e0b4b41d07e574169e23e4970f0a189dda86", func := "intervalmon/intervalmonlaw06.LexerLimits", spec := "lexerLimits", inPlace := ["internal/bytealg.IndexByteString"], unfollowed := true, recurses := true, apart := false }
def LexerLimitsSaid : Prop := lexerLimitsRow.holds Try.pinned (OpenSpec.ofChange lexerLimitsSpec)

/-- ITS FALSE NEIGHBOUR: 'it returns false'. Refute it at one input. -/
def lexerLimitsWrong : ChangeSpec := { name := "lexerLimits", fn := fun _ => fun
  | [d1, d2, d3] => { results := [.lit (.bool false)], args := [d1, d2, d3] }
  | _ => none }
def LexerLimitsWrongFalsely : Prop := lexerLimitsRow.holds Try.pinned (OpenSpec.ofChange lexerLimitsWrong)

/-- 'intervalmonlaw06.LexerCovers': WHATEVER THE INPUT: true; the input reads as it did. -/
def lexerCoversSpec : ChangeSpec := { name := "lexerCovers", fn := fun _ => fun
  | [d1, d2] => { results := [.lit (.bool true)], args := [d1, d2] }
  | _ => none }
def lexerCoversRow : OpenClaim := { program := "ytdmgacoemabcfaa", sum := "f6d30f88975790270256aaaef321e0b4b41d07e574169e23e4970f0a189dda86", func := "intervalmon/intervalmonlaw06.LexerCovers", spec := "lexerCovers", inPlace := ["internal/bytealg.IndexByteString"], unfollowed := true, recurses := true, apart := false }
def LexerCoversSaid : Prop := lexerCoversRow.holds Try.pinned (OpenSpec.ofChange lexerCoversSpec)

/-- ITS FALSE NEIGHBOUR: 'it returns false'. Refute it at one input. -/
def lexerCoversWrong : ChangeSpec := { name := "lexerCovers", fn := fun _ => fun
  | [d1, d2] => { results := [.lit (.bool false)], args := [d1, d2] }
  | _ => none }
def LexerCoversWrongFalsely : Prop := lexerCoversRow.holds Try.pinned (OpenSpec.ofChange lexerCoversWrong)

/-- 'intervalmonlaw06.LexerConcatenation': WHATEVER THE INPUT: true; the input reads as it did. -/
def lexerConcatenationSpec : ChangeSpec := { name := "lexerConcatenation", fn := fun _ => fun
  | [d1, d2, d3] => { results := [.lit (.bool true)], args := [d1, d2, d3] }
  | _ => none }
def lexerConcatenationRow : OpenClaim := { program := "ytdmgacoemabcfaa", sum := "f6d30f88975790270256aaaef321e0b4b41d07e574169e23e4970f0a189dda86", func := "intervalmon/intervalmonlaw06.LexerConcatenation", spec := "lexerConcatenation", inPlace := ["internal/bytealg.IndexByteString"], unfollowed := true, recurses := true, apart := false }
def LexerConcatenationSaid : Prop := lexerConcatenationRow.holds Try.pinned (OpenSpec.ofChange lexerConcatenationSpec)

/-- ITS FALSE NEIGHBOUR: 'it returns false'. Refute it at one input. -/
def lexerConcatenationWrong : ChangeSpec := { name := "lexerConcatenation", fn := fun _ => fun
  | [d1, d2, d3] => { results := [.lit (.bool false)], args := [d1, d2, d3] }
  | _ => none }
def LexerConcatenationWrongFalsely : Prop := lexerConcatenationRow.holds Try.pinned (OpenSpec.ofChange lexerConcatenationWrong)

/-- 'intervalmonlaw06.LexerNames': WHATEVER THE INPUT: true; the input reads as it did. -/
def lexerNamesSpec : ChangeSpec := { name := "lexerNames", fn := fun _ => fun
  | [d] => { results := [.lit (.bool true)], args := [d] }
  | _ => none }
def lexerNamesRow : OpenClaim := { program := "ytdmgacoemabcfaa", sum := "f6d30f88975790270256aaaef321e0b4b41d07e574169e23e4970f0a189dda86", func := "intervalmon/intervalmonlaw06.LexerNames", spec := "lexerNames", inPlace := ["internal/bytealg.IndexByteString"], unfollowed := true, recurses := true, apart := false }
def LexerNamesSaid : Prop := lexerNamesRow.holds Try.pinned (OpenSpec.ofChange lexerNamesSpec)

/-- ITS FALSE NEIGHBOUR: 'it returns false'. Refute it at one input. -/
def lexerNamesWrong : ChangeSpec := { name := "lexerNames", fn := fun _ => fun
  | [d] => { results := [.lit (.bool false)], args := [d] }
  | _ => none }
def LexerNamesWrongFalsely : Prop := lexerNamesRow.holds Try.pinned (OpenSpec.ofChange lexerNamesWrong)

/-- 'intervalmonlaw06.LexerLabels': WHATEVER THE INPUT: true; the input reads as it did. -/
def lexerLabelsSpec : ChangeSpec := { name := "lexerLabels", fn := fun _ => fun
  | [d] => { results := [.lit (.bool true)], args := [d] }
  | _ => none }
def lexerLabelsRow : OpenClaim := { program := "ytdmgacoemabcfaa", sum := "f6d30f88975790270256aaaef321e0b4b41d07e574169e23e4970f0a189dda86", func := "intervalmon/intervalmonlaw06.LexerLabels", spec := "lexerLabels", inPlace := ["internal/abi.NoEscape", "internal/bytealg.IndexByteString"], unfollowed := true, recurses := true, apart := false }
def LexerLabelsSaid : Prop := lexerLabelsRow.holds Try.pinned (OpenSpec.ofChange lexerLabelsSpec)

/-- ITS FALSE NEIGHBOUR: 'it returns false'. Refute it at one input. -/
def lexerLabelsWrong : ChangeSpec := { name := "lexerLabels", fn := fun _ => fun
  | [d] => { results := [.lit (.bool false)], args := [d] }
  | _ => none }
def LexerLabelsWrongFalsely : Prop := lexerLabelsRow.holds Try.pinned (OpenSpec.ofChange lexerLabelsWrong)

/- THE SECOND FORM. 'bulk': how many values and letters a reading holds, each counted each time it is reached (what is shared counts as often as it is met; a slice's spare places count too). A statement '..UptoSaid' is the law's where the arguments, and the package variables that the reading takes, are together of bulk at most 1048576: NARROWER than '..Said'. Prove '..Said' where nothing that the law and all that it calls make is longer than what came in: it says more and counts as full. Else prove '..UptoSaid'. A law counts once. -/
mutual
def uptoBulk {H : Type} : DataW H → Nat
  | .lit (.string bytes) => bytes.length + 1
  | .lit _ => 1
  | .nil => 1
  | .ptr d => uptoBulk d + 1
  | .slice elems spare => uptoBulkAll elems + uptoBulkAll spare + 1
  | .agg parts => uptoBulkAll parts + 1
  | .iface _ d => uptoBulk d + 1
  | .map entries => uptoBulkEntries entries + 1
  | .held _ => 1
def uptoBulkAll {H : Type} : List (DataW H) → Nat
  | [] => 0
  | d :: r => uptoBulk d + uptoBulkAll r
def uptoBulkEntries {H : Type} : List (Lit × DataW H) → Nat
  | [] => 0
  | x :: r => uptoBulkEntry x + uptoBulkEntries r
def uptoBulkEntry {H : Type} : Lit × DataW H → Nat
  | (.string bytes, d) => bytes.length + uptoBulk d + 1
  | (_, d) => uptoBulk d + 1
 end
def uptoSmall : (H : Type) → List (DataW H) → Bool := fun _ ds => decide (uptoBulkAll ds ≤ 1048576)
def OpenSpec.upto (s : _root_.Go.ChangeSpec) : _root_.Go.OpenSpec := { _root_.Go.OpenSpec.ofChange s with cond := some uptoSmall }

/-- 'intervalmonlaw06.LexerTokens', WHERE WHAT IT READS IS OF BULK AT MOST 1048576: true; the input reads as it did. -/
def lexerTokensUptoRow : OpenClaim := { program := "ytdmgacoemabcfaa", sum := "f6d30f88975790270256aaaef321e0b4b41d07e574169e23e4970f0a189dda86", func := "intervalmon/intervalmonlaw06.LexerTokens", spec := "lexerTokens", inPlace := ["internal/bytealg.IndexByteString"], unfollowed := true, recurses := true, apart := false, narrowed := true }
def LexerTokensUptoSaid : Prop := lexerTokensUptoRow.holds Try.pinned (OpenSpec.upto lexerTokensSpec)

/-- 'intervalmonlaw06.LexerRaw', WHERE WHAT IT READS IS OF BULK AT MOST 1048576: true; the input reads as it did. -/
def lexerRawUptoRow : OpenClaim := { program := "ytdmgacoemabcfaa", sum := "f6d30f88975790270256aaaef321e0b4b41d07e574169e23e4970f0a189dda86", func := "intervalmon/intervalmonlaw06.LexerRaw", spec := "lexerRaw", inPlace := ["internal/bytealg.IndexByteString"], unfollowed := true, recurses := true, apart := false, narrowed := true }
def LexerRawUptoSaid : Prop := lexerRawUptoRow.holds Try.pinned (OpenSpec.upto lexerRawSpec)

/-- 'intervalmonlaw06.LexerLimits', WHERE WHAT IT READS IS OF BULK AT MOST 1048576: true; the input reads as it did. -/
def lexerLimitsUptoRow : OpenClaim := { program := "ytdmgacoemabcfaa", sum := "f6d30f88975790270256aaaef321e0b4b41d07e574169e23e4970f0a189dda86", func := "intervalmon/intervalmonlaw06.LexerLimits", spec := "lexerLimits", inPlace := ["internal/bytealg.IndexByteString"], unfollowed := true, recurses := true, apart := false, narrowed := true }
def LexerLimitsUptoSaid : Prop := lexerLimitsUptoRow.holds Try.pinned (OpenSpec.upto lexerLimitsSpec)

/-- 'intervalmonlaw06.LexerCovers', WHERE WHAT IT READS IS OF BULK AT MOST 1048576: true; the input reads as it did. -/
def lexerCoversUptoRow : OpenClaim := { program := "ytdmgacoemabcfaa", sum := "f6d30f88975790270256aaaef321e0b4b41d07e574169e23e4970f0a189dda86", func := "intervalmon/intervalmonlaw06.LexerCovers", spec := "lexerCovers", inPlace := ["internal/bytealg.IndexByteString"], unfollowed := true, recurses := true, apart := false, narrowed := true }
def LexerCoversUptoSaid : Prop := lexerCoversUptoRow.holds Try.pinned (OpenSpec.upto lexerCoversSpec)

/-- 'intervalmonlaw06.LexerConcatenation', WHERE WHAT IT READS IS OF BULK AT MOST 1048576: true; the input reads as it did. -/
def lexerConcatenationUptoRow : OpenClaim := { program := "ytdmgacoemabcfaa", sum := "f6d30f88975790270256aaaef321e0b4b41d07e574169e23e4970f0a189dda86", func := "intervalmon/intervalmonlaw06.LexerConcatenation", spec := "lexerConcatenation", inPlace := ["internal/bytealg.IndexByteString"], unfollowed := true, recurses := true, apart := false, narrowed := true }
def LexerConcatenationUptoSaid : Prop := lexerConcatenationUptoRow.holds Try.pinned (OpenSpec.upto lexerConcatenationSpec)

/-- 'intervalmonlaw06.LexerNames', WHERE WHAT IT READS IS OF BULK AT MOST 1048576: true; the input reads as it did. -/
def lexerNamesUptoRow : OpenClaim := { program := "ytdmgacoemabcfaa", sum := "f6d30f88975790270256aaaef321e0b4b41d07e574169e23e4970f0a189dda86", func := "intervalmon/intervalmonlaw06.LexerNames", spec := "lexerNames", inPlace := ["internal/bytealg.IndexByteString"], unfollowed := true, recurses := true, apart := false, narrowed := true }
def LexerNamesUptoSaid : Prop := lexerNamesUptoRow.holds Try.pinned (OpenSpec.upto lexerNamesSpec)

/-- 'intervalmonlaw06.LexerLabels', WHERE WHAT IT READS IS OF BULK AT MOST 1048576: true; the input reads as it did. -/
def lexerLabelsUptoRow : OpenClaim := { program := "ytdmgacoemabcfaa", sum := "f6d30f88975790270256aaaef321e0b4b41d07e574169e23e4970f0a189dda86", func := "intervalmon/intervalmonlaw06.LexerLabels", spec := "lexerLabels", inPlace := ["internal/abi.NoEscape", "internal/bytealg.IndexByteString"], unfollowed := true, recurses := true, apart := false, narrowed := true }
def LexerLabelsUptoSaid : Prop := lexerLabelsUptoRow.holds Try.pinned (OpenSpec.upto lexerLabelsSpec)

end Rows
end Go.Proofs.Ytdmgacoemabcfaa
