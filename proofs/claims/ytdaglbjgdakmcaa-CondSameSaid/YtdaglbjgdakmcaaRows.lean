/-
  No cell of these rows narrows 'for every input' (looked for: loops, veiled, ifaces, maps, wideKeys, modest, calm, conditions, laid).
  DERIVED. THE GIVEN ROWS OF THIS SEAT. 5 by the template 'for every input the law returns true; each argument reads behind the call as it read before'; 0 by the template 'total and deterministic' (their statements: YtdaglbjgdakmcaaTotals.lean).
  GIVEN WITH THE SEED: the statements are not yours to turn. If you find one false, say at which input.
  Laid BY PROGRAM, IN A SANDBOX (cutbox-rows.mjs): the forced cells as the released guide's own fill.sh prints them over the translation 43d71cdd942d3f39… (all of the seat's roots in one cut). By AI agents, Wed Nov 11 2026. No macro, syntax, notation, axiom, sorry.
-/
import Derived.Test.YtdaglbjgdakmcaaChecked
import GoSem.Claim
import GoSem.ClaimJoined
import GoSem.ClaimMapViews
import Derived.JoinedTies
import Derived.KernelRfl
namespace Go.Proofs.Ytdaglbjgdakmcaa
/- THE CELL 'sum', in the pinned program and in every row, IS THE sha256 OF THE DUMP (.gsa) THAT YtdaglbjgdakmcaaProg.lean LOADS. Nothing in Lean hashes anything: it is a label: what it is worth is what the hold of that sum in a sandbox is worth. -/
noncomputable def Try.pinned : Pinned := { name := "ytdaglbjgdakmcaa", sum := "43d71cdd942d3f39f8ca7878479dc8f104bd8e44e1d9e78cdd63f7a14fcbfbdf", checked := Try.checked }
namespace Rows
def none {H : Type} : Left H := { results := [], args := [] }

/-- 'publisherlaw17.CondEvals': WHATEVER THE INPUT: true; the input reads as it did. -/
def condEvalsSpec : ChangeSpec := { name := "condEvals", fn := fun _ => fun
  | [d1, d2] => { results := [.lit (.bool true)], args := [d1, d2] }
  | _ => none }
def condEvalsRow : OpenClaim := { program := "ytdaglbjgdakmcaa", sum := "43d71cdd942d3f39f8ca7878479dc8f104bd8e44e1d9e78cdd63f7a14fcbfbdf", func := "publisher/publisherlaw17.CondEvals", spec := "condEvals", inPlace := ["internal/abi.NoEscape"], unfollowed := true, recurses := true, apart := false }
def CondEvalsSaid : Prop := condEvalsRow.holds Try.pinned (OpenSpec.ofChange condEvalsSpec)

/-- ITS FALSE NEIGHBOUR: 'it returns false'. Refute it at one input. -/
def condEvalsWrong : ChangeSpec := { name := "condEvals", fn := fun _ => fun
  | [d1, d2] => { results := [.lit (.bool false)], args := [d1, d2] }
  | _ => none }
def CondEvalsWrongFalsely : Prop := condEvalsRow.holds Try.pinned (OpenSpec.ofChange condEvalsWrong)

/-- 'publisherlaw17.CondNames': WHATEVER THE INPUT: true; the input reads as it did. -/
def condNamesSpec : ChangeSpec := { name := "condNames", fn := fun _ => fun
  | [d] => { results := [.lit (.bool true)], args := [d] }
  | _ => none }
def condNamesRow : OpenClaim := { program := "ytdaglbjgdakmcaa", sum := "43d71cdd942d3f39f8ca7878479dc8f104bd8e44e1d9e78cdd63f7a14fcbfbdf", func := "publisher/publisherlaw17.CondNames", spec := "condNames", inPlace := ["internal/abi.NoEscape"], unfollowed := true, recurses := true, apart := false }
def CondNamesSaid : Prop := condNamesRow.holds Try.pinned (OpenSpec.ofChange condNamesSpec)

/-- ITS FALSE NEIGHBOUR: 'it returns false'. Refute it at one input. -/
def condNamesWrong : ChangeSpec := { name := "condNames", fn := fun _ => fun
  | [d] => { results := [.lit (.bool false)], args := [d] }
  | _ => none }
def CondNamesWrongFalsely : Prop := condNamesRow.holds Try.pinned (OpenSpec.ofChange condNamesWrong)

/-- 'publisherlaw17.CondNormals': WHATEVER THE INPUT: true; the input reads as it did. -/
def condNormalsSpec : ChangeSpec := { name := "condNormals", fn := fun _ => fun
  | [d] => { results := [.lit (.bool true)], args := [d] }
  | _ => none }
def condNormalsRow : OpenClaim := { program := "ytdaglbjgdakmcaa", sum := "43d71cdd942d3f39f8ca7878479dc8f104bd8e44e1d9e78cdd63f7a14fcbfbdf", func := "publisher/publisherlaw17.CondNormals", spec := "condNormals", inPlace := ["internal/abi.NoEscape"], unfollowed := true, recurses := true, apart := false }
def CondNormalsSaid : Prop := condNormalsRow.holds Try.pinned (OpenSpec.ofChange condNormalsSpec)

/-- ITS FALSE NEIGHBOUR: 'it returns false'. Refute it at one input. -/
def condNormalsWrong : ChangeSpec := { name := "condNormals", fn := fun _ => fun
  | [d] => { results := [.lit (.bool false)], args := [d] }
  | _ => none }
def CondNormalsWrongFalsely : Prop := condNormalsRow.holds Try.pinned (OpenSpec.ofChange condNormalsWrong)

/-- 'publisherlaw17.CondSame': WHATEVER THE INPUT: true; the input reads as it did. -/
def condSameSpec : ChangeSpec := { name := "condSame", fn := fun _ => fun
  | [d1, d2] => { results := [.lit (.bool true)], args := [d1, d2] }
  | _ => none }
def condSameRow : OpenClaim := { program := "ytdaglbjgdakmcaa", sum := "43d71cdd942d3f39f8ca7878479dc8f104bd8e44e1d9e78cdd63f7a14fcbfbdf", func := "publisher/publisherlaw17.CondSame", spec := "condSame", inPlace := ["internal/abi.NoEscape"], unfollowed := true, recurses := true, apart := false }
def CondSameSaid : Prop := condSameRow.holds Try.pinned (OpenSpec.ofChange condSameSpec)

/-- ITS FALSE NEIGHBOUR: 'it returns false'. Refute it at one input. -/
def condSameWrong : ChangeSpec := { name := "condSame", fn := fun _ => fun
  | [d1, d2] => { results := [.lit (.bool false)], args := [d1, d2] }
  | _ => none }
def CondSameWrongFalsely : Prop := condSameRow.holds Try.pinned (OpenSpec.ofChange condSameWrong)

/-- 'publisherlaw17.CondLaws': WHATEVER THE INPUT: true; the input reads as it did. -/
def condLawsSpec : ChangeSpec := { name := "condLaws", fn := fun _ => fun
  | [d1, d2, d3] => { results := [.lit (.bool true)], args := [d1, d2, d3] }
  | _ => none }
def condLawsRow : OpenClaim := { program := "ytdaglbjgdakmcaa", sum := "43d71cdd942d3f39f8ca7878479dc8f104bd8e44e1d9e78cdd63f7a14fcbfbdf", func := "publisher/publisherlaw17.CondLaws", spec := "condLaws", inPlace := ["internal/abi.NoEscape"], unfollowed := true, recurses := true, apart := false }
def CondLawsSaid : Prop := condLawsRow.holds Try.pinned (OpenSpec.ofChange condLawsSpec)

/-- ITS FALSE NEIGHBOUR: 'it returns false'. Refute it at one input. -/
def condLawsWrong : ChangeSpec := { name := "condLaws", fn := fun _ => fun
  | [d1, d2, d3] => { results := [.lit (.bool false)], args := [d1, d2, d3] }
  | _ => none }
def CondLawsWrongFalsely : Prop := condLawsRow.holds Try.pinned (OpenSpec.ofChange condLawsWrong)

/- THE SECOND FORM. 'bulk': how many values and letters a reading holds, each counted each time it is reached (what is shared counts as often as it is met; a slice's spare places count too). A statement '..UptoSaid' is the law's where the arguments, and the package variables that the reading takes, are together of bulk at most 1048576: NARROWER than '..Said'. Prove '..Said' where nothing that the law and all that it calls make is longer than what came in: it says more and counts as full. Else prove '..UptoSaid'. A law counts once. -/
mutual
def uptoBulk {H : Type} : DataW H → Nat
  | .lit (.string bytes) => bytes.length + 1
  | .lit _ => 1
  | .nil => 1
  | .ptr d => uptoBulk d + 1
  | .slice elems spare => uptoBulkAll elems + uptoBulkAll spare + 1
  | .agg parts => uptoBulkAll parts + 1
  | .iface _ d => uptoBulk d + 1
  | .map entries => uptoBulkEntries entries + 1
  | .held _ => 1
def uptoBulkAll {H : Type} : List (DataW H) → Nat
  | [] => 0
  | d :: r => uptoBulk d + uptoBulkAll r
def uptoBulkEntries {H : Type} : List (Lit × DataW H) → Nat
  | [] => 0
  | x :: r => uptoBulkEntry x + uptoBulkEntries r
def uptoBulkEntry {H : Type} : Lit × DataW H → Nat
  | (.string bytes, d) => bytes.length + uptoBulk d + 1
  | (_, d) => uptoBulk d + 1
 end
def uptoSmall : (H : Type) → List (DataW H) → Bool := fun _ ds => decide (uptoBulkAll ds ≤ 1048576)
def OpenSpec.upto (s : _root_.Go.ChangeSpec) : _root_.Go.OpenSpec := { _root_.Go.OpenSpec.ofChange s with cond := some uptoSmall }

/-- 'publisherlaw17.CondEvals', WHERE WHAT IT READS IS OF BULK AT MOST 1048576: true; the input reads as it did. -/
def condEvalsUptoRow : OpenClaim := { program := "ytdaglbjgdakmcaa", sum := "43d71cdd942d3f39f8ca7878479dc8f104bd8e44e1d9e78cdd63f7a14fcbfbdf", func := "publisher/publisherlaw17.CondEvals", spec := "condEvals", inPlace := ["internal/abi.NoEscape"], unfollowed := true, recurses := true, apart := false, narrowed := true }
def CondEvalsUptoSaid : Prop := condEvalsUptoRow.holds Try.pinned (OpenSpec.upto condEvalsSpec)

/-- 'publisherlaw17.CondNames', WHERE WHAT IT READS IS OF BULK AT MOST 1048576: true; the input reads as it did. -/
def condNamesUptoRow : OpenClaim := { program := "ytdaglbjgdakmcaa", sum := "43d71cdd942d3f39f8ca7878479dc8f104bd8e44e1d9e78cdd63f7a14fcbfbdf", func := "publisher/publisherlaw17.CondNames", spec := "condNames", inPlace := ["internal/abi.NoEscape"], unfollowed := true, recurses := true, apart := false, narrowed := true }
def CondNamesUptoSaid : Prop := condNamesUptoRow.holds Try.pinned (OpenSpec.upto condNamesSpec)

/-- 'publisherlaw17.CondNormals', WHERE WHAT IT READS IS OF BULK AT MOST 1048576: true; the input reads as it did. -/
def condNormalsUptoRow : OpenClaim := { program := "ytdaglbjgdakmcaa", sum := "43d71cdd942d3f39f8ca7878479dc8f104bd8e44e1d9e78cdd63f7a14fcbfbdf", func := "publisher/publisherlaw17.CondNormals", spec := "condNormals", inPlace := ["internal/abi.NoEscape"], unfollowed := true, recurses := true, apart := false, narrowed := true }
def CondNormalsUptoSaid : Prop := condNormalsUptoRow.holds Try.pinned (OpenSpec.upto condNormalsSpec)

/-- 'publisherlaw17.CondSame', WHERE WHAT IT READS IS OF BULK AT MOST 1048576: true; the input reads as it did. -/
def condSameUptoRow : OpenClaim := { program := "ytdaglbjgdakmcaa", sum := "43d71cdd942d3f39f8ca7878479dc8f104bd8e44e1d9e78cdd63f7a14fcbfbdf", func := "publisher/publisherlaw17.CondSame", spec := "condSame", inPlace := ["internal/abi.NoEscape"], unfollowed := true, recurses := true, apart := false, narrowed := true }
def CondSameUptoSaid : Prop := condSameUptoRow.holds Try.pinned (OpenSpec.upto condSameSpec)

/-- 'publisherlaw17.CondLaws', WHERE WHAT IT READS IS OF BULK AT MOST 1048576: true; the input reads as it did. -/
def condLawsUptoRow : OpenClaim := { program := "ytdaglbjgdakmcaa", sum := "43d71cdd942d3f39f8ca7878479dc8f104bd8e44e1d9e78cdd63f7a14fcbfbdf", func := "publisher/publisherlaw17.CondLaws", spec := "condLaws", inPlace := ["internal/abi.NoEscape"], unfollowed := true, recurses := true, apart := false, narrowed := true }
def CondLawsUptoSaid : Prop := condLawsUptoRow.holds Try.pinned (OpenSpec.upto condLawsSpec)

end Rows
end Go.Proofs.Ytdaglbjgdakmcaa
