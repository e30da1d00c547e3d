/-
  NARROWER THAN 'FOR EVERY INPUT', by the rows' own cells (each row's printed sentence says how): CondApplies: loops · CondSettles: loops · CondWell: loops.
  DERIVED. THE GIVEN ROWS OF THIS SEAT. 3 by the template 'for every input the law returns true; each argument reads behind the call as it read before'; 0 by the template 'total and deterministic' (their statements: YtdaglbjgdakmcaaGreatTotals.lean).
  GIVEN WITH THE SEED: the statements are not yours to turn. If you find one false, say at which input.
  Laid BY PROGRAM, IN A SANDBOX (cutbox-rows.mjs): the forced cells as the released guide's own fill.sh prints them over the translation 523a09bba77d006a… (all of the seat's roots in one cut). By AI agents, Wed Nov 11 2026. No macro, syntax, notation, axiom, sorry.
-/
import Derived.Test.YtdaglbjgdakmcaaGreatChecked
import GoSem.Claim
import GoSem.ClaimJoined
import GoSem.ClaimMapViews
import Derived.JoinedTies
import Derived.KernelRfl
namespace Go.Proofs.YtdaglbjgdakmcaaGreat
/- THE CELL 'sum', in the pinned program and in every row, IS THE sha256 OF THE DUMP (.gsa) THAT YtdaglbjgdakmcaaGreatProg.lean LOADS. Nothing in Lean hashes anything: it is a label: what it is worth is what the hold of that sum in a sandbox is worth. -/
noncomputable def Tryz.pinned : Pinned := { name := "ytdaglbjgdakmcaagreat", sum := "523a09bba77d006a5c07526ea3aad2521ea643c62b4e85973c38fb42404fb93b", checked := Tryz.checked }
namespace Rows
def none {H : Type} : Left H := { results := [], args := [] }

/-- 'publisherlaw17.CondApplies': WHATEVER THE INPUT: true; the input reads as it did. -/
def condAppliesSpec : ChangeSpec := { name := "condApplies", fn := fun _ => fun
  | [d1, d2] => { results := [.lit (.bool true)], args := [d1, d2] }
  | _ => none }
def condAppliesRow : OpenClaim := { program := "ytdaglbjgdakmcaagreat", sum := "523a09bba77d006a5c07526ea3aad2521ea643c62b4e85973c38fb42404fb93b", func := "publisher/publisherlaw17.CondApplies", spec := "condApplies", inPlace := ["internal/abi.NoEscape"], unfollowed := true, recurses := true, loops := true, apart := false }
def CondAppliesSaid : Prop := condAppliesRow.holds Tryz.pinned (OpenSpec.ofChange condAppliesSpec)

/-- ITS FALSE NEIGHBOUR: 'it returns false'. Refute it at one input. -/
def condAppliesWrong : ChangeSpec := { name := "condApplies", fn := fun _ => fun
  | [d1, d2] => { results := [.lit (.bool false)], args := [d1, d2] }
  | _ => none }
def CondAppliesWrongFalsely : Prop := condAppliesRow.holds Tryz.pinned (OpenSpec.ofChange condAppliesWrong)

/-- 'publisherlaw17.CondSettles': WHATEVER THE INPUT: true; the input reads as it did. -/
def condSettlesSpec : ChangeSpec := { name := "condSettles", fn := fun _ => fun
  | [d1, d2] => { results := [.lit (.bool true)], args := [d1, d2] }
  | _ => none }
def condSettlesRow : OpenClaim := { program := "ytdaglbjgdakmcaagreat", sum := "523a09bba77d006a5c07526ea3aad2521ea643c62b4e85973c38fb42404fb93b", func := "publisher/publisherlaw17.CondSettles", spec := "condSettles", inPlace := ["internal/abi.NoEscape"], unfollowed := true, recurses := true, loops := true, apart := false }
def CondSettlesSaid : Prop := condSettlesRow.holds Tryz.pinned (OpenSpec.ofChange condSettlesSpec)

/-- ITS FALSE NEIGHBOUR: 'it returns false'. Refute it at one input. -/
def condSettlesWrong : ChangeSpec := { name := "condSettles", fn := fun _ => fun
  | [d1, d2] => { results := [.lit (.bool false)], args := [d1, d2] }
  | _ => none }
def CondSettlesWrongFalsely : Prop := condSettlesRow.holds Tryz.pinned (OpenSpec.ofChange condSettlesWrong)

/-- 'publisherlaw17.CondWell': WHATEVER THE INPUT: true; the input reads as it did. -/
def condWellSpec : ChangeSpec := { name := "condWell", fn := fun _ => fun
  | [d1, d2] => { results := [.lit (.bool true)], args := [d1, d2] }
  | _ => none }
def condWellRow : OpenClaim := { program := "ytdaglbjgdakmcaagreat", sum := "523a09bba77d006a5c07526ea3aad2521ea643c62b4e85973c38fb42404fb93b", func := "publisher/publisherlaw17.CondWell", spec := "condWell", inPlace := ["internal/abi.NoEscape"], unfollowed := true, recurses := true, loops := true, apart := false }
def CondWellSaid : Prop := condWellRow.holds Tryz.pinned (OpenSpec.ofChange condWellSpec)

/-- ITS FALSE NEIGHBOUR: 'it returns false'. Refute it at one input. -/
def condWellWrong : ChangeSpec := { name := "condWell", fn := fun _ => fun
  | [d1, d2] => { results := [.lit (.bool false)], args := [d1, d2] }
  | _ => none }
def CondWellWrongFalsely : Prop := condWellRow.holds Tryz.pinned (OpenSpec.ofChange condWellWrong)

/- THE SECOND FORM. 'bulk': how many values and letters a reading holds, each counted each time it is reached (what is shared counts as often as it is met; a slice's spare places count too). A statement '..UptoSaid' is the law's where the arguments, and the package variables that the reading takes, are together of bulk at most 1048576: NARROWER than '..Said'. Prove '..Said' where nothing that the law and all that it calls make is longer than what came in: it says more and counts as full. Else prove '..UptoSaid'. A law counts once. -/
mutual
def uptoBulk {H : Type} : DataW H → Nat
  | .lit (.string bytes) => bytes.length + 1
  | .lit _ => 1
  | .nil => 1
  | .ptr d => uptoBulk d + 1
  | .slice elems spare => uptoBulkAll elems + uptoBulkAll spare + 1
  | .agg parts => uptoBulkAll parts + 1
  | .iface _ d => uptoBulk d + 1
  | .map entries => uptoBulkEntries entries + 1
  | .held _ => 1
def uptoBulkAll {H : Type} : List (DataW H) → Nat
  | [] => 0
  | d :: r => uptoBulk d + uptoBulkAll r
def uptoBulkEntries {H : Type} : List (Lit × DataW H) → Nat
  | [] => 0
  | x :: r => uptoBulkEntry x + uptoBulkEntries r
def uptoBulkEntry {H : Type} : Lit × DataW H → Nat
  | (.string bytes, d) => bytes.length + uptoBulk d + 1
  | (_, d) => uptoBulk d + 1
 end
def uptoSmall : (H : Type) → List (DataW H) → Bool := fun _ ds => decide (uptoBulkAll ds ≤ 1048576)
def OpenSpec.upto (s : _root_.Go.ChangeSpec) : _root_.Go.OpenSpec := { _root_.Go.OpenSpec.ofChange s with cond := some uptoSmall }

/-- 'publisherlaw17.CondApplies', WHERE WHAT IT READS IS OF BULK AT MOST 1048576: true; the input reads as it did. -/
def condAppliesUptoRow : OpenClaim := { program := "ytdaglbjgdakmcaagreat", sum := "523a09bba77d006a5c07526ea3aad2521ea643c62b4e85973c38fb42404fb93b", func := "publisher/publisherlaw17.CondApplies", spec := "condApplies", inPlace := ["internal/abi.NoEscape"], unfollowed := true, recurses := true, loops := true, apart := false, narrowed := true }
def CondAppliesUptoSaid : Prop := condAppliesUptoRow.holds Tryz.pinned (OpenSpec.upto condAppliesSpec)

/-- 'publisherlaw17.CondSettles', WHERE WHAT IT READS IS OF BULK AT MOST 1048576: true; the input reads as it did. -/
def condSettlesUptoRow : OpenClaim := { program := "ytdaglbjgdakmcaagreat", sum := "523a09bba77d006a5c07526ea3aad2521ea643c62b4e85973c38fb42404fb93b", func := "publisher/publisherlaw17.CondSettles", spec := "condSettles", inPlace := ["internal/abi.NoEscape"], unfollowed := true, recurses := true, loops := true, apart := false, narrowed := true }
def CondSettlesUptoSaid : Prop := condSettlesUptoRow.holds Tryz.pinned (OpenSpec.upto condSettlesSpec)

/-- 'publisherlaw17.CondWell', WHERE WHAT IT READS IS OF BULK AT MOST 1048576: true; the input reads as it did. -/
def condWellUptoRow : OpenClaim := { program := "ytdaglbjgdakmcaagreat", sum := "523a09bba77d006a5c07526ea3aad2521ea643c62b4e85973c38fb42404fb93b", func := "publisher/publisherlaw17.CondWell", spec := "condWell", inPlace := ["internal/abi.NoEscape"], unfollowed := true, recurses := true, loops := true, apart := false, narrowed := true }
def CondWellUptoSaid : Prop := condWellUptoRow.holds Tryz.pinned (OpenSpec.upto condWellSpec)

end Rows
end Go.Proofs.YtdaglbjgdakmcaaGreat
