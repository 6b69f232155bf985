/-
  No cell of these rows narrows 'for every input' (looked for: loops, veiled, ifaces, maps, wideKeys, modest, calm, conditions, laid).
  DERIVED. THE GIVEN ROWS OF THIS SEAT. 7 by the template 'for every input the law returns true; each argument reads behind the call as it read before'; 0 by the template 'total and deterministic' (their statements: YtphpkigfmmanhaaTotals.lean).
  GIVEN WITH THE SEED: the statements are not yours to turn. If you find one false, say at which input.
  Laid BY PROGRAM, IN A SANDBOX (cutbox-rows.mjs): the forced cells as the released guide's own fill.sh prints them over the translation 0c3909872569708e… (all of the seat's roots in one cut). By AI agents, Wed Nov 11 2026. No macro, syntax, notation, axiom, sorry.
-/
import Derived.Test.YtphpkigfmmanhaaChecked
import GoSem.Claim
import GoSem.ClaimJoined
import GoSem.ClaimMapViews
import Derived.JoinedTies
import Derived.KernelRfl
namespace Go.Proofs.Ytphpkigfmmanhaa
/- THE CELL 'sum', in the pinned program and in every row, IS THE sha256 OF THE DUMP (.gsa) THAT YtphpkigfmmanhaaProg.lean LOADS. Nothing in Lean hashes anything: it is a label: what it is worth is what the hold of that sum in a sandbox is worth. -/
noncomputable def Try.pinned : Pinned := { name := "ytphpkigfmmanhaa", sum := "0c3909872569708e52445f9112e63bbb8edd562c641a393aa978ee20aeb3fa87", checked := Try.checked }
namespace Rows
def none {H : Type} : Left H := { results := [], args := [] }

/-- 'sorrellaw11.MergeAll': WHATEVER THE INPUT: true; the input reads as it did. -/
def mergeAllSpec : ChangeSpec := { name := "mergeAll", fn := fun _ => fun
  | [d1, d2, d3] => { results := [.lit (.bool true)], args := [d1, d2, d3] }
  | _ => none }
def mergeAllRow : OpenClaim := { program := "ytphpkigfmmanhaa", sum := "0c3909872569708e52445f9112e63bbb8edd562c641a393aa978ee20aeb3fa87", func := "sorrel/sorrellaw11.MergeAll", spec := "mergeAll", unfollowed := true, recurses := true, apart := false }
def MergeAllSaid : Prop := mergeAllRow.holds Try.pinned (OpenSpec.ofChange mergeAllSpec)

/-- ITS FALSE NEIGHBOUR: 'it returns false'. Refute it at one input. -/
def mergeAllWrong : ChangeSpec := { name := "mergeAll", fn := fun _ => fun
  | [d1, d2, d3] => { results := [.lit (.bool false)], args := [d1, d2, d3] }
  | _ => none }
def MergeAllWrongFalsely : Prop := mergeAllRow.holds Try.pinned (OpenSpec.ofChange mergeAllWrong)

/-- 'sorrellaw11.MergeGoes': WHATEVER THE INPUT: true; the input reads as it did. -/
def mergeGoesSpec : ChangeSpec := { name := "mergeGoes", fn := fun _ => fun
  | [d1, d2, d3] => { results := [.lit (.bool true)], args := [d1, d2, d3] }
  | _ => none }
def mergeGoesRow : OpenClaim := { program := "ytphpkigfmmanhaa", sum := "0c3909872569708e52445f9112e63bbb8edd562c641a393aa978ee20aeb3fa87", func := "sorrel/sorrellaw11.MergeGoes", spec := "mergeGoes", unfollowed := true, recurses := true, apart := false }
def MergeGoesSaid : Prop := mergeGoesRow.holds Try.pinned (OpenSpec.ofChange mergeGoesSpec)

/-- ITS FALSE NEIGHBOUR: 'it returns false'. Refute it at one input. -/
def mergeGoesWrong : ChangeSpec := { name := "mergeGoes", fn := fun _ => fun
  | [d1, d2, d3] => { results := [.lit (.bool false)], args := [d1, d2, d3] }
  | _ => none }
def MergeGoesWrongFalsely : Prop := mergeGoesRow.holds Try.pinned (OpenSpec.ofChange mergeGoesWrong)

/-- 'sorrellaw11.MergeVisible': WHATEVER THE INPUT: true; the input reads as it did. -/
def mergeVisibleSpec : ChangeSpec := { name := "mergeVisible", fn := fun _ => fun
  | [d1, d2] => { results := [.lit (.bool true)], args := [d1, d2] }
  | _ => none }
def mergeVisibleRow : OpenClaim := { program := "ytphpkigfmmanhaa", sum := "0c3909872569708e52445f9112e63bbb8edd562c641a393aa978ee20aeb3fa87", func := "sorrel/sorrellaw11.MergeVisible", spec := "mergeVisible", unfollowed := true, recurses := true, apart := false }
def MergeVisibleSaid : Prop := mergeVisibleRow.holds Try.pinned (OpenSpec.ofChange mergeVisibleSpec)

/-- ITS FALSE NEIGHBOUR: 'it returns false'. Refute it at one input. -/
def mergeVisibleWrong : ChangeSpec := { name := "mergeVisible", fn := fun _ => fun
  | [d1, d2] => { results := [.lit (.bool false)], args := [d1, d2] }
  | _ => none }
def MergeVisibleWrongFalsely : Prop := mergeVisibleRow.holds Try.pinned (OpenSpec.ofChange mergeVisibleWrong)

/-- 'sorrellaw11.MergePrunes': WHATEVER THE INPUT: true; the input reads as it did. -/
def mergePrunesSpec : ChangeSpec := { name := "mergePrunes", fn := fun _ => fun
  | [d1, d2, d3] => { results := [.lit (.bool true)], args := [d1, d2, d3] }
  | _ => none }
def mergePrunesRow : OpenClaim := { program := "ytphpkigfmmanhaa", sum := "0c3909872569708e52445f9112e63bbb8edd562c641a393aa978ee20aeb3fa87", func := "sorrel/sorrellaw11.MergePrunes", spec := "mergePrunes", unfollowed := true, recurses := true, apart := false }
def MergePrunesSaid : Prop := mergePrunesRow.holds Try.pinned (OpenSpec.ofChange mergePrunesSpec)

/-- ITS FALSE NEIGHBOUR: 'it returns false'. Refute it at one input. -/
def mergePrunesWrong : ChangeSpec := { name := "mergePrunes", fn := fun _ => fun
  | [d1, d2, d3] => { results := [.lit (.bool false)], args := [d1, d2, d3] }
  | _ => none }
def MergePrunesWrongFalsely : Prop := mergePrunesRow.holds Try.pinned (OpenSpec.ofChange mergePrunesWrong)

/-- 'sorrellaw11.MergeKeeps': WHATEVER THE INPUT: true; the input reads as it did. -/
def mergeKeepsSpec : ChangeSpec := { name := "mergeKeeps", fn := fun _ => fun
  | [d1, d2, d3] => { results := [.lit (.bool true)], args := [d1, d2, d3] }
  | _ => none }
def mergeKeepsRow : OpenClaim := { program := "ytphpkigfmmanhaa", sum := "0c3909872569708e52445f9112e63bbb8edd562c641a393aa978ee20aeb3fa87", func := "sorrel/sorrellaw11.MergeKeeps", spec := "mergeKeeps", unfollowed := true, recurses := true, apart := false }
def MergeKeepsSaid : Prop := mergeKeepsRow.holds Try.pinned (OpenSpec.ofChange mergeKeepsSpec)

/-- ITS FALSE NEIGHBOUR: 'it returns false'. Refute it at one input. -/
def mergeKeepsWrong : ChangeSpec := { name := "mergeKeeps", fn := fun _ => fun
  | [d1, d2, d3] => { results := [.lit (.bool false)], args := [d1, d2, d3] }
  | _ => none }
def MergeKeepsWrongFalsely : Prop := mergeKeepsRow.holds Try.pinned (OpenSpec.ofChange mergeKeepsWrong)

/-- 'sorrellaw11.MergeParts': WHATEVER THE INPUT: true; the input reads as it did. -/
def mergePartsSpec : ChangeSpec := { name := "mergeParts", fn := fun _ => fun
  | [d1, d2] => { results := [.lit (.bool true)], args := [d1, d2] }
  | _ => none }
def mergePartsRow : OpenClaim := { program := "ytphpkigfmmanhaa", sum := "0c3909872569708e52445f9112e63bbb8edd562c641a393aa978ee20aeb3fa87", func := "sorrel/sorrellaw11.MergeParts", spec := "mergeParts", unfollowed := true, recurses := true, apart := false }
def MergePartsSaid : Prop := mergePartsRow.holds Try.pinned (OpenSpec.ofChange mergePartsSpec)

/-- ITS FALSE NEIGHBOUR: 'it returns false'. Refute it at one input. -/
def mergePartsWrong : ChangeSpec := { name := "mergeParts", fn := fun _ => fun
  | [d1, d2] => { results := [.lit (.bool false)], args := [d1, d2] }
  | _ => none }
def MergePartsWrongFalsely : Prop := mergePartsRow.holds Try.pinned (OpenSpec.ofChange mergePartsWrong)

/-- 'sorrellaw11.MergeSince': WHATEVER THE INPUT: true; the input reads as it did. -/
def mergeSinceSpec : ChangeSpec := { name := "mergeSince", fn := fun _ => fun
  | [d1, d2] => { results := [.lit (.bool true)], args := [d1, d2] }
  | _ => none }
def mergeSinceRow : OpenClaim := { program := "ytphpkigfmmanhaa", sum := "0c3909872569708e52445f9112e63bbb8edd562c641a393aa978ee20aeb3fa87", func := "sorrel/sorrellaw11.MergeSince", spec := "mergeSince", unfollowed := true, recurses := true, apart := false }
def MergeSinceSaid : Prop := mergeSinceRow.holds Try.pinned (OpenSpec.ofChange mergeSinceSpec)

/-- ITS FALSE NEIGHBOUR: 'it returns false'. Refute it at one input. -/
def mergeSinceWrong : ChangeSpec := { name := "mergeSince", fn := fun _ => fun
  | [d1, d2] => { results := [.lit (.bool false)], args := [d1, d2] }
  | _ => none }
def MergeSinceWrongFalsely : Prop := mergeSinceRow.holds Try.pinned (OpenSpec.ofChange mergeSinceWrong)

/- THE SECOND FORM. 'bulk': how many values and letters a reading holds, each counted each time it is reached (what is shared counts as often as it is met; a slice's spare places count too). A statement '..UptoSaid' is the law's where the arguments, and the package variables that the reading takes, are together of bulk at most 1048576: NARROWER than '..Said'. Prove '..Said' where nothing that the law and all that it calls make is longer than what came in: it says more and counts as full. Else prove '..UptoSaid'. A law counts once. -/
mutual
def uptoBulk {H : Type} : DataW H → Nat
  | .lit (.string bytes) => bytes.length + 1
  | .lit _ => 1
  | .nil => 1
  | .ptr d => uptoBulk d + 1
  | .slice elems spare => uptoBulkAll elems + uptoBulkAll spare + 1
  | .agg parts => uptoBulkAll parts + 1
  | .iface _ d => uptoBulk d + 1
  | .map entries => uptoBulkEntries entries + 1
  | .held _ => 1
def uptoBulkAll {H : Type} : List (DataW H) → Nat
  | [] => 0
  | d :: r => uptoBulk d + uptoBulkAll r
def uptoBulkEntries {H : Type} : List (Lit × DataW H) → Nat
  | [] => 0
  | x :: r => uptoBulkEntry x + uptoBulkEntries r
def uptoBulkEntry {H : Type} : Lit × DataW H → Nat
  | (.string bytes, d) => bytes.length + uptoBulk d + 1
  | (_, d) => uptoBulk d + 1
 end
def uptoSmall : (H : Type) → List (DataW H) → Bool := fun _ ds => decide (uptoBulkAll ds ≤ 1048576)
def OpenSpec.upto (s : _root_.Go.ChangeSpec) : _root_.Go.OpenSpec := { _root_.Go.OpenSpec.ofChange s with cond := some uptoSmall }

/-- 'sorrellaw11.MergeAll', WHERE WHAT IT READS IS OF BULK AT MOST 1048576: true; the input reads as it did. -/
def mergeAllUptoRow : OpenClaim := { program := "ytphpkigfmmanhaa", sum := "0c3909872569708e52445f9112e63bbb8edd562c641a393aa978ee20aeb3fa87", func := "sorrel/sorrellaw11.MergeAll", spec := "mergeAll", unfollowed := true, recurses := true, apart := false, narrowed := true }
def MergeAllUptoSaid : Prop := mergeAllUptoRow.holds Try.pinned (OpenSpec.upto mergeAllSpec)

/-- 'sorrellaw11.MergeGoes', WHERE WHAT IT READS IS OF BULK AT MOST 1048576: true; the input reads as it did. -/
def mergeGoesUptoRow : OpenClaim := { program := "ytphpkigfmmanhaa", sum := "0c3909872569708e52445f9112e63bbb8edd562c641a393aa978ee20aeb3fa87", func := "sorrel/sorrellaw11.MergeGoes", spec := "mergeGoes", unfollowed := true, recurses := true, apart := false, narrowed := true }
def MergeGoesUptoSaid : Prop := mergeGoesUptoRow.holds Try.pinned (OpenSpec.upto mergeGoesSpec)

/-- 'sorrellaw11.MergeVisible', WHERE WHAT IT READS IS OF BULK AT MOST 1048576: true; the input reads as it did. -/
def mergeVisibleUptoRow : OpenClaim := { program := "ytphpkigfmmanhaa", sum := "0c3909872569708e52445f9112e63bbb8edd562c641a393aa978ee20aeb3fa87", func := "sorrel/sorrellaw11.MergeVisible", spec := "mergeVisible", unfollowed := true, recurses := true, apart := false, narrowed := true }
def MergeVisibleUptoSaid : Prop := mergeVisibleUptoRow.holds Try.pinned (OpenSpec.upto mergeVisibleSpec)

/-- 'sorrellaw11.MergePrunes', WHERE WHAT IT READS IS OF BULK AT MOST 1048576: true; the input reads as it did. -/
def mergePrunesUptoRow : OpenClaim := { program := "ytphpkigfmmanhaa", sum := "0c3909872569708e52445f9112e63bbb8edd562c641a393aa978ee20aeb3fa87", func := "sorrel/sorrellaw11.MergePrunes", spec := "mergePrunes", unfollowed := true, recurses := true, apart := false, narrowed := true }
def MergePrunesUptoSaid : Prop := mergePrunesUptoRow.holds Try.pinned (OpenSpec.upto mergePrunesSpec)

/-- 'sorrellaw11.MergeKeeps', WHERE WHAT IT READS IS OF BULK AT MOST 1048576: true; the input reads as it did. -/
def mergeKeepsUptoRow : OpenClaim := { program := "ytphpkigfmmanhaa", sum := "0c3909872569708e52445f9112e63bbb8edd562c641a393aa978ee20aeb3fa87", func := "sorrel/sorrellaw11.MergeKeeps", spec := "mergeKeeps", unfollowed := true, recurses := true, apart := false, narrowed := true }
def MergeKeepsUptoSaid : Prop := mergeKeepsUptoRow.holds Try.pinned (OpenSpec.upto mergeKeepsSpec)

/-- 'sorrellaw11.MergeParts', WHERE WHAT IT READS IS OF BULK AT MOST 1048576: true; the input reads as it did. -/
def mergePartsUptoRow : OpenClaim := { program := "ytphpkigfmmanhaa", sum := "0c3909872569708e52445f9112e63bbb8edd562c641a393aa978ee20aeb3fa87", func := "sorrel/sorrellaw11.MergeParts", spec := "mergeParts", unfollowed := true, recurses := true, apart := false, narrowed := true }
def MergePartsUptoSaid : Prop := mergePartsUptoRow.holds Try.pinned (OpenSpec.upto mergePartsSpec)

/-- 'sorrellaw11.MergeSince', WHERE WHAT IT READS IS OF BULK AT MOST 1048576: true; the input reads as it did. -/
def mergeSinceUptoRow : OpenClaim := { program := "ytphpkigfmmanhaa", sum := "0c3909872569708e52445f9112e63bbb8edd562c641a393aa978ee20aeb3fa87", func := "sorrel/sorrellaw11.MergeSince", spec := "mergeSince", unfollowed := true, recurses := true, apart := false, narrowed := true }
def MergeSinceUptoSaid : Prop := mergeSinceUptoRow.holds Try.pinned (OpenSpec.upto mergeSinceSpec)

end Rows
end Go.Proofs.Ytphpkigfmmanhaa
