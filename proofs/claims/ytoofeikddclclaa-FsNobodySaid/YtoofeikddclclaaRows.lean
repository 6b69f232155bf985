/-
  No cell of these rows narrows 'for every input' (looked for: loops, veiled, ifaces, maps, wideKeys, modest, calm, conditions, laid).
  DERIVED. THE GIVEN ROWS OF THIS SEAT. 5 by the template 'for every input the law returns true; each argument reads behind the call as it read before'; 0 by the template 'total and deterministic' (their statements: YtoofeikddclclaaTotals.lean).
  GIVEN WITH THE SEED: the statements are not yours to turn. If you find one false, say at which input.
  Laid BY PROGRAM, IN A SANDBOX (cutbox-rows.mjs): the forced cells as the released guide's own fill.sh prints them over the translation 4eaae62d0ff295be… (all of the seat's roots in one cut). By AI agents, Wed Nov 11 2026. No macro, syntax, notation, axiom, sorry.
-/
import Derived.Test.YtoofeikddclclaaChecked
import GoSem.Claim
import GoSem.ClaimJoined
import GoSem.ClaimMapViews
import Derived.JoinedTies
import Derived.KernelRfl
namespace Go.Proofs.Ytoofeikddclclaa
/- THE CELL 'sum', in the pinned program and in every row, IS THE sha256 OF THE DUMP (.gsa) THAT YtoofeikddclclaaProg.lean LOADS. Nothing in Lean hashes anything: it is a label: what it is worth is what the hold of that sum in a sandbox is worth. -/
noncomputable def Try.pinned : Pinned := { name := "ytoofeikddclclaa", sum := "4eaae62d0ff295be0349e24d9126506e7d2a8c86ad200ba846ac1c80bb0983fd", checked := Try.checked }
namespace Rows
def none {H : Type} : Left H := { results := [], args := [] }

/-- 'sorrellaw05.FsSurvives': WHATEVER THE INPUT: true; the input reads as it did. -/
def fsSurvivesSpec : ChangeSpec := { name := "fsSurvives", fn := fun _ => fun
  | [d1, d2, d3] => { results := [.lit (.bool true)], args := [d1, d2, d3] }
  | _ => none }
def fsSurvivesRow : OpenClaim := { program := "ytoofeikddclclaa", sum := "4eaae62d0ff295be0349e24d9126506e7d2a8c86ad200ba846ac1c80bb0983fd", func := "sorrel/sorrellaw05.FsSurvives", spec := "fsSurvives", unfollowed := true, recurses := true, apart := false }
def FsSurvivesSaid : Prop := fsSurvivesRow.holds Try.pinned (OpenSpec.ofChange fsSurvivesSpec)

/-- ITS FALSE NEIGHBOUR: 'it returns false'. Refute it at one input. -/
def fsSurvivesWrong : ChangeSpec := { name := "fsSurvives", fn := fun _ => fun
  | [d1, d2, d3] => { results := [.lit (.bool false)], args := [d1, d2, d3] }
  | _ => none }
def FsSurvivesWrongFalsely : Prop := fsSurvivesRow.holds Try.pinned (OpenSpec.ofChange fsSurvivesWrong)

/-- 'sorrellaw05.FsParts': WHATEVER THE INPUT: true; the input reads as it did. -/
def fsPartsSpec : ChangeSpec := { name := "fsParts", fn := fun _ => fun
  | [d] => { results := [.lit (.bool true)], args := [d] }
  | _ => none }
def fsPartsRow : OpenClaim := { program := "ytoofeikddclclaa", sum := "4eaae62d0ff295be0349e24d9126506e7d2a8c86ad200ba846ac1c80bb0983fd", func := "sorrel/sorrellaw05.FsParts", spec := "fsParts", unfollowed := true, recurses := true, apart := false }
def FsPartsSaid : Prop := fsPartsRow.holds Try.pinned (OpenSpec.ofChange fsPartsSpec)

/-- ITS FALSE NEIGHBOUR: 'it returns false'. Refute it at one input. -/
def fsPartsWrong : ChangeSpec := { name := "fsParts", fn := fun _ => fun
  | [d] => { results := [.lit (.bool false)], args := [d] }
  | _ => none }
def FsPartsWrongFalsely : Prop := fsPartsRow.holds Try.pinned (OpenSpec.ofChange fsPartsWrong)

/-- 'sorrellaw05.FsFuses': WHATEVER THE INPUT: true; the input reads as it did. -/
def fsFusesSpec : ChangeSpec := { name := "fsFuses", fn := fun _ => fun
  | [d1, d2] => { results := [.lit (.bool true)], args := [d1, d2] }
  | _ => none }
def fsFusesRow : OpenClaim := { program := "ytoofeikddclclaa", sum := "4eaae62d0ff295be0349e24d9126506e7d2a8c86ad200ba846ac1c80bb0983fd", func := "sorrel/sorrellaw05.FsFuses", spec := "fsFuses", unfollowed := true, recurses := true, apart := false }
def FsFusesSaid : Prop := fsFusesRow.holds Try.pinned (OpenSpec.ofChange fsFusesSpec)

/-- ITS FALSE NEIGHBOUR: 'it returns false'. Refute it at one input. -/
def fsFusesWrong : ChangeSpec := { name := "fsFuses", fn := fun _ => fun
  | [d1, d2] => { results := [.lit (.bool false)], args := [d1, d2] }
  | _ => none }
def FsFusesWrongFalsely : Prop := fsFusesRow.holds Try.pinned (OpenSpec.ofChange fsFusesWrong)

/-- 'sorrellaw05.FsNames': WHATEVER THE INPUT: true; the input reads as it did. -/
def fsNamesSpec : ChangeSpec := { name := "fsNames", fn := fun _ => fun
  | [d1, d2, d3] => { results := [.lit (.bool true)], args := [d1, d2, d3] }
  | _ => none }
def fsNamesRow : OpenClaim := { program := "ytoofeikddclclaa", sum := "4eaae62d0ff295be0349e24d9126506e7d2a8c86ad200ba846ac1c80bb0983fd", func := "sorrel/sorrellaw05.FsNames", spec := "fsNames", unfollowed := true, recurses := true, apart := false }
def FsNamesSaid : Prop := fsNamesRow.holds Try.pinned (OpenSpec.ofChange fsNamesSpec)

/-- ITS FALSE NEIGHBOUR: 'it returns false'. Refute it at one input. -/
def fsNamesWrong : ChangeSpec := { name := "fsNames", fn := fun _ => fun
  | [d1, d2, d3] => { results := [.lit (.bool false)], args := [d1, d2, d3] }
  | _ => none }
def FsNamesWrongFalsely : Prop := fsNamesRow.holds Try.pinned (OpenSpec.ofChange fsNamesWrong)

/-- 'sorrellaw05.FsNobody': WHATEVER THE INPUT: true; the input reads as it did. -/
def fsNobodySpec : ChangeSpec := { name := "fsNobody", fn := fun _ => fun
  | [d1, d2, d3] => { results := [.lit (.bool true)], args := [d1, d2, d3] }
  | _ => none }
def fsNobodyRow : OpenClaim := { program := "ytoofeikddclclaa", sum := "4eaae62d0ff295be0349e24d9126506e7d2a8c86ad200ba846ac1c80bb0983fd", func := "sorrel/sorrellaw05.FsNobody", spec := "fsNobody", unfollowed := true, recurses := true, apart := false }
def FsNobodySaid : Prop := fsNobodyRow.holds Try.pinned (OpenSpec.ofChange fsNobodySpec)

/-- ITS FALSE NEIGHBOUR: 'it returns false'. Refute it at one input. -/
def fsNobodyWrong : ChangeSpec := { name := "fsNobody", fn := fun _ => fun
  | [d1, d2, d3] => { results := [.lit (.bool false)], args := [d1, d2, d3] }
  | _ => none }
def FsNobodyWrongFalsely : Prop := fsNobodyRow.holds Try.pinned (OpenSpec.ofChange fsNobodyWrong)

/- THE SECOND FORM. 'bulk': how many values and letters a reading holds, each counted each time it is reached (what is shared counts as often as it is met; a slice's spare places count too). A statement '..UptoSaid' is the law's where the arguments, and the package variables that the reading takes, are together of bulk at most 1048576: NARROWER than '..Said'. Prove '..Said' where nothing that the law and all that it calls make is longer than what came in: it says more and counts as full. Else prove '..UptoSaid'. A law counts once. -/
mutual
def uptoBulk {H : Type} : DataW H → Nat
  | .lit (.string bytes) => bytes.length + 1
  | .lit _ => 1
  | .nil => 1
  | .ptr d => uptoBulk d + 1
  | .slice elems spare => uptoBulkAll elems + uptoBulkAll spare + 1
  | .agg parts => uptoBulkAll parts + 1
  | .iface _ d => uptoBulk d + 1
  | .map entries => uptoBulkEntries entries + 1
  | .held _ => 1
def uptoBulkAll {H : Type} : List (DataW H) → Nat
  | [] => 0
  | d :: r => uptoBulk d + uptoBulkAll r
def uptoBulkEntries {H : Type} : List (Lit × DataW H) → Nat
  | [] => 0
  | x :: r => uptoBulkEntry x + uptoBulkEntries r
def uptoBulkEntry {H : Type} : Lit × DataW H → Nat
  | (.string bytes, d) => bytes.length + uptoBulk d + 1
  | (_, d) => uptoBulk d + 1
 end
def uptoSmall : (H : Type) → List (DataW H) → Bool := fun _ ds => decide (uptoBulkAll ds ≤ 1048576)
def OpenSpec.upto (s : _root_.Go.ChangeSpec) : _root_.Go.OpenSpec := { _root_.Go.OpenSpec.ofChange s with cond := some uptoSmall }

/-- 'sorrellaw05.FsSurvives', WHERE WHAT IT READS IS OF BULK AT MOST 1048576: true; the input reads as it did. -/
def fsSurvivesUptoRow : OpenClaim := { program := "ytoofeikddclclaa", sum := "4eaae62d0ff295be0349e24d9126506e7d2a8c86ad200ba846ac1c80bb0983fd", func := "sorrel/sorrellaw05.FsSurvives", spec := "fsSurvives", unfollowed := true, recurses := true, apart := false, narrowed := true }
def FsSurvivesUptoSaid : Prop := fsSurvivesUptoRow.holds Try.pinned (OpenSpec.upto fsSurvivesSpec)

/-- 'sorrellaw05.FsParts', WHERE WHAT IT READS IS OF BULK AT MOST 1048576: true; the input reads as it did. -/
def fsPartsUptoRow : OpenClaim := { program := "ytoofeikddclclaa", sum := "4eaae62d0ff295be0349e24d9126506e7d2a8c86ad200ba846ac1c80bb0983fd", func := "sorrel/sorrellaw05.FsParts", spec := "fsParts", unfollowed := true, recurses := true, apart := false, narrowed := true }
def FsPartsUptoSaid : Prop := fsPartsUptoRow.holds Try.pinned (OpenSpec.upto fsPartsSpec)

/-- 'sorrellaw05.FsFuses', WHERE WHAT IT READS IS OF BULK AT MOST 1048576: true; the input reads as it did. -/
def fsFusesUptoRow : OpenClaim := { program := "ytoofeikddclclaa", sum := "4eaae62d0ff295be0349e24d9126506e7d2a8c86ad200ba846ac1c80bb0983fd", func := "sorrel/sorrellaw05.FsFuses", spec := "fsFuses", unfollowed := true, recurses := true, apart := false, narrowed := true }
def FsFusesUptoSaid : Prop := fsFusesUptoRow.holds Try.pinned (OpenSpec.upto fsFusesSpec)

/-- 'sorrellaw05.FsNames', WHERE WHAT IT READS IS OF BULK AT MOST 1048576: true; the input reads as it did. -/
def fsNamesUptoRow : OpenClaim := { program := "ytoofeikddclclaa", sum := "4eaae62d0ff295be0349e24d9126506e7d2a8c86ad200ba846ac1c80bb0983fd", func := "sorrel/sorrellaw05.FsNames", spec := "fsNames", unfollowed := true, recurses := true, apart := false, narrowed := true }
def FsNamesUptoSaid : Prop := fsNamesUptoRow.holds Try.pinned (OpenSpec.upto fsNamesSpec)

/-- 'sorrellaw05.FsNobody', WHERE WHAT IT READS IS OF BULK AT MOST 1048576: true; the input reads as it did. -/
def fsNobodyUptoRow : OpenClaim := { program := "ytoofeikddclclaa", sum := "4eaae62d0ff295be0349e24d9126506e7d2a8c86ad200ba846ac1c80bb0983fd", func := "sorrel/sorrellaw05.FsNobody", spec := "fsNobody", unfollowed := true, recurses := true, apart := false, narrowed := true }
def FsNobodyUptoSaid : Prop := fsNobodyUptoRow.holds Try.pinned (OpenSpec.upto fsNobodySpec)

end Rows
end Go.Proofs.Ytoofeikddclclaa
