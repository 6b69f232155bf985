/-
  No cell of these rows narrows 'for every input' (looked for: loops, veiled, ifaces, maps, wideKeys, modest, calm, conditions, laid).
  DERIVED. THE GIVEN ROWS OF THIS SEAT. 6 by the template 'for every input the law returns true; each argument reads behind the call as it read before'; 0 by the template 'total and deterministic' (their statements: YtpipgcmiaccdkaaTotals.lean).
  GIVEN WITH THE SEED: the statements are not yours to turn. If you find one false, say at which input.
  Laid BY PROGRAM, IN A SANDBOX (cutbox-rows.mjs): the forced cells as the released guide's own fill.sh prints them over the translation 7044be856600a4ce… (all of the seat's roots in one cut). By AI agents, Wed Nov 11 2026. No macro, syntax, notation, axiom, sorry.
-/
import Derived.Test.YtpipgcmiaccdkaaChecked
import GoSem.Claim
import GoSem.ClaimJoined
import GoSem.ClaimMapViews
import Derived.JoinedTies
import Derived.KernelRfl
namespace Go.Proofs.Ytpipgcmiaccdkaa
/- THE CELL 'sum', in the pinned program and in every row, IS THE sha256 OF THE DUMP (.gsa) THAT YtpipgcmiaccdkaaProg.lean LOADS. Nothing in Lean hashes anything: it is a label: what it is worth is what the hold of that sum in a sandbox is worth. -/
noncomputable def Try.pinned : Pinned := { name := "ytpipgcmiaccdkaa", sum := "7044be856600a4ce24b198b9e4b0798ef46f2265a1ff3f1322d8cae53000e940", checked := Try.checked }
namespace Rows
def none {H : Type} : Left H := { results := [], args := [] }

/-- 'sorrellaw12.ManifestTexts': WHATEVER THE INPUT: true; the input reads as it did. -/
def manifestTextsSpec : ChangeSpec := { name := "manifestTexts", fn := fun _ => fun
  | [d1, d2] => { results := [.lit (.bool true)], args := [d1, d2] }
  | _ => none }
def manifestTextsRow : OpenClaim := { program := "ytpipgcmiaccdkaa", sum := "7044be856600a4ce24b198b9e4b0798ef46f2265a1ff3f1322d8cae53000e940", func := "sorrel/sorrellaw12.ManifestTexts", spec := "manifestTexts", inPlace := ["internal/abi.NoEscape"], unfollowed := true, recurses := true, apart := false }
def ManifestTextsSaid : Prop := manifestTextsRow.holds Try.pinned (OpenSpec.ofChange manifestTextsSpec)

/-- ITS FALSE NEIGHBOUR: 'it returns false'. Refute it at one input. -/
def manifestTextsWrong : ChangeSpec := { name := "manifestTexts", fn := fun _ => fun
  | [d1, d2] => { results := [.lit (.bool false)], args := [d1, d2] }
  | _ => none }
def ManifestTextsWrongFalsely : Prop := manifestTextsRow.holds Try.pinned (OpenSpec.ofChange manifestTextsWrong)

/-- 'sorrellaw12.ManifestApplies': WHATEVER THE INPUT: true; the input reads as it did. -/
def manifestAppliesSpec : ChangeSpec := { name := "manifestApplies", fn := fun _ => fun
  | [d1, d2, d3] => { results := [.lit (.bool true)], args := [d1, d2, d3] }
  | _ => none }
def manifestAppliesRow : OpenClaim := { program := "ytpipgcmiaccdkaa", sum := "7044be856600a4ce24b198b9e4b0798ef46f2265a1ff3f1322d8cae53000e940", func := "sorrel/sorrellaw12.ManifestApplies", spec := "manifestApplies", inPlace := ["internal/abi.NoEscape"], unfollowed := true, recurses := true, apart := false }
def ManifestAppliesSaid : Prop := manifestAppliesRow.holds Try.pinned (OpenSpec.ofChange manifestAppliesSpec)

/-- ITS FALSE NEIGHBOUR: 'it returns false'. Refute it at one input. -/
def manifestAppliesWrong : ChangeSpec := { name := "manifestApplies", fn := fun _ => fun
  | [d1, d2, d3] => { results := [.lit (.bool false)], args := [d1, d2, d3] }
  | _ => none }
def ManifestAppliesWrongFalsely : Prop := manifestAppliesRow.holds Try.pinned (OpenSpec.ofChange manifestAppliesWrong)

/-- 'sorrellaw12.ManifestApart': WHATEVER THE INPUT: true; the input reads as it did. -/
def manifestApartSpec : ChangeSpec := { name := "manifestApart", fn := fun _ => fun
  | [d] => { results := [.lit (.bool true)], args := [d] }
  | _ => none }
def manifestApartRow : OpenClaim := { program := "ytpipgcmiaccdkaa", sum := "7044be856600a4ce24b198b9e4b0798ef46f2265a1ff3f1322d8cae53000e940", func := "sorrel/sorrellaw12.ManifestApart", spec := "manifestApart", inPlace := ["internal/abi.NoEscape"], unfollowed := true, recurses := true, apart := false }
def ManifestApartSaid : Prop := manifestApartRow.holds Try.pinned (OpenSpec.ofChange manifestApartSpec)

/-- ITS FALSE NEIGHBOUR: 'it returns false'. Refute it at one input. -/
def manifestApartWrong : ChangeSpec := { name := "manifestApart", fn := fun _ => fun
  | [d] => { results := [.lit (.bool false)], args := [d] }
  | _ => none }
def ManifestApartWrongFalsely : Prop := manifestApartRow.holds Try.pinned (OpenSpec.ofChange manifestApartWrong)

/-- 'sorrellaw12.ManifestMoves': WHATEVER THE INPUT: true; the input reads as it did. -/
def manifestMovesSpec : ChangeSpec := { name := "manifestMoves", fn := fun _ => fun
  | [d1, d2, d3] => { results := [.lit (.bool true)], args := [d1, d2, d3] }
  | _ => none }
def manifestMovesRow : OpenClaim := { program := "ytpipgcmiaccdkaa", sum := "7044be856600a4ce24b198b9e4b0798ef46f2265a1ff3f1322d8cae53000e940", func := "sorrel/sorrellaw12.ManifestMoves", spec := "manifestMoves", inPlace := ["internal/abi.NoEscape"], unfollowed := true, recurses := true, apart := false }
def ManifestMovesSaid : Prop := manifestMovesRow.holds Try.pinned (OpenSpec.ofChange manifestMovesSpec)

/-- ITS FALSE NEIGHBOUR: 'it returns false'. Refute it at one input. -/
def manifestMovesWrong : ChangeSpec := { name := "manifestMoves", fn := fun _ => fun
  | [d1, d2, d3] => { results := [.lit (.bool false)], args := [d1, d2, d3] }
  | _ => none }
def ManifestMovesWrongFalsely : Prop := manifestMovesRow.holds Try.pinned (OpenSpec.ofChange manifestMovesWrong)

/-- 'sorrellaw12.ManifestOverlaps': WHATEVER THE INPUT: true; the input reads as it did. -/
def manifestOverlapsSpec : ChangeSpec := { name := "manifestOverlaps", fn := fun _ => fun
  | [d1, d2, d3] => { results := [.lit (.bool true)], args := [d1, d2, d3] }
  | _ => none }
def manifestOverlapsRow : OpenClaim := { program := "ytpipgcmiaccdkaa", sum := "7044be856600a4ce24b198b9e4b0798ef46f2265a1ff3f1322d8cae53000e940", func := "sorrel/sorrellaw12.ManifestOverlaps", spec := "manifestOverlaps", inPlace := ["internal/abi.NoEscape"], unfollowed := true, recurses := true, apart := false }
def ManifestOverlapsSaid : Prop := manifestOverlapsRow.holds Try.pinned (OpenSpec.ofChange manifestOverlapsSpec)

/-- ITS FALSE NEIGHBOUR: 'it returns false'. Refute it at one input. -/
def manifestOverlapsWrong : ChangeSpec := { name := "manifestOverlaps", fn := fun _ => fun
  | [d1, d2, d3] => { results := [.lit (.bool false)], args := [d1, d2, d3] }
  | _ => none }
def ManifestOverlapsWrongFalsely : Prop := manifestOverlapsRow.holds Try.pinned (OpenSpec.ofChange manifestOverlapsWrong)

/-- 'sorrellaw12.ManifestReplays': WHATEVER THE INPUT: true; the input reads as it did. -/
def manifestReplaysSpec : ChangeSpec := { name := "manifestReplays", fn := fun _ => fun
  | [d1, d2] => { results := [.lit (.bool true)], args := [d1, d2] }
  | _ => none }
def manifestReplaysRow : OpenClaim := { program := "ytpipgcmiaccdkaa", sum := "7044be856600a4ce24b198b9e4b0798ef46f2265a1ff3f1322d8cae53000e940", func := "sorrel/sorrellaw12.ManifestReplays", spec := "manifestReplays", inPlace := ["internal/abi.NoEscape"], unfollowed := true, recurses := true, apart := false }
def ManifestReplaysSaid : Prop := manifestReplaysRow.holds Try.pinned (OpenSpec.ofChange manifestReplaysSpec)

/-- ITS FALSE NEIGHBOUR: 'it returns false'. Refute it at one input. -/
def manifestReplaysWrong : ChangeSpec := { name := "manifestReplays", fn := fun _ => fun
  | [d1, d2] => { results := [.lit (.bool false)], args := [d1, d2] }
  | _ => none }
def ManifestReplaysWrongFalsely : Prop := manifestReplaysRow.holds Try.pinned (OpenSpec.ofChange manifestReplaysWrong)

/- THE SECOND FORM. 'bulk': how many values and letters a reading holds, each counted each time it is reached (what is shared counts as often as it is met; a slice's spare places count too). A statement '..UptoSaid' is the law's where the arguments, and the package variables that the reading takes, are together of bulk at most 1048576: NARROWER than '..Said'. Prove '..Said' where nothing that the law and all that it calls make is longer than what came in: it says more and counts as full. Else prove '..UptoSaid'. A law counts once. -/
mutual
def uptoBulk {H : Type} : DataW H → Nat
  | .lit (.string bytes) => bytes.length + 1
  | .lit _ => 1
  | .nil => 1
  | .ptr d => uptoBulk d + 1
  | .slice elems spare => uptoBulkAll elems + uptoBulkAll spare + 1
  | .agg parts => uptoBulkAll parts + 1
  | .iface _ d => uptoBulk d + 1
  | .map entries => uptoBulkEntries entries + 1
  | .held _ => 1
def uptoBulkAll {H : Type} : List (DataW H) → Nat
  | [] => 0
  | d :: r => uptoBulk d + uptoBulkAll r
def uptoBulkEntries {H : Type} : List (Lit × DataW H) → Nat
  | [] => 0
  | x :: r => uptoBulkEntry x + uptoBulkEntries r
def uptoBulkEntry {H : Type} : Lit × DataW H → Nat
  | (.string bytes, d) => bytes.length + uptoBulk d + 1
  | (_, d) => uptoBulk d + 1
 end
def uptoSmall : (H : Type) → List (DataW H) → Bool := fun _ ds => decide (uptoBulkAll ds ≤ 1048576)
def OpenSpec.upto (s : _root_.Go.ChangeSpec) : _root_.Go.OpenSpec := { _root_.Go.OpenSpec.ofChange s with cond := some uptoSmall }

/-- 'sorrellaw12.ManifestTexts', WHERE WHAT IT READS IS OF BULK AT MOST 1048576: true; the input reads as it did. -/
def manifestTextsUptoRow : OpenClaim := { program := "ytpipgcmiaccdkaa", sum := "7044be856600a4ce24b198b9e4b0798ef46f2265a1ff3f1322d8cae53000e940", func := "sorrel/sorrellaw12.ManifestTexts", spec := "manifestTexts", inPlace := ["internal/abi.NoEscape"], unfollowed := true, recurses := true, apart := false, narrowed := true }
def ManifestTextsUptoSaid : Prop := manifestTextsUptoRow.holds Try.pinned (OpenSpec.upto manifestTextsSpec)

/-- 'sorrellaw12.ManifestApplies', WHERE WHAT IT READS IS OF BULK AT MOST 1048576: true; the input reads as it did. -/
def manifestAppliesUptoRow : OpenClaim := { program := "ytpipgcmiaccdkaa", sum := "7044be856600a4ce24b198b9e4b0798ef46f2265a1ff3f1322d8cae53000e940", func := "sorrel/sorrellaw12.ManifestApplies", spec := "manifestApplies", inPlace := ["internal/abi.NoEscape"], unfollowed := true, recurses := true, apart := false, narrowed := true }
def ManifestAppliesUptoSaid : Prop := manifestAppliesUptoRow.holds Try.pinned (OpenSpec.upto manifestAppliesSpec)

/-- 'sorrellaw12.ManifestApart', WHERE WHAT IT READS IS OF BULK AT MOST 1048576: true; the input reads as it did. -/
def manifestApartUptoRow : OpenClaim := { program := "ytpipgcmiaccdkaa", sum := "7044be856600a4ce24b198b9e4b0798ef46f2265a1ff3f1322d8cae53000e940", func := "sorrel/sorrellaw12.ManifestApart", spec := "manifestApart", inPlace := ["internal/abi.NoEscape"], unfollowed := true, recurses := true, apart := false, narrowed := true }
def ManifestApartUptoSaid : Prop := manifestApartUptoRow.holds Try.pinned (OpenSpec.upto manifestApartSpec)

/-- 'sorrellaw12.ManifestMoves', WHERE WHAT IT READS IS OF BULK AT MOST 1048576: true; the input reads as it did. -/
def manifestMovesUptoRow : OpenClaim := { program := "ytpipgcmiaccdkaa", sum := "7044be856600a4ce24b198b9e4b0798ef46f2265a1ff3f1322d8cae53000e940", func := "sorrel/sorrellaw12.ManifestMoves", spec := "manifestMoves", inPlace := ["internal/abi.NoEscape"], unfollowed := true, recurses := true, apart := false, narrowed := true }
def ManifestMovesUptoSaid : Prop := manifestMovesUptoRow.holds Try.pinned (OpenSpec.upto manifestMovesSpec)

/-- 'sorrellaw12.ManifestOverlaps', WHERE WHAT IT READS IS OF BULK AT MOST 1048576: true; the input reads as it did. -/
def manifestOverlapsUptoRow : OpenClaim := { program := "ytpipgcmiaccdkaa", sum := "7044be856600a4ce24b198b9e4b0798ef46f2265a1ff3f1322d8cae53000e940", func := "sorrel/sorrellaw12.ManifestOverlaps", spec := "manifestOverlaps", inPlace := ["internal/abi.NoEscape"], unfollowed := true, recurses := true, apart := false, narrowed := true }
def ManifestOverlapsUptoSaid : Prop := manifestOverlapsUptoRow.holds Try.pinned (OpenSpec.upto manifestOverlapsSpec)

/-- 'sorrellaw12.ManifestReplays', WHERE WHAT IT READS IS OF BULK AT MOST 1048576: true; the input reads as it did. -/
def manifestReplaysUptoRow : OpenClaim := { program := "ytpipgcmiaccdkaa", sum := "7044be856600a4ce24b198b9e4b0798ef46f2265a1ff3f1322d8cae53000e940", func := "sorrel/sorrellaw12.ManifestReplays", spec := "manifestReplays", inPlace := ["internal/abi.NoEscape"], unfollowed := true, recurses := true, apart := false, narrowed := true }
def ManifestReplaysUptoSaid : Prop := manifestReplaysUptoRow.holds Try.pinned (OpenSpec.upto manifestReplaysSpec)

end Rows
end Go.Proofs.Ytpipgcmiaccdkaa
