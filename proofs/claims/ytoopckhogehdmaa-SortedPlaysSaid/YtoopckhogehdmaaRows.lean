/-
  No cell of these rows narrows 'for every input' (looked for: loops, veiled, ifaces, maps, wideKeys, modest, calm, conditions, laid).
  DERIVED. THE GIVEN ROWS OF THIS SEAT. 4 by the template 'for every input the law returns true; each argument reads behind the call as it read before'; 0 by the template 'total and deterministic' (their statements: YtoopckhogehdmaaTotals.lean).
  GIVEN WITH THE SEED: the statements are not yours to turn. If you find one false, say at which input.
  Laid BY PROGRAM, IN A SANDBOX (cutbox-rows.mjs): the forced cells as the released guide's own fill.sh prints them over the translation 45859565c0bd0b66… (all of the seat's roots in one cut). By AI agents, Wed Nov 11 2026. No macro, syntax, notation, axiom, sorry.
-/
import Derived.Test.YtoopckhogehdmaaChecked
import GoSem.Claim
import GoSem.ClaimJoined
import GoSem.ClaimMapViews
import Derived.JoinedTies
import Derived.KernelRfl
namespace Go.Proofs.Ytoopckhogehdmaa
/- THE CELL 'sum', in the pinned program and in every row, IS THE sha256 OF THE DUMP (.gsa) THAT YtoopckhogehdmaaProg.lean LOADS. Nothing in Lean hashes anything: it is a label: what it is worth is what the hold of that sum in a sandbox is worth. -/
noncomputable def Try.pinned : Pinned := { name := "ytoopckhogehdmaa", sum := "45859565c0bd0b661edb336218e335596f18324a7d2e7a8426977b414c01f3b4", checked := Try.checked }
namespace Rows
def none {H : Type} : Left H := { results := [], args := [] }

/-- 'sorrellaw07.SortedGoes': WHATEVER THE INPUT: true; the input reads as it did. -/
def sortedGoesSpec : ChangeSpec := { name := "sortedGoes", fn := fun _ => fun
  | [d1, d2, d3] => { results := [.lit (.bool true)], args := [d1, d2, d3] }
  | _ => none }
def sortedGoesRow : OpenClaim := { program := "ytoopckhogehdmaa", sum := "45859565c0bd0b661edb336218e335596f18324a7d2e7a8426977b414c01f3b4", func := "sorrel/sorrellaw07.SortedGoes", spec := "sortedGoes", inPlace := ["internal/bytealg.abigen_runtime_cmpstring", "slices.overlaps[sorrel/sorted.item[int]]"], unfollowed := true, recurses := true, apart := false }
def SortedGoesSaid : Prop := sortedGoesRow.holds Try.pinned (OpenSpec.ofChange sortedGoesSpec)

/-- ITS FALSE NEIGHBOUR: 'it returns false'. Refute it at one input. -/
def sortedGoesWrong : ChangeSpec := { name := "sortedGoes", fn := fun _ => fun
  | [d1, d2, d3] => { results := [.lit (.bool false)], args := [d1, d2, d3] }
  | _ => none }
def SortedGoesWrongFalsely : Prop := sortedGoesRow.holds Try.pinned (OpenSpec.ofChange sortedGoesWrong)

/-- 'sorrellaw07.SortedRises': WHATEVER THE INPUT: true; the input reads as it did. -/
def sortedRisesSpec : ChangeSpec := { name := "sortedRises", fn := fun _ => fun
  | [d] => { results := [.lit (.bool true)], args := [d] }
  | _ => none }
def sortedRisesRow : OpenClaim := { program := "ytoopckhogehdmaa", sum := "45859565c0bd0b661edb336218e335596f18324a7d2e7a8426977b414c01f3b4", func := "sorrel/sorrellaw07.SortedRises", spec := "sortedRises", inPlace := ["internal/bytealg.abigen_runtime_cmpstring", "slices.overlaps[sorrel/sorted.item[int]]"], unfollowed := true, recurses := true, apart := false }
def SortedRisesSaid : Prop := sortedRisesRow.holds Try.pinned (OpenSpec.ofChange sortedRisesSpec)

/-- ITS FALSE NEIGHBOUR: 'it returns false'. Refute it at one input. -/
def sortedRisesWrong : ChangeSpec := { name := "sortedRises", fn := fun _ => fun
  | [d] => { results := [.lit (.bool false)], args := [d] }
  | _ => none }
def SortedRisesWrongFalsely : Prop := sortedRisesRow.holds Try.pinned (OpenSpec.ofChange sortedRisesWrong)

/-- 'sorrellaw07.SortedPlays': WHATEVER THE INPUT: true; the input reads as it did. -/
def sortedPlaysSpec : ChangeSpec := { name := "sortedPlays", fn := fun _ => fun
  | [d] => { results := [.lit (.bool true)], args := [d] }
  | _ => none }
def sortedPlaysRow : OpenClaim := { program := "ytoopckhogehdmaa", sum := "45859565c0bd0b661edb336218e335596f18324a7d2e7a8426977b414c01f3b4", func := "sorrel/sorrellaw07.SortedPlays", spec := "sortedPlays", inPlace := ["internal/bytealg.abigen_runtime_cmpstring", "slices.overlaps[sorrel/sorted.item[int]]"], unfollowed := true, recurses := true, apart := false }
def SortedPlaysSaid : Prop := sortedPlaysRow.holds Try.pinned (OpenSpec.ofChange sortedPlaysSpec)

/-- ITS FALSE NEIGHBOUR: 'it returns false'. Refute it at one input. -/
def sortedPlaysWrong : ChangeSpec := { name := "sortedPlays", fn := fun _ => fun
  | [d] => { results := [.lit (.bool false)], args := [d] }
  | _ => none }
def SortedPlaysWrongFalsely : Prop := sortedPlaysRow.holds Try.pinned (OpenSpec.ofChange sortedPlaysWrong)

/-- 'sorrellaw07.SortedTypes': WHATEVER THE INPUT: true; the input reads as it did. -/
def sortedTypesSpec : ChangeSpec := { name := "sortedTypes", fn := fun _ => fun
  | [d1, d2] => { results := [.lit (.bool true)], args := [d1, d2] }
  | _ => none }
def sortedTypesRow : OpenClaim := { program := "ytoopckhogehdmaa", sum := "45859565c0bd0b661edb336218e335596f18324a7d2e7a8426977b414c01f3b4", func := "sorrel/sorrellaw07.SortedTypes", spec := "sortedTypes", inPlace := ["internal/bytealg.abigen_runtime_cmpstring", "slices.overlaps[sorrel/sorted.item[int]]", "slices.overlaps[sorrel/sorted.item[string]]"], unfollowed := true, recurses := true, apart := false }
def SortedTypesSaid : Prop := sortedTypesRow.holds Try.pinned (OpenSpec.ofChange sortedTypesSpec)

/-- ITS FALSE NEIGHBOUR: 'it returns false'. Refute it at one input. -/
def sortedTypesWrong : ChangeSpec := { name := "sortedTypes", fn := fun _ => fun
  | [d1, d2] => { results := [.lit (.bool false)], args := [d1, d2] }
  | _ => none }
def SortedTypesWrongFalsely : Prop := sortedTypesRow.holds Try.pinned (OpenSpec.ofChange sortedTypesWrong)

/- THE SECOND FORM. 'bulk': how many values and letters a reading holds, each counted each time it is reached (what is shared counts as often as it is met; a slice's spare places count too). A statement '..UptoSaid' is the law's where the arguments, and the package variables that the reading takes, are together of bulk at most 1048576: NARROWER than '..Said'. Prove '..Said' where nothing that the law and all that it calls make is longer than what came in: it says more and counts as full. Else prove '..UptoSaid'. A law counts once. -/
mutual
def uptoBulk {H : Type} : DataW H → Nat
  | .lit (.string bytes) => bytes.length + 1
  | .lit _ => 1
  | .nil => 1
  | .ptr d => uptoBulk d + 1
  | .slice elems spare => uptoBulkAll elems + uptoBulkAll spare + 1
  | .agg parts => uptoBulkAll parts + 1
  | .iface _ d => uptoBulk d + 1
  | .map entries => uptoBulkEntries entries + 1
  | .held _ => 1
def uptoBulkAll {H : Type} : List (DataW H) → Nat
  | [] => 0
  | d :: r => uptoBulk d + uptoBulkAll r
def uptoBulkEntries {H : Type} : List (Lit × DataW H) → Nat
  | [] => 0
  | x :: r => uptoBulkEntry x + uptoBulkEntries r
def uptoBulkEntry {H : Type} : Lit × DataW H → Nat
  | (.string bytes, d) => bytes.length + uptoBulk d + 1
  | (_, d) => uptoBulk d + 1
 end
def uptoSmall : (H : Type) → List (DataW H) → Bool := fun _ ds => decide (uptoBulkAll ds ≤ 1048576)
def OpenSpec.upto (s : _root_.Go.ChangeSpec) : _root_.Go.OpenSpec := { _root_.Go.OpenSpec.ofChange s with cond := some uptoSmall }

/-- 'sorrellaw07.SortedGoes', WHERE WHAT IT READS IS OF BULK AT MOST 1048576: true; the input reads as it did. -/
def sortedGoesUptoRow : OpenClaim := { program := "ytoopckhogehdmaa", sum := "45859565c0bd0b661edb336218e335596f18324a7d2e7a8426977b414c01f3b4", func := "sorrel/sorrellaw07.SortedGoes", spec := "sortedGoes", inPlace := ["internal/bytealg.abigen_runtime_cmpstring", "slices.overlaps[sorrel/sorted.item[int]]"], unfollowed := true, recurses := true, apart := false, narrowed := true }
def SortedGoesUptoSaid : Prop := sortedGoesUptoRow.holds Try.pinned (OpenSpec.upto sortedGoesSpec)

/-- 'sorrellaw07.SortedRises', WHERE WHAT IT READS IS OF BULK AT MOST 1048576: true; the input reads as it did. -/
def sortedRisesUptoRow : OpenClaim := { program := "ytoopckhogehdmaa", sum := "45859565c0bd0b661edb336218e335596f18324a7d2e7a8426977b414c01f3b4", func := "sorrel/sorrellaw07.SortedRises", spec := "sortedRises", inPlace := ["internal/bytealg.abigen_runtime_cmpstring", "slices.overlaps[sorrel/sorted.item[int]]"], unfollowed := true, recurses := true, apart := false, narrowed := true }
def SortedRisesUptoSaid : Prop := sortedRisesUptoRow.holds Try.pinned (OpenSpec.upto sortedRisesSpec)

/-- 'sorrellaw07.SortedPlays', WHERE WHAT IT READS IS OF BULK AT MOST 1048576: true; the input reads as it did. -/
def sortedPlaysUptoRow : OpenClaim := { program := "ytoopckhogehdmaa", sum := "45859565c0bd0b661edb336218e335596f18324a7d2e7a8426977b414c01f3b4", func := "sorrel/sorrellaw07.SortedPlays", spec := "sortedPlays", inPlace := ["internal/bytealg.abigen_runtime_cmpstring", "slices.overlaps[sorrel/sorted.item[int]]"], unfollowed := true, recurses := true, apart := false, narrowed := true }
def SortedPlaysUptoSaid : Prop := sortedPlaysUptoRow.holds Try.pinned (OpenSpec.upto sortedPlaysSpec)

/-- 'sorrellaw07.SortedTypes', WHERE WHAT IT READS IS OF BULK AT MOST 1048576: true; the input reads as it did. -/
def sortedTypesUptoRow : OpenClaim := { program := "ytoopckhogehdmaa", sum := "45859565c0bd0b661edb336218e335596f18324a7d2e7a8426977b414c01f3b4", func := "sorrel/sorrellaw07.SortedTypes", spec := "sortedTypes", inPlace := ["internal/bytealg.abigen_runtime_cmpstring", "slices.overlaps[sorrel/sorted.item[int]]", "slices.overlaps[sorrel/sorted.item[string]]"], unfollowed := true, recurses := true, apart := false, narrowed := true }
def SortedTypesUptoSaid : Prop := sortedTypesUptoRow.holds Try.pinned (OpenSpec.upto sortedTypesSpec)

end Rows
end Go.Proofs.Ytoopckhogehdmaa
