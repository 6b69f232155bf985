/-
  No cell of these rows narrows 'for every input' (looked for: loops, veiled, ifaces, maps, wideKeys, modest, calm, conditions, laid).
  DERIVED. THE GIVEN ROWS OF THIS SEAT. 5 by the template 'for every input the law returns true; each argument reads behind the call as it read before'; 0 by the template 'total and deterministic' (their statements: YticecideodkcmaaTotals.lean).
  GIVEN WITH THE SEED: the statements are not yours to turn. If you find one false, say at which input.
  Laid BY PROGRAM, IN A SANDBOX (cutbox-rows.mjs): the forced cells as the released guide's own fill.sh prints them over the translation b4af602f59a8a809… (all of the seat's roots in one cut). By AI agents, Wed Nov 11 2026. No macro, syntax, notation, axiom, sorry.
-/
import Derived.Test.YticecideodkcmaaChecked
import GoSem.Claim
import GoSem.ClaimJoined
import GoSem.ClaimMapViews
import Derived.JoinedTies
import Derived.KernelRfl
namespace Go.Proofs.Yticecideodkcmaa
/- THE CELL 'sum', in the pinned program and in every row, IS THE sha256 OF THE DUMP (.gsa) THAT YticecideodkcmaaProg.lean LOADS. Nothing in Lean hashes anything: it is a label: what it is worth is what the hold of that sum in a sandbox is worth. -/
noncomputable def Try.pinned : Pinned := { name := "yticecideodkcmaa", sum := "b4af602f59a8a8094ee6b02fefaf4bb442932742a0715525d3bf8782442a4ceb", checked := Try.checked }
namespace Rows
def none {H : Type} : Left H := { results := [], args := [] }

/-- 'sorrellaw14.OnceFinds': WHATEVER THE INPUT: true; the input reads as it did. -/
def onceFindsSpec : ChangeSpec := { name := "onceFinds", fn := fun _ => fun
  | [d1, d2, d3] => { results := [.lit (.bool true)], args := [d1, d2, d3] }
  | _ => none }
def onceFindsRow : OpenClaim := { program := "yticecideodkcmaa", sum := "b4af602f59a8a8094ee6b02fefaf4bb442932742a0715525d3bf8782442a4ceb", func := "sorrel/sorrellaw14.OnceFinds", spec := "onceFinds", inPlace := ["internal/abi.NoEscape"], unfollowed := true, recurses := true, apart := false }
def OnceFindsSaid : Prop := onceFindsRow.holds Try.pinned (OpenSpec.ofChange onceFindsSpec)

/-- ITS FALSE NEIGHBOUR: 'it returns false'. Refute it at one input. -/
def onceFindsWrong : ChangeSpec := { name := "onceFinds", fn := fun _ => fun
  | [d1, d2, d3] => { results := [.lit (.bool false)], args := [d1, d2, d3] }
  | _ => none }
def OnceFindsWrongFalsely : Prop := onceFindsRow.holds Try.pinned (OpenSpec.ofChange onceFindsWrong)

/-- 'sorrellaw14.OnceRises': WHATEVER THE INPUT: true; the input reads as it did. -/
def onceRisesSpec : ChangeSpec := { name := "onceRises", fn := fun _ => fun
  | [d1, d2, d3] => { results := [.lit (.bool true)], args := [d1, d2, d3] }
  | _ => none }
def onceRisesRow : OpenClaim := { program := "yticecideodkcmaa", sum := "b4af602f59a8a8094ee6b02fefaf4bb442932742a0715525d3bf8782442a4ceb", func := "sorrel/sorrellaw14.OnceRises", spec := "onceRises", inPlace := ["internal/abi.NoEscape"], unfollowed := true, recurses := true, apart := false }
def OnceRisesSaid : Prop := onceRisesRow.holds Try.pinned (OpenSpec.ofChange onceRisesSpec)

/-- ITS FALSE NEIGHBOUR: 'it returns false'. Refute it at one input. -/
def onceRisesWrong : ChangeSpec := { name := "onceRises", fn := fun _ => fun
  | [d1, d2, d3] => { results := [.lit (.bool false)], args := [d1, d2, d3] }
  | _ => none }
def OnceRisesWrongFalsely : Prop := onceRisesRow.holds Try.pinned (OpenSpec.ofChange onceRisesWrong)

/-- 'sorrellaw14.OnceJoins': WHATEVER THE INPUT: true; the input reads as it did. -/
def onceJoinsSpec : ChangeSpec := { name := "onceJoins", fn := fun _ => fun
  | [d1, d2] => { results := [.lit (.bool true)], args := [d1, d2] }
  | _ => none }
def onceJoinsRow : OpenClaim := { program := "yticecideodkcmaa", sum := "b4af602f59a8a8094ee6b02fefaf4bb442932742a0715525d3bf8782442a4ceb", func := "sorrel/sorrellaw14.OnceJoins", spec := "onceJoins", inPlace := ["internal/abi.NoEscape"], unfollowed := true, recurses := true, apart := false }
def OnceJoinsSaid : Prop := onceJoinsRow.holds Try.pinned (OpenSpec.ofChange onceJoinsSpec)

/-- ITS FALSE NEIGHBOUR: 'it returns false'. Refute it at one input. -/
def onceJoinsWrong : ChangeSpec := { name := "onceJoins", fn := fun _ => fun
  | [d1, d2] => { results := [.lit (.bool false)], args := [d1, d2] }
  | _ => none }
def OnceJoinsWrongFalsely : Prop := onceJoinsRow.holds Try.pinned (OpenSpec.ofChange onceJoinsWrong)

/-- 'sorrellaw14.OnceThree': WHATEVER THE INPUT: true; the input reads as it did. -/
def onceThreeSpec : ChangeSpec := { name := "onceThree", fn := fun _ => fun
  | [d1, d2, d3] => { results := [.lit (.bool true)], args := [d1, d2, d3] }
  | _ => none }
def onceThreeRow : OpenClaim := { program := "yticecideodkcmaa", sum := "b4af602f59a8a8094ee6b02fefaf4bb442932742a0715525d3bf8782442a4ceb", func := "sorrel/sorrellaw14.OnceThree", spec := "onceThree", inPlace := ["internal/abi.NoEscape"], unfollowed := true, recurses := true, apart := false }
def OnceThreeSaid : Prop := onceThreeRow.holds Try.pinned (OpenSpec.ofChange onceThreeSpec)

/-- ITS FALSE NEIGHBOUR: 'it returns false'. Refute it at one input. -/
def onceThreeWrong : ChangeSpec := { name := "onceThree", fn := fun _ => fun
  | [d1, d2, d3] => { results := [.lit (.bool false)], args := [d1, d2, d3] }
  | _ => none }
def OnceThreeWrongFalsely : Prop := onceThreeRow.holds Try.pinned (OpenSpec.ofChange onceThreeWrong)

/-- 'sorrellaw14.OnceWrites': WHATEVER THE INPUT: true; the input reads as it did. -/
def onceWritesSpec : ChangeSpec := { name := "onceWrites", fn := fun _ => fun
  | [d1, d2] => { results := [.lit (.bool true)], args := [d1, d2] }
  | _ => none }
def onceWritesRow : OpenClaim := { program := "yticecideodkcmaa", sum := "b4af602f59a8a8094ee6b02fefaf4bb442932742a0715525d3bf8782442a4ceb", func := "sorrel/sorrellaw14.OnceWrites", spec := "onceWrites", inPlace := ["internal/abi.NoEscape"], unfollowed := true, recurses := true, apart := false }
def OnceWritesSaid : Prop := onceWritesRow.holds Try.pinned (OpenSpec.ofChange onceWritesSpec)

/-- ITS FALSE NEIGHBOUR: 'it returns false'. Refute it at one input. -/
def onceWritesWrong : ChangeSpec := { name := "onceWrites", fn := fun _ => fun
  | [d1, d2] => { results := [.lit (.bool false)], args := [d1, d2] }
  | _ => none }
def OnceWritesWrongFalsely : Prop := onceWritesRow.holds Try.pinned (OpenSpec.ofChange onceWritesWrong)

/- THE SECOND FORM. 'bulk': how many values and letters a reading holds, each counted each time it is reached (what is shared counts as often as it is met; a slice's spare places count too). A statement '..UptoSaid' is the law's where the arguments, and the package variables that the reading takes, are together of bulk at most 1048576: NARROWER than '..Said'. Prove '..Said' where nothing that the law and all that it calls make is longer than what came in: it says more and counts as full. Else prove '..UptoSaid'. A law counts once. -/
mutual
def uptoBulk {H : Type} : DataW H → Nat
  | .lit (.string bytes) => bytes.length + 1
  | .lit _ => 1
  | .nil => 1
  | .ptr d => uptoBulk d + 1
  | .slice elems spare => uptoBulkAll elems + uptoBulkAll spare + 1
  | .agg parts => uptoBulkAll parts + 1
  | .iface _ d => uptoBulk d + 1
  | .map entries => uptoBulkEntries entries + 1
  | .held _ => 1
def uptoBulkAll {H : Type} : List (DataW H) → Nat
  | [] => 0
  | d :: r => uptoBulk d + uptoBulkAll r
def uptoBulkEntries {H : Type} : List (Lit × DataW H) → Nat
  | [] => 0
  | x :: r => uptoBulkEntry x + uptoBulkEntries r
def uptoBulkEntry {H : Type} : Lit × DataW H → Nat
  | (.string bytes, d) => bytes.length + uptoBulk d + 1
  | (_, d) => uptoBulk d + 1
 end
def uptoSmall : (H : Type) → List (DataW H) → Bool := fun _ ds => decide (uptoBulkAll ds ≤ 1048576)
def OpenSpec.upto (s : _root_.Go.ChangeSpec) : _root_.Go.OpenSpec := { _root_.Go.OpenSpec.ofChange s with cond := some uptoSmall }

/-- 'sorrellaw14.OnceFinds', WHERE WHAT IT READS IS OF BULK AT MOST 1048576: true; the input reads as it did. -/
def onceFindsUptoRow : OpenClaim := { program := "yticecideodkcmaa", sum := "b4af602f59a8a8094ee6b02fefaf4bb442932742a0715525d3bf8782442a4ceb", func := "sorrel/sorrellaw14.OnceFinds", spec := "onceFinds", inPlace := ["internal/abi.NoEscape"], unfollowed := true, recurses := true, apart := false, narrowed := true }
def OnceFindsUptoSaid : Prop := onceFindsUptoRow.holds Try.pinned (OpenSpec.upto onceFindsSpec)

/-- 'sorrellaw14.OnceRises', WHERE WHAT IT READS IS OF BULK AT MOST 1048576: true; the input reads as it did. -/
def onceRisesUptoRow : OpenClaim := { program := "yticecideodkcmaa", sum := "b4af602f59a8a8094ee6b02fefaf4bb442932742a0715525d3bf8782442a4ceb", func := "sorrel/sorrellaw14.OnceRises", spec := "onceRises", inPlace := ["internal/abi.NoEscape"], unfollowed := true, recurses := true, apart := false, narrowed := true }
def OnceRisesUptoSaid : Prop := onceRisesUptoRow.holds Try.pinned (OpenSpec.upto onceRisesSpec)

/-- 'sorrellaw14.OnceJoins', WHERE WHAT IT READS IS OF BULK AT MOST 1048576: true; the input reads as it did. -/
def onceJoinsUptoRow : OpenClaim := { program := "yticecideodkcmaa", sum := "b4af602f59a8a8094ee6b02fefaf4bb442932742a0715525d3bf8782442a4ceb", func := "sorrel/sorrellaw14.OnceJoins", spec := "onceJoins", inPlace := ["internal/abi.NoEscape"], unfollowed := true, recurses := true, apart := false, narrowed := true }
def OnceJoinsUptoSaid : Prop := onceJoinsUptoRow.holds Try.pinned (OpenSpec.upto onceJoinsSpec)

/-- 'sorrellaw14.OnceThree', WHERE WHAT IT READS IS OF BULK AT MOST 1048576: true; the input reads as it did. -/
def onceThreeUptoRow : OpenClaim := { program := "yticecideodkcmaa", sum := "b4af602f59a8a8094ee6b02fefaf4bb442932742a0715525d3bf8782442a4ceb", func := "sorrel/sorrellaw14.OnceThree", spec := "onceThree", inPlace := ["internal/abi.NoEscape"], unfollowed := true, recurses := true, apart := false, narrowed := true }
def OnceThreeUptoSaid : Prop := onceThreeUptoRow.holds Try.pinned (OpenSpec.upto onceThreeSpec)

/-- 'sorrellaw14.OnceWrites', WHERE WHAT IT READS IS OF BULK AT MOST 1048576: true; the input reads as it did. -/
def onceWritesUptoRow : OpenClaim := { program := "yticecideodkcmaa", sum := "b4af602f59a8a8094ee6b02fefaf4bb442932742a0715525d3bf8782442a4ceb", func := "sorrel/sorrellaw14.OnceWrites", spec := "onceWrites", inPlace := ["internal/abi.NoEscape"], unfollowed := true, recurses := true, apart := false, narrowed := true }
def OnceWritesUptoSaid : Prop := onceWritesUptoRow.holds Try.pinned (OpenSpec.upto onceWritesSpec)

end Rows
end Go.Proofs.Yticecideodkcmaa
