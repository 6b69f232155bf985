/-
  DERIVED. GIVEN WITH THE SEED: THE CARDS: each row of YthphkcpbglhabaaGreatDoorRows.lean that lists a variable, with what it lists TIED to the program's text (the seventh form; the later family's looks); each row that meets fmt, with fmt's text TOLD by the authors' own Lean function (tested against real Go, not proved from fmt's source: count such statements apart). THE CARD IS WHAT COUNTS. Prove the row's statement (the work); the ties are given (YthphkcpbglhabaaGreatDoorTie.lean); close each card by the builder's one call (the guide's Derived/Test/ToyasCard.lean, 'card_holds'). Laid BY PROGRAM, IN A SANDBOX (cutbox-door.mjs). By AI agents, Wed Nov 11 2026. No macro, syntax, notation, axiom, sorry.
-/
import Derived.Test.YthphkcpbglhabaaGreatDoorRows
import GoSem.ClaimSeven
namespace Go.Proofs.YthphkcpbglhabaaGreatDoor
namespace Rows

/-- THE TIED CARD OF 'sorrellaw18.BookSets'. -/
def bookSetsCard : Claim7 := { stood := { row := bookSetsRow, standIns := [], harness := (true, "791bffc8424e187b4b58e4cab9482288144b5801268c29471a5c3750a4a96653"), looks := true }, kinds := [], alts := [], laidByText := true, laidKinds := [.data, .data, .data, .sentinel, .sentinel], laidTests := true, laidLooks := .later }
def BookSetsCardSaid : Prop := Claim7.holds Tryz.pinned (.plain (OpenSpec.ofChange bookSetsSpec)) bookSetsCard

/-- THE TIED CARD OF 'sorrellaw18.BookPlays'. -/
def bookPlaysCard : Claim7 := { stood := { row := bookPlaysRow, standIns := [], harness := (true, "791bffc8424e187b4b58e4cab9482288144b5801268c29471a5c3750a4a96653"), looks := true }, kinds := [], alts := [], laidByText := true, laidKinds := [.data, .data, .data, .sentinel, .sentinel], laidTests := true, laidLooks := .later }
def BookPlaysCardSaid : Prop := Claim7.holds Tryz.pinned (.plain (OpenSpec.ofChange bookPlaysSpec)) bookPlaysCard

/-- THE TIED CARD OF 'sorrellaw20.DirMoves'. -/
def dirMovesCard : Claim7 := { stood := { row := dirMovesRow, standIns := [], harness := (true, "791bffc8424e187b4b58e4cab9482288144b5801268c29471a5c3750a4a96653"), looks := true }, kinds := [], alts := [], laidByText := true, laidKinds := [.data, .data, .data, .sentinel, .sentinel], laidTests := true, laidLooks := .later }
def DirMovesCardSaid : Prop := Claim7.holds Tryz.pinned (.plain (OpenSpec.ofChange dirMovesSpec)) dirMovesCard

/-- THE TIED CARD OF 'sorrellaw20.DirLate'. -/
def dirLateCard : Claim7 := { stood := { row := dirLateRow, standIns := [], harness := (true, "791bffc8424e187b4b58e4cab9482288144b5801268c29471a5c3750a4a96653"), looks := true }, kinds := [], alts := [], laidByText := true, laidKinds := [.data, .data, .data, .sentinel, .sentinel], laidTests := true, laidLooks := .later }
def DirLateCardSaid : Prop := Claim7.holds Tryz.pinned (.plain (OpenSpec.ofChange dirLateSpec)) dirLateCard

/-- THE TIED CARD OF 'sorrellaw20.DirAdvises'. -/
def dirAdvisesCard : Claim7 := { stood := { row := dirAdvisesRow, standIns := [], harness := (true, "791bffc8424e187b4b58e4cab9482288144b5801268c29471a5c3750a4a96653"), looks := true }, kinds := [], alts := [], laidByText := true, laidKinds := [.data, .data, .data, .sentinel, .sentinel], laidTests := true, laidLooks := .later }
def DirAdvisesCardSaid : Prop := Claim7.holds Tryz.pinned (.plain (OpenSpec.ofChange dirAdvisesSpec)) dirAdvisesCard

/-- THE SECOND FORM's CARD OF 'sorrellaw18.BookSets'. -/
def bookSetsUptoCard : Claim7 := { stood := { row := bookSetsUptoRow, standIns := [], harness := (true, "791bffc8424e187b4b58e4cab9482288144b5801268c29471a5c3750a4a96653"), looks := true }, kinds := [], alts := [], laidByText := true, laidKinds := [.data, .data, .data, .sentinel, .sentinel], laidTests := true, laidLooks := .later }
def BookSetsUptoCardSaid : Prop := Claim7.holds Tryz.pinned (.plain (OpenSpec.upto bookSetsSpec)) bookSetsUptoCard

/-- THE SECOND FORM's CARD OF 'sorrellaw18.BookPlays'. -/
def bookPlaysUptoCard : Claim7 := { stood := { row := bookPlaysUptoRow, standIns := [], harness := (true, "791bffc8424e187b4b58e4cab9482288144b5801268c29471a5c3750a4a96653"), looks := true }, kinds := [], alts := [], laidByText := true, laidKinds := [.data, .data, .data, .sentinel, .sentinel], laidTests := true, laidLooks := .later }
def BookPlaysUptoCardSaid : Prop := Claim7.holds Tryz.pinned (.plain (OpenSpec.upto bookPlaysSpec)) bookPlaysUptoCard

/-- THE SECOND FORM's CARD OF 'sorrellaw20.DirMoves'. -/
def dirMovesUptoCard : Claim7 := { stood := { row := dirMovesUptoRow, standIns := [], harness := (true, "791bffc8424e187b4b58e4cab9482288144b5801268c29471a5c3750a4a96653"), looks := true }, kinds := [], alts := [], laidByText := true, laidKinds := [.data, .data, .data, .sentinel, .sentinel], laidTests := true, laidLooks := .later }
def DirMovesUptoCardSaid : Prop := Claim7.holds Tryz.pinned (.plain (OpenSpec.upto dirMovesSpec)) dirMovesUptoCard

/-- THE SECOND FORM's CARD OF 'sorrellaw20.DirLate'. -/
def dirLateUptoCard : Claim7 := { stood := { row := dirLateUptoRow, standIns := [], harness := (true, "791bffc8424e187b4b58e4cab9482288144b5801268c29471a5c3750a4a96653"), looks := true }, kinds := [], alts := [], laidByText := true, laidKinds := [.data, .data, .data, .sentinel, .sentinel], laidTests := true, laidLooks := .later }
def DirLateUptoCardSaid : Prop := Claim7.holds Tryz.pinned (.plain (OpenSpec.upto dirLateSpec)) dirLateUptoCard

/-- THE SECOND FORM's CARD OF 'sorrellaw20.DirAdvises'. -/
def dirAdvisesUptoCard : Claim7 := { stood := { row := dirAdvisesUptoRow, standIns := [], harness := (true, "791bffc8424e187b4b58e4cab9482288144b5801268c29471a5c3750a4a96653"), looks := true }, kinds := [], alts := [], laidByText := true, laidKinds := [.data, .data, .data, .sentinel, .sentinel], laidTests := true, laidLooks := .later }
def DirAdvisesUptoCardSaid : Prop := Claim7.holds Tryz.pinned (.plain (OpenSpec.upto dirAdvisesSpec)) dirAdvisesUptoCard
end Rows
end Go.Proofs.YthphkcpbglhabaaGreatDoor
