/-
  DERIVED. GIVEN WITH THE SEED: THE CARDS: each row of YtmhhajebgolmlaaGreatDoorRows.lean that lists a variable, with what it lists TIED to the program's text (the seventh form; the later family's looks); each row that meets fmt, with fmt's text TOLD by the authors' own Lean function (tested against real Go, not proved from fmt's source: count such statements apart). THE CARD IS WHAT COUNTS. Prove the row's statement (the work); the ties are given (YtmhhajebgolmlaaGreatDoorTie.lean); close each card by the builder's one call (the guide's Derived/Test/ToyasCard.lean, 'card_holds'). Laid BY PROGRAM, IN A SANDBOX (cutbox-door.mjs). By AI agents, Wed Nov 11 2026. No macro, syntax, notation, axiom, sorry.
-/
import Derived.Test.YtmhhajebgolmlaaGreatDoorRows
import GoSem.ClaimSeven
namespace Go.Proofs.YtmhhajebgolmlaaGreatDoor
namespace Rows

/-- THE TIED CARD OF 'lictorlaw16.ChangeBack'. -/
def changeBackCard : Claim7 := { stood := { row := changeBackRow, standIns := [], harness := (true, "d9054a65bdad9d5091c1535fef99d2cf6544c05964d9f178959c55dfd409d8b8"), looks := true }, kinds := [], alts := [], laidByText := true, laidKinds := [.pinned, .data, .data, .listed, .sentinel, .sentinel, .data, .data, .data], laidTests := true, laidLooks := .later }
def ChangeBackCardSaid : Prop := Claim7.holds Tryz.pinned (.plain (OpenSpec.ofChange changeBackSpec)) changeBackCard

/-- THE SECOND FORM's CARD OF 'lictorlaw16.ChangeBack'. -/
def changeBackUptoCard : Claim7 := { stood := { row := changeBackUptoRow, standIns := [], harness := (true, "d9054a65bdad9d5091c1535fef99d2cf6544c05964d9f178959c55dfd409d8b8"), looks := true }, kinds := [], alts := [], laidByText := true, laidKinds := [.pinned, .data, .data, .listed, .sentinel, .sentinel, .data, .data, .data], laidTests := true, laidLooks := .later }
def ChangeBackUptoCardSaid : Prop := Claim7.holds Tryz.pinned (.plain (OpenSpec.upto changeBackSpec)) changeBackUptoCard
end Rows
end Go.Proofs.YtmhhajebgolmlaaGreatDoor
