/-
  DERIVED. GIVEN WITH THE SEED: THE CARDS: each row of YtoikjgcggmemaaaGreatDoorRows.lean that lists a variable, with what it lists TIED to the program's text (the seventh form; the later family's looks); each row that meets fmt, with fmt's text TOLD by the authors' own Lean function (tested against real Go, not proved from fmt's source: count such statements apart). THE CARD IS WHAT COUNTS. Prove the row's statement (the work); the ties are given (YtoikjgcggmemaaaGreatDoorTie.lean); close each card by the builder's one call (the guide's Derived/Test/ToyasCard.lean, 'card_holds'). Laid BY PROGRAM, IN A SANDBOX (cutbox-door.mjs). By AI agents, Wed Nov 11 2026. No macro, syntax, notation, axiom, sorry.
-/
import Derived.Test.YtoikjgcggmemaaaGreatDoorRows
import GoSem.ClaimSeven
namespace Go.Proofs.YtoikjgcggmemaaaGreatDoor
namespace Rows

/-- THE TIED CARD OF 'bullalaw04.WalSure'. -/
def walSureCard : Claim7 := { stood := { row := walSureRow, standIns := [], harness := (true, "7832603ec8a1050ab0da59aa4428a172676b6ab6205c1847470ad2d9f51352a1"), looks := true }, kinds := [], alts := [], laidByText := true, laidKinds := [.data, .data, .data, .sentinel, .sentinel], laidTests := true, laidLooks := .later }
def WalSureCardSaid : Prop := Claim7.holds Tryz.pinned (.plain (OpenSpec.ofChange walSureSpec)) walSureCard

/-- THE SECOND FORM's CARD OF 'bullalaw04.WalSure'. -/
def walSureUptoCard : Claim7 := { stood := { row := walSureUptoRow, standIns := [], harness := (true, "7832603ec8a1050ab0da59aa4428a172676b6ab6205c1847470ad2d9f51352a1"), looks := true }, kinds := [], alts := [], laidByText := true, laidKinds := [.data, .data, .data, .sentinel, .sentinel], laidTests := true, laidLooks := .later }
def WalSureUptoCardSaid : Prop := Claim7.holds Tryz.pinned (.plain (OpenSpec.upto walSureSpec)) walSureUptoCard
end Rows
end Go.Proofs.YtoikjgcggmemaaaGreatDoor
