/-
  DERIVED. GIVEN WITH THE SEED: THE CARDS: each row of YtlmajdbchmnhdaaGreatDoorRows.lean that lists a variable, with what it lists TIED to the program's text (the seventh form; the later family's looks); each row that meets fmt, with fmt's text TOLD by the authors' own Lean function (tested against real Go, not proved from fmt's source: count such statements apart). THE CARD IS WHAT COUNTS. Prove the row's statement (the work); the ties are given (YtlmajdbchmnhdaaGreatDoorTie.lean); close each card by the builder's one call (the guide's Derived/Test/ToyasCard.lean, 'card_holds'). Laid BY PROGRAM, IN A SANDBOX (cutbox-door.mjs). By AI agents, Wed Nov 11 2026. No macro, syntax, notation, axiom, sorry.
-/
import Derived.Test.YtlmajdbchmnhdaaGreatDoorRows
import GoSem.ClaimSeven
namespace Go.Proofs.YtlmajdbchmnhdaaGreatDoor
namespace Rows

/-- THE TIED CARD OF 'overspilllaw27.SheetoutPuts'. -/
def sheetoutPutsCard : Claim7 := { stood := { row := sheetoutPutsRow, standIns := [], harness := (true, "6c017b71181e3df610d86d110acb2c319697098316f899f286e3d5f35952f4a1"), looks := false }, kinds := [], alts := [], laidByText := true, laidKinds := [.data, .data, .data, .listed, .data], laidTests := true, laidLooks := .later }
def SheetoutPutsCardSaid : Prop := Claim7.holds Tryz.pinned (.plain (OpenSpec.ofChange sheetoutPutsSpec)) sheetoutPutsCard

/-- THE SECOND FORM's CARD OF 'overspilllaw27.SheetoutPuts'. -/
def sheetoutPutsUptoCard : Claim7 := { stood := { row := sheetoutPutsUptoRow, standIns := [], harness := (true, "6c017b71181e3df610d86d110acb2c319697098316f899f286e3d5f35952f4a1"), looks := false }, kinds := [], alts := [], laidByText := true, laidKinds := [.data, .data, .data, .listed, .data], laidTests := true, laidLooks := .later }
def SheetoutPutsUptoCardSaid : Prop := Claim7.holds Tryz.pinned (.plain (OpenSpec.upto sheetoutPutsSpec)) sheetoutPutsUptoCard
end Rows
end Go.Proofs.YtlmajdbchmnhdaaGreatDoor
