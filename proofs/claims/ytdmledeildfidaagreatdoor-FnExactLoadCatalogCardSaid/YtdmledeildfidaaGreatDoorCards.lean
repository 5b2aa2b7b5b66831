/-
  DERIVED. GIVEN WITH THE SEED: THE CARDS: each row of YtdmledeildfidaaGreatDoorRows.lean that lists a variable, with what it lists TIED to the program's text (the seventh form; the later family's looks); each row that meets fmt, with fmt's text TOLD by the authors' own Lean function (tested against real Go, not proved from fmt's source: count such statements apart). THE CARD IS WHAT COUNTS. Prove the row's statement (the work); the ties are given (YtdmledeildfidaaGreatDoorTie.lean); close each card by the builder's one call (the guide's Derived/Test/ToyasCard.lean, 'card_holds'). Laid BY PROGRAM, IN A SANDBOX (cutbox-door.mjs). By AI agents, Wed Nov 11 2026. No macro, syntax, notation, axiom, sorry.
-/
import Derived.Test.YtdmledeildfidaaGreatDoorRows
import GoSem.ClaimSeven
namespace Go.Proofs.YtdmledeildfidaaGreatDoor
namespace Rows

/-- THE TIED CARD OF 'laws.FnExactLoadCatalog'. -/
def fnExactLoadCatalogCard : Claim7 := { stood := { row := fnExactLoadCatalogRow, standIns := [], harness := (true, "a9245d8721fd19b3501b0619c7e8573ab25d9a31c8256ed9087bf45e629335be"), looks := true }, kinds := [], alts := [], laidByText := true, laidKinds := [.data, .data, .data, .data, .sentinel, .sentinel, .pinned], laidTests := true, laidLooks := .later }
def FnExactLoadCatalogCardSaid : Prop := Claim7.holds Tryz.pinned (.plain (OpenSpec.ofChange fnExactLoadCatalogSpec)) fnExactLoadCatalogCard

/-- THE SECOND FORM's CARD OF 'laws.FnExactLoadCatalog'. -/
def fnExactLoadCatalogUptoCard : Claim7 := { stood := { row := fnExactLoadCatalogUptoRow, standIns := [], harness := (true, "a9245d8721fd19b3501b0619c7e8573ab25d9a31c8256ed9087bf45e629335be"), looks := true }, kinds := [], alts := [], laidByText := true, laidKinds := [.data, .data, .data, .data, .sentinel, .sentinel, .pinned], laidTests := true, laidLooks := .later }
def FnExactLoadCatalogUptoCardSaid : Prop := Claim7.holds Tryz.pinned (.plain (OpenSpec.upto fnExactLoadCatalogSpec)) fnExactLoadCatalogUptoCard
end Rows
end Go.Proofs.YtdmledeildfidaaGreatDoor
