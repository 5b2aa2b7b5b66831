/-
  DERIVED. GIVEN WITH THE SEED: THE CARDS: each row of YtahnjnfpjcfklaaGreatDoorRows.lean that lists a variable, with what it lists TIED to the program's text (the seventh form; the later family's looks); each row that meets fmt, with fmt's text TOLD by the authors' own Lean function (tested against real Go, not proved from fmt's source: count such statements apart). THE CARD IS WHAT COUNTS. Prove the row's statement (the work); the ties are given (YtahnjnfpjcfklaaGreatDoorTie.lean); close each card by the builder's one call (the guide's Derived/Test/ToyasCard.lean, 'card_holds'). Laid BY PROGRAM, IN A SANDBOX (cutbox-door.mjs). By AI agents, Wed Nov 11 2026. No macro, syntax, notation, axiom, sorry.
-/
import Derived.Test.YtahnjnfpjcfklaaGreatDoorRows
import GoSem.ClaimSeven
namespace Go.Proofs.YtahnjnfpjcfklaaGreatDoor
namespace Rows

/-- THE TIED CARD OF 'laws.FnObjects'. -/
def fnObjectsCard : Claim7 := { stood := { row := fnObjectsRow, standIns := [], harness := (true, "32806f218d980a7f13fd8abf5167625a0dfd90592da276d0b809ec825841e231"), looks := true }, kinds := [], alts := [], laidByText := true, laidKinds := [.data, .data, .data, .data, .sentinel, .sentinel, .pinned], laidTests := true, laidLooks := .later }
def FnObjectsCardSaid : Prop := Claim7.holds Tryz.pinned (.plain (OpenSpec.ofChange fnObjectsSpec)) fnObjectsCard

/-- THE SECOND FORM's CARD OF 'laws.FnObjects'. -/
def fnObjectsUptoCard : Claim7 := { stood := { row := fnObjectsUptoRow, standIns := [], harness := (true, "32806f218d980a7f13fd8abf5167625a0dfd90592da276d0b809ec825841e231"), looks := true }, kinds := [], alts := [], laidByText := true, laidKinds := [.data, .data, .data, .data, .sentinel, .sentinel, .pinned], laidTests := true, laidLooks := .later }
def FnObjectsUptoCardSaid : Prop := Claim7.holds Tryz.pinned (.plain (OpenSpec.upto fnObjectsSpec)) fnObjectsUptoCard
end Rows
end Go.Proofs.YtahnjnfpjcfklaaGreatDoor
