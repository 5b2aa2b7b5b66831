/-
  DERIVED. GIVEN WITH THE SEED: THE CARDS: each row of YtcneolcmjjlmnaaGreatDoorRows.lean that lists a variable, with what it lists TIED to the program's text (the seventh form; the later family's looks); each row that meets fmt, with fmt's text TOLD by the authors' own Lean function (tested against real Go, not proved from fmt's source: count such statements apart). THE CARD IS WHAT COUNTS. Prove the row's statement (the work); the ties are given (YtcneolcmjjlmnaaGreatDoorTie.lean); close each card by the builder's one call (the guide's Derived/Test/ToyasCard.lean, 'card_holds'). Laid BY PROGRAM, IN A SANDBOX (cutbox-door.mjs). By AI agents, Wed Nov 11 2026. No macro, syntax, notation, axiom, sorry.
-/
import Derived.Test.YtcneolcmjjlmnaaGreatDoorRows
import GoSem.ClaimSeven
namespace Go.Proofs.YtcneolcmjjlmnaaGreatDoor
namespace Rows

/-- THE TIED CARD OF 'laws.FnDamage'. -/
def fnDamageCard : Claim7 := { stood := { row := fnDamageRow, standIns := [], harness := (true, "3b0534ab56af4b7738152870647dcfc36a39620c88542a1f36d74993a08d6e20"), looks := true }, kinds := [], alts := [], laidByText := true, laidKinds := [.data, .data, .data, .data, .sentinel, .sentinel, .pinned], laidTests := true, laidLooks := .later }
def FnDamageCardSaid : Prop := Claim7.holds Tryz.pinned (.plain (OpenSpec.ofChange fnDamageSpec)) fnDamageCard

/-- THE SECOND FORM's CARD OF 'laws.FnDamage'. -/
def fnDamageUptoCard : Claim7 := { stood := { row := fnDamageUptoRow, standIns := [], harness := (true, "3b0534ab56af4b7738152870647dcfc36a39620c88542a1f36d74993a08d6e20"), looks := true }, kinds := [], alts := [], laidByText := true, laidKinds := [.data, .data, .data, .data, .sentinel, .sentinel, .pinned], laidTests := true, laidLooks := .later }
def FnDamageUptoCardSaid : Prop := Claim7.holds Tryz.pinned (.plain (OpenSpec.upto fnDamageSpec)) fnDamageUptoCard
end Rows
end Go.Proofs.YtcneolcmjjlmnaaGreatDoor
