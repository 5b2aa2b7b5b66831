/-
  DERIVED. GIVEN WITH THE SEED: THE CARDS: each row of YtocnokjekoglnaaGreatDoorRows.lean that lists a variable, with what it lists TIED to the program's text (the seventh form; the later family's looks); each row that meets fmt, with fmt's text TOLD by the authors' own Lean function (tested against real Go, not proved from fmt's source: count such statements apart). THE CARD IS WHAT COUNTS. Prove the row's statement (the work); the ties are given (YtocnokjekoglnaaGreatDoorTie.lean); close each card by the builder's one call (the guide's Derived/Test/ToyasCard.lean, 'card_holds'). Laid BY PROGRAM, IN A SANDBOX (cutbox-door.mjs). By AI agents, Wed Nov 11 2026. No macro, syntax, notation, axiom, sorry.
-/
import Derived.Test.YtocnokjekoglnaaGreatDoorRows
import GoSem.ClaimSeven
namespace Go.Proofs.YtocnokjekoglnaaGreatDoor
namespace Rows

/-- THE TIED CARD OF 'laws.FnExactObjectText'. -/
def fnExactObjectTextCard : Claim7 := { stood := { row := fnExactObjectTextRow, standIns := [], harness := (true, "e78e1e19cd4591332d81b2feaced3b4b5cf85dba00609cbdc4848cc6d7b0f8f9"), looks := false }, kinds := [], alts := [], laidByText := true, laidKinds := [.data, .data, .data], laidTests := true, laidLooks := .later }
def FnExactObjectTextCardSaid : Prop := Claim7.holds Tryz.pinned (.plain (OpenSpec.ofChange fnExactObjectTextSpec)) fnExactObjectTextCard

/-- THE TIED CARD OF 'laws.FnExactItemLine'. -/
def fnExactItemLineCard : Claim7 := { stood := { row := fnExactItemLineRow, standIns := [], harness := (true, "e78e1e19cd4591332d81b2feaced3b4b5cf85dba00609cbdc4848cc6d7b0f8f9"), looks := false }, kinds := [], alts := [], laidByText := true, laidKinds := [.data, .data, .data], laidTests := true, laidLooks := .later }
def FnExactItemLineCardSaid : Prop := Claim7.holds Tryz.pinned (.plain (OpenSpec.ofChange fnExactItemLineSpec)) fnExactItemLineCard

/-- THE TIED CARD OF 'laws.FnExactSaveCatalog'. -/
def fnExactSaveCatalogCard : Claim7 := { stood := { row := fnExactSaveCatalogRow, standIns := [], harness := (true, "e78e1e19cd4591332d81b2feaced3b4b5cf85dba00609cbdc4848cc6d7b0f8f9"), looks := false }, kinds := [], alts := [], laidByText := true, laidKinds := [.data, .data, .data], laidTests := true, laidLooks := .later }
def FnExactSaveCatalogCardSaid : Prop := Claim7.holds Tryz.pinned (.plain (OpenSpec.ofChange fnExactSaveCatalogSpec)) fnExactSaveCatalogCard

/-- THE SECOND FORM's CARD OF 'laws.FnExactObjectText'. -/
def fnExactObjectTextUptoCard : Claim7 := { stood := { row := fnExactObjectTextUptoRow, standIns := [], harness := (true, "e78e1e19cd4591332d81b2feaced3b4b5cf85dba00609cbdc4848cc6d7b0f8f9"), looks := false }, kinds := [], alts := [], laidByText := true, laidKinds := [.data, .data, .data], laidTests := true, laidLooks := .later }
def FnExactObjectTextUptoCardSaid : Prop := Claim7.holds Tryz.pinned (.plain (OpenSpec.upto fnExactObjectTextSpec)) fnExactObjectTextUptoCard

/-- THE SECOND FORM's CARD OF 'laws.FnExactItemLine'. -/
def fnExactItemLineUptoCard : Claim7 := { stood := { row := fnExactItemLineUptoRow, standIns := [], harness := (true, "e78e1e19cd4591332d81b2feaced3b4b5cf85dba00609cbdc4848cc6d7b0f8f9"), looks := false }, kinds := [], alts := [], laidByText := true, laidKinds := [.data, .data, .data], laidTests := true, laidLooks := .later }
def FnExactItemLineUptoCardSaid : Prop := Claim7.holds Tryz.pinned (.plain (OpenSpec.upto fnExactItemLineSpec)) fnExactItemLineUptoCard

/-- THE SECOND FORM's CARD OF 'laws.FnExactSaveCatalog'. -/
def fnExactSaveCatalogUptoCard : Claim7 := { stood := { row := fnExactSaveCatalogUptoRow, standIns := [], harness := (true, "e78e1e19cd4591332d81b2feaced3b4b5cf85dba00609cbdc4848cc6d7b0f8f9"), looks := false }, kinds := [], alts := [], laidByText := true, laidKinds := [.data, .data, .data], laidTests := true, laidLooks := .later }
def FnExactSaveCatalogUptoCardSaid : Prop := Claim7.holds Tryz.pinned (.plain (OpenSpec.upto fnExactSaveCatalogSpec)) fnExactSaveCatalogUptoCard
end Rows
end Go.Proofs.YtocnokjekoglnaaGreatDoor
