/-
  DERIVED. GIVEN WITH THE SEED: THE CARDS: each row of YtghbgeaammnkcaaGreatDoorRows.lean that lists a variable, with what it lists TIED to the program's text (the seventh form; the later family's looks); each row that meets fmt, with fmt's text TOLD by the authors' own Lean function (tested against real Go, not proved from fmt's source: count such statements apart). THE CARD IS WHAT COUNTS. Prove the row's statement (the work); the ties are given (YtghbgeaammnkcaaGreatDoorTie.lean); close each card by the builder's one call (the guide's Derived/Test/ToyasCard.lean, 'card_holds'). Laid BY PROGRAM, IN A SANDBOX (cutbox-door.mjs). By AI agents, Wed Nov 11 2026. No macro, syntax, notation, axiom, sorry.
-/
import Derived.Test.YtghbgeaammnkcaaGreatDoorRows
import GoSem.ClaimSeven
namespace Go.Proofs.YtghbgeaammnkcaaGreatDoor
namespace Rows

/-- THE TIED CARD OF 'laws.FnExactObjectFacts'. -/
def fnExactObjectFactsCard : Claim7 := { stood := { row := fnExactObjectFactsRow, standIns := [], harness := (true, "3dd3dfef783bd312d38080db40038b594a222ca3634fa46b9ae7b0d6f11994a5"), looks := false }, kinds := [], alts := [], laidByText := true, laidKinds := [.data, .data, .data], laidTests := true, laidLooks := .later }
def FnExactObjectFactsCardSaid : Prop := Claim7.holds Tryz.pinned (.plain (OpenSpec.ofChange fnExactObjectFactsSpec)) fnExactObjectFactsCard

/-- THE TIED CARD OF 'laws.FnExactCertificateOfObject'. -/
def fnExactCertificateOfObjectCard : Claim7 := { stood := { row := fnExactCertificateOfObjectRow, standIns := [], harness := (true, "3dd3dfef783bd312d38080db40038b594a222ca3634fa46b9ae7b0d6f11994a5"), looks := false }, kinds := [], alts := [], laidByText := true, laidKinds := [.data, .data, .data], laidTests := true, laidLooks := .later }
def FnExactCertificateOfObjectCardSaid : Prop := Claim7.holds Tryz.pinned (.plain (OpenSpec.ofChange fnExactCertificateOfObjectSpec)) fnExactCertificateOfObjectCard

/-- THE SECOND FORM's CARD OF 'laws.FnExactObjectFacts'. -/
def fnExactObjectFactsUptoCard : Claim7 := { stood := { row := fnExactObjectFactsUptoRow, standIns := [], harness := (true, "3dd3dfef783bd312d38080db40038b594a222ca3634fa46b9ae7b0d6f11994a5"), looks := false }, kinds := [], alts := [], laidByText := true, laidKinds := [.data, .data, .data], laidTests := true, laidLooks := .later }
def FnExactObjectFactsUptoCardSaid : Prop := Claim7.holds Tryz.pinned (.plain (OpenSpec.upto fnExactObjectFactsSpec)) fnExactObjectFactsUptoCard

/-- THE SECOND FORM's CARD OF 'laws.FnExactCertificateOfObject'. -/
def fnExactCertificateOfObjectUptoCard : Claim7 := { stood := { row := fnExactCertificateOfObjectUptoRow, standIns := [], harness := (true, "3dd3dfef783bd312d38080db40038b594a222ca3634fa46b9ae7b0d6f11994a5"), looks := false }, kinds := [], alts := [], laidByText := true, laidKinds := [.data, .data, .data], laidTests := true, laidLooks := .later }
def FnExactCertificateOfObjectUptoCardSaid : Prop := Claim7.holds Tryz.pinned (.plain (OpenSpec.upto fnExactCertificateOfObjectSpec)) fnExactCertificateOfObjectUptoCard
end Rows
end Go.Proofs.YtghbgeaammnkcaaGreatDoor
