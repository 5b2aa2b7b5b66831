/-
  DERIVED. GIVEN WITH THE SEED: THE CARDS: each row of YtccncimchmimdaaGreatDoorRows.lean that lists a variable, with what it lists TIED to the program's text (the seventh form; the later family's looks); each row that meets fmt, with fmt's text TOLD by the authors' own Lean function (tested against real Go, not proved from fmt's source: count such statements apart). THE CARD IS WHAT COUNTS. Prove the row's statement (the work); the ties are given (YtccncimchmimdaaGreatDoorTie.lean); close each card by the builder's one call (the guide's Derived/Test/ToyasCard.lean, 'card_holds'). Laid BY PROGRAM, IN A SANDBOX (cutbox-door.mjs). By AI agents, Wed Nov 11 2026. No macro, syntax, notation, axiom, sorry.
-/
import Derived.Test.YtccncimchmimdaaGreatDoorRows
import GoSem.ClaimSeven
namespace Go.Proofs.YtccncimchmimdaaGreatDoor
namespace Rows

/-- THE TIED CARD OF 'laws.FnExactCertificateOfObject'. -/
def fnExactCertificateOfObjectCard : Claim7 := { stood := { row := fnExactCertificateOfObjectRow, standIns := [], harness := (true, "774fe74cb79b43f2de65dbb087fd1eca0bbd7e002b6912716e00587e1060e359"), looks := false }, kinds := [], alts := [], laidByText := true, laidKinds := [.data, .data, .data], laidTests := true, laidLooks := .later }
def FnExactCertificateOfObjectCardSaid : Prop := Claim7.holds Tryz.pinned (.plain (OpenSpec.ofChange fnExactCertificateOfObjectSpec)) fnExactCertificateOfObjectCard

/-- THE SECOND FORM's CARD OF 'laws.FnExactCertificateOfObject'. -/
def fnExactCertificateOfObjectUptoCard : Claim7 := { stood := { row := fnExactCertificateOfObjectUptoRow, standIns := [], harness := (true, "774fe74cb79b43f2de65dbb087fd1eca0bbd7e002b6912716e00587e1060e359"), looks := false }, kinds := [], alts := [], laidByText := true, laidKinds := [.data, .data, .data], laidTests := true, laidLooks := .later }
def FnExactCertificateOfObjectUptoCardSaid : Prop := Claim7.holds Tryz.pinned (.plain (OpenSpec.upto fnExactCertificateOfObjectSpec)) fnExactCertificateOfObjectUptoCard
end Rows
end Go.Proofs.YtccncimchmimdaaGreatDoor
