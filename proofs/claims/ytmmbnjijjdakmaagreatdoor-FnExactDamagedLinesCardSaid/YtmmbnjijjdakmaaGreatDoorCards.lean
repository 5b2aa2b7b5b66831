/-
  DERIVED. GIVEN WITH THE SEED: THE CARDS: each row of YtmmbnjijjdakmaaGreatDoorRows.lean that lists a variable, with what it lists TIED to the program's text (the seventh form; the later family's looks); each row that meets fmt, with fmt's text TOLD by the authors' own Lean function (tested against real Go, not proved from fmt's source: count such statements apart). THE CARD IS WHAT COUNTS. Prove the row's statement (the work); the ties are given (YtmmbnjijjdakmaaGreatDoorTie.lean); close each card by the builder's one call (the guide's Derived/Test/ToyasCard.lean, 'card_holds'). Laid BY PROGRAM, IN A SANDBOX (cutbox-door.mjs). By AI agents, Wed Nov 11 2026. No macro, syntax, notation, axiom, sorry.
-/
import Derived.Test.YtmmbnjijjdakmaaGreatDoorRows
import GoSem.ClaimSeven
namespace Go.Proofs.YtmmbnjijjdakmaaGreatDoor
namespace Rows

/-- THE TIED CARD OF 'laws.FnExactReadObject'. -/
def fnExactReadObjectCard : Claim7 := { stood := { row := fnExactReadObjectRow, standIns := [], harness := (true, "31382b719a2c7db278834f953222005671cf60672bd2f7ce11896add1d313c09"), looks := true }, kinds := [], alts := [], laidByText := true, laidKinds := [.data, .data, .data, .data, .sentinel, .sentinel, .pinned], laidTests := true, laidLooks := .later }
def FnExactReadObjectCardSaid : Prop := Claim7.holds Tryz.pinned (.plain (OpenSpec.ofChange fnExactReadObjectSpec)) fnExactReadObjectCard

/-- THE TIED CARD OF 'laws.FnExactObjectFacts'. -/
def fnExactObjectFactsCard : Claim7 := { stood := { row := fnExactObjectFactsRow, standIns := [], harness := (true, "31382b719a2c7db278834f953222005671cf60672bd2f7ce11896add1d313c09"), looks := true }, kinds := [], alts := [], laidByText := true, laidKinds := [.data, .data, .data], laidTests := true, laidLooks := .later }
def FnExactObjectFactsCardSaid : Prop := Claim7.holds Tryz.pinned (.plain (OpenSpec.ofChange fnExactObjectFactsSpec)) fnExactObjectFactsCard

/-- THE TIED CARD OF 'laws.FnExactCertificateOfObject'. -/
def fnExactCertificateOfObjectCard : Claim7 := { stood := { row := fnExactCertificateOfObjectRow, standIns := [], harness := (true, "31382b719a2c7db278834f953222005671cf60672bd2f7ce11896add1d313c09"), looks := true }, kinds := [], alts := [], laidByText := true, laidKinds := [.data, .data, .data], laidTests := true, laidLooks := .later }
def FnExactCertificateOfObjectCardSaid : Prop := Claim7.holds Tryz.pinned (.plain (OpenSpec.ofChange fnExactCertificateOfObjectSpec)) fnExactCertificateOfObjectCard

/-- THE TIED CARD OF 'laws.FnExactDamagedLines'. -/
def fnExactDamagedLinesCard : Claim7 := { stood := { row := fnExactDamagedLinesRow, standIns := [], harness := (true, "31382b719a2c7db278834f953222005671cf60672bd2f7ce11896add1d313c09"), looks := true }, kinds := [], alts := [], laidByText := true, laidKinds := [.data, .data, .data, .data, .sentinel, .sentinel, .pinned], laidTests := true, laidLooks := .later }
def FnExactDamagedLinesCardSaid : Prop := Claim7.holds Tryz.pinned (.plain (OpenSpec.ofChange fnExactDamagedLinesSpec)) fnExactDamagedLinesCard

/-- THE SECOND FORM's CARD OF 'laws.FnExactReadObject'. -/
def fnExactReadObjectUptoCard : Claim7 := { stood := { row := fnExactReadObjectUptoRow, standIns := [], harness := (true, "31382b719a2c7db278834f953222005671cf60672bd2f7ce11896add1d313c09"), looks := true }, kinds := [], alts := [], laidByText := true, laidKinds := [.data, .data, .data, .data, .sentinel, .sentinel, .pinned], laidTests := true, laidLooks := .later }
def FnExactReadObjectUptoCardSaid : Prop := Claim7.holds Tryz.pinned (.plain (OpenSpec.upto fnExactReadObjectSpec)) fnExactReadObjectUptoCard

/-- THE SECOND FORM's CARD OF 'laws.FnExactObjectFacts'. -/
def fnExactObjectFactsUptoCard : Claim7 := { stood := { row := fnExactObjectFactsUptoRow, standIns := [], harness := (true, "31382b719a2c7db278834f953222005671cf60672bd2f7ce11896add1d313c09"), looks := true }, kinds := [], alts := [], laidByText := true, laidKinds := [.data, .data, .data], laidTests := true, laidLooks := .later }
def FnExactObjectFactsUptoCardSaid : Prop := Claim7.holds Tryz.pinned (.plain (OpenSpec.upto fnExactObjectFactsSpec)) fnExactObjectFactsUptoCard

/-- THE SECOND FORM's CARD OF 'laws.FnExactCertificateOfObject'. -/
def fnExactCertificateOfObjectUptoCard : Claim7 := { stood := { row := fnExactCertificateOfObjectUptoRow, standIns := [], harness := (true, "31382b719a2c7db278834f953222005671cf60672bd2f7ce11896add1d313c09"), looks := true }, kinds := [], alts := [], laidByText := true, laidKinds := [.data, .data, .data], laidTests := true, laidLooks := .later }
def FnExactCertificateOfObjectUptoCardSaid : Prop := Claim7.holds Tryz.pinned (.plain (OpenSpec.upto fnExactCertificateOfObjectSpec)) fnExactCertificateOfObjectUptoCard

/-- THE SECOND FORM's CARD OF 'laws.FnExactDamagedLines'. -/
def fnExactDamagedLinesUptoCard : Claim7 := { stood := { row := fnExactDamagedLinesUptoRow, standIns := [], harness := (true, "31382b719a2c7db278834f953222005671cf60672bd2f7ce11896add1d313c09"), looks := true }, kinds := [], alts := [], laidByText := true, laidKinds := [.data, .data, .data, .data, .sentinel, .sentinel, .pinned], laidTests := true, laidLooks := .later }
def FnExactDamagedLinesUptoCardSaid : Prop := Claim7.holds Tryz.pinned (.plain (OpenSpec.upto fnExactDamagedLinesSpec)) fnExactDamagedLinesUptoCard
end Rows
end Go.Proofs.YtmmbnjijjdakmaaGreatDoor
