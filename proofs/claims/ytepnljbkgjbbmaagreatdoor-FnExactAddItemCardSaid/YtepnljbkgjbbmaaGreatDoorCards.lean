/-
  DERIVED. GIVEN WITH THE SEED: THE CARDS: each row of YtepnljbkgjbbmaaGreatDoorRows.lean that lists a variable, with what it lists TIED to the program's text (the seventh form; the later family's looks); each row that meets fmt, with fmt's text TOLD by the authors' own Lean function (tested against real Go, not proved from fmt's source: count such statements apart). THE CARD IS WHAT COUNTS. Prove the row's statement (the work); the ties are given (YtepnljbkgjbbmaaGreatDoorTie.lean); close each card by the builder's one call (the guide's Derived/Test/ToyasCard.lean, 'card_holds'). Laid BY PROGRAM, IN A SANDBOX (cutbox-door.mjs). By AI agents, Wed Nov 11 2026. No macro, syntax, notation, axiom, sorry.
-/
import Derived.Test.YtepnljbkgjbbmaaGreatDoorRows
import GoSem.ClaimSeven
namespace Go.Proofs.YtepnljbkgjbbmaaGreatDoor
namespace Rows

/-- THE TIED CARD OF 'laws.FnExactItemLike'. -/
def fnExactItemLikeCard : Claim7 := { stood := { row := fnExactItemLikeRow, standIns := [], harness := (true, "d55967f786f19dca8133287e143a67958ec4865dc96a39962dec9a7ff9bccd05"), looks := false }, kinds := [], alts := [], laidByText := true, laidKinds := [.data, .data, .data], laidTests := true, laidLooks := .later }
def FnExactItemLikeCardSaid : Prop := Claim7.holds Tryz.pinned (.plain (OpenSpec.ofChange fnExactItemLikeSpec)) fnExactItemLikeCard

/-- THE TIED CARD OF 'laws.FnExactAddItem'. -/
def fnExactAddItemCard : Claim7 := { stood := { row := fnExactAddItemRow, standIns := [], harness := (true, "d55967f786f19dca8133287e143a67958ec4865dc96a39962dec9a7ff9bccd05"), looks := false }, kinds := [], alts := [], laidByText := true, laidKinds := [.data, .data, .data], laidTests := true, laidLooks := .later }
def FnExactAddItemCardSaid : Prop := Claim7.holds Tryz.pinned (.plain (OpenSpec.ofChange fnExactAddItemSpec)) fnExactAddItemCard

/-- THE SECOND FORM's CARD OF 'laws.FnExactItemLike'. -/
def fnExactItemLikeUptoCard : Claim7 := { stood := { row := fnExactItemLikeUptoRow, standIns := [], harness := (true, "d55967f786f19dca8133287e143a67958ec4865dc96a39962dec9a7ff9bccd05"), looks := false }, kinds := [], alts := [], laidByText := true, laidKinds := [.data, .data, .data], laidTests := true, laidLooks := .later }
def FnExactItemLikeUptoCardSaid : Prop := Claim7.holds Tryz.pinned (.plain (OpenSpec.upto fnExactItemLikeSpec)) fnExactItemLikeUptoCard

/-- THE SECOND FORM's CARD OF 'laws.FnExactAddItem'. -/
def fnExactAddItemUptoCard : Claim7 := { stood := { row := fnExactAddItemUptoRow, standIns := [], harness := (true, "d55967f786f19dca8133287e143a67958ec4865dc96a39962dec9a7ff9bccd05"), looks := false }, kinds := [], alts := [], laidByText := true, laidKinds := [.data, .data, .data], laidTests := true, laidLooks := .later }
def FnExactAddItemUptoCardSaid : Prop := Claim7.holds Tryz.pinned (.plain (OpenSpec.upto fnExactAddItemSpec)) fnExactAddItemUptoCard
end Rows
end Go.Proofs.YtepnljbkgjbbmaaGreatDoor
