/-
  No cell of these rows narrows 'for every input' (looked for: loops, veiled, ifaces, maps, wideKeys, modest, calm, conditions, laid).
  DERIVED. THE GIVEN ROWS OF THIS SEAT. 7 by the template 'for every input the law returns true; each argument reads behind the call as it read before'; 0 by the template 'total and deterministic' (their statements: YtapkemdomnkccaaGreatTotals.lean).
  GIVEN WITH THE SEED: the statements are not yours to turn. If you find one false, say at which input.
  Laid BY PROGRAM, IN A SANDBOX (cutbox-rows.mjs): the forced cells as the released guide's own fill.sh prints them over the translation f47b328c80f8bff1… (all of the seat's roots in one cut). By AI agents, Wed Nov 11 2026. No macro, syntax, notation, axiom, sorry.
-/
import Derived.Test.YtapkemdomnkccaaGreatChecked
import GoSem.Claim
import GoSem.ClaimJoined
import GoSem.ClaimMapViews
import Derived.JoinedTies
import Derived.KernelRfl
namespace Go.Proofs.YtapkemdomnkccaaGreat
/- THE CELL 'sum', in the pinned program and in every row, IS THE sha256 OF THE DUMP (.gsa) THAT YtapkemdomnkccaaGreatProg.lean LOADS. Nothing in Lean hashes anything: it is a label: what it is worth is what the hold of that sum in a sandbox is worth. -/
noncomputable def Tryz.pinned : Pinned := { name := "ytapkemdomnkccaagreat", sum := "f47b328c80f8bff1105a13dec1dcadd9209935bf1f3676a1b843d94fe3915717", checked := Tryz.checked }
namespace Rows
def none {H : Type} : Left H := { results := [], args := [] }

/-- 'laws.FnExactPrescribedDesign': WHATEVER THE INPUT: true; the input reads as it did. -/
def fnExactPrescribedDesignSpec : ChangeSpec := { name := "fnExactPrescribedDesign", fn := fun _ => fun
  | [d1, d2, d3, d4, d5] => { results := [.lit (.bool true)], args := [d1, d2, d3, d4, d5] }
  | _ => none }
def fnExactPrescribedDesignRow : OpenClaim := { program := "ytapkemdomnkccaagreat", sum := "f47b328c80f8bff1105a13dec1dcadd9209935bf1f3676a1b843d94fe3915717", func := "loop.example/g00920/laws.FnExactPrescribedDesign", spec := "fnExactPrescribedDesign", unfollowed := true, recurses := true, apart := false }
def FnExactPrescribedDesignSaid : Prop := fnExactPrescribedDesignRow.holds Tryz.pinned (OpenSpec.ofChange fnExactPrescribedDesignSpec)

/-- ITS FALSE NEIGHBOUR: 'it returns false'. Refute it at one input. -/
def fnExactPrescribedDesignWrong : ChangeSpec := { name := "fnExactPrescribedDesign", fn := fun _ => fun
  | [d1, d2, d3, d4, d5] => { results := [.lit (.bool false)], args := [d1, d2, d3, d4, d5] }
  | _ => none }
def FnExactPrescribedDesignWrongFalsely : Prop := fnExactPrescribedDesignRow.holds Tryz.pinned (OpenSpec.ofChange fnExactPrescribedDesignWrong)

/-- 'laws.FnExactGraphOfObject': WHATEVER THE INPUT: true; the input reads as it did. -/
def fnExactGraphOfObjectSpec : ChangeSpec := { name := "fnExactGraphOfObject", fn := fun _ => fun
  | [d] => { results := [.lit (.bool true)], args := [d] }
  | _ => none }
def fnExactGraphOfObjectRow : OpenClaim := { program := "ytapkemdomnkccaagreat", sum := "f47b328c80f8bff1105a13dec1dcadd9209935bf1f3676a1b843d94fe3915717", func := "loop.example/g00920/laws.FnExactGraphOfObject", spec := "fnExactGraphOfObject", unfollowed := true, recurses := true, apart := false }
def FnExactGraphOfObjectSaid : Prop := fnExactGraphOfObjectRow.holds Tryz.pinned (OpenSpec.ofChange fnExactGraphOfObjectSpec)

/-- ITS FALSE NEIGHBOUR: 'it returns false'. Refute it at one input. -/
def fnExactGraphOfObjectWrong : ChangeSpec := { name := "fnExactGraphOfObject", fn := fun _ => fun
  | [d] => { results := [.lit (.bool false)], args := [d] }
  | _ => none }
def FnExactGraphOfObjectWrongFalsely : Prop := fnExactGraphOfObjectRow.holds Tryz.pinned (OpenSpec.ofChange fnExactGraphOfObjectWrong)

/-- 'laws.FnExactValidCatalog': WHATEVER THE INPUT: true; the input reads as it did. -/
def fnExactValidCatalogSpec : ChangeSpec := { name := "fnExactValidCatalog", fn := fun _ => fun
  | [d] => { results := [.lit (.bool true)], args := [d] }
  | _ => none }
def fnExactValidCatalogRow : OpenClaim := { program := "ytapkemdomnkccaagreat", sum := "f47b328c80f8bff1105a13dec1dcadd9209935bf1f3676a1b843d94fe3915717", func := "loop.example/g00920/laws.FnExactValidCatalog", spec := "fnExactValidCatalog", unfollowed := true, recurses := true, apart := false }
def FnExactValidCatalogSaid : Prop := fnExactValidCatalogRow.holds Tryz.pinned (OpenSpec.ofChange fnExactValidCatalogSpec)

/-- ITS FALSE NEIGHBOUR: 'it returns false'. Refute it at one input. -/
def fnExactValidCatalogWrong : ChangeSpec := { name := "fnExactValidCatalog", fn := fun _ => fun
  | [d] => { results := [.lit (.bool false)], args := [d] }
  | _ => none }
def FnExactValidCatalogWrongFalsely : Prop := fnExactValidCatalogRow.holds Tryz.pinned (OpenSpec.ofChange fnExactValidCatalogWrong)

/-- 'laws.FnExactItemsOfKind': WHATEVER THE INPUT: true; the input reads as it did. -/
def fnExactItemsOfKindSpec : ChangeSpec := { name := "fnExactItemsOfKind", fn := fun _ => fun
  | [d1, d2] => { results := [.lit (.bool true)], args := [d1, d2] }
  | _ => none }
def fnExactItemsOfKindRow : OpenClaim := { program := "ytapkemdomnkccaagreat", sum := "f47b328c80f8bff1105a13dec1dcadd9209935bf1f3676a1b843d94fe3915717", func := "loop.example/g00920/laws.FnExactItemsOfKind", spec := "fnExactItemsOfKind", unfollowed := true, recurses := true, apart := false }
def FnExactItemsOfKindSaid : Prop := fnExactItemsOfKindRow.holds Tryz.pinned (OpenSpec.ofChange fnExactItemsOfKindSpec)

/-- ITS FALSE NEIGHBOUR: 'it returns false'. Refute it at one input. -/
def fnExactItemsOfKindWrong : ChangeSpec := { name := "fnExactItemsOfKind", fn := fun _ => fun
  | [d1, d2] => { results := [.lit (.bool false)], args := [d1, d2] }
  | _ => none }
def FnExactItemsOfKindWrongFalsely : Prop := fnExactItemsOfKindRow.holds Tryz.pinned (OpenSpec.ofChange fnExactItemsOfKindWrong)

/-- 'laws.FnExactItemNamed': WHATEVER THE INPUT: true; the input reads as it did. -/
def fnExactItemNamedSpec : ChangeSpec := { name := "fnExactItemNamed", fn := fun _ => fun
  | [d1, d2] => { results := [.lit (.bool true)], args := [d1, d2] }
  | _ => none }
def fnExactItemNamedRow : OpenClaim := { program := "ytapkemdomnkccaagreat", sum := "f47b328c80f8bff1105a13dec1dcadd9209935bf1f3676a1b843d94fe3915717", func := "loop.example/g00920/laws.FnExactItemNamed", spec := "fnExactItemNamed", unfollowed := true, recurses := true, apart := false }
def FnExactItemNamedSaid : Prop := fnExactItemNamedRow.holds Tryz.pinned (OpenSpec.ofChange fnExactItemNamedSpec)

/-- ITS FALSE NEIGHBOUR: 'it returns false'. Refute it at one input. -/
def fnExactItemNamedWrong : ChangeSpec := { name := "fnExactItemNamed", fn := fun _ => fun
  | [d1, d2] => { results := [.lit (.bool false)], args := [d1, d2] }
  | _ => none }
def FnExactItemNamedWrongFalsely : Prop := fnExactItemNamedRow.holds Tryz.pinned (OpenSpec.ofChange fnExactItemNamedWrong)

/-- 'laws.FnExactDropItem': WHATEVER THE INPUT: true; the input reads as it did. -/
def fnExactDropItemSpec : ChangeSpec := { name := "fnExactDropItem", fn := fun _ => fun
  | [d1, d2] => { results := [.lit (.bool true)], args := [d1, d2] }
  | _ => none }
def fnExactDropItemRow : OpenClaim := { program := "ytapkemdomnkccaagreat", sum := "f47b328c80f8bff1105a13dec1dcadd9209935bf1f3676a1b843d94fe3915717", func := "loop.example/g00920/laws.FnExactDropItem", spec := "fnExactDropItem", unfollowed := true, recurses := true, apart := false }
def FnExactDropItemSaid : Prop := fnExactDropItemRow.holds Tryz.pinned (OpenSpec.ofChange fnExactDropItemSpec)

/-- ITS FALSE NEIGHBOUR: 'it returns false'. Refute it at one input. -/
def fnExactDropItemWrong : ChangeSpec := { name := "fnExactDropItem", fn := fun _ => fun
  | [d1, d2] => { results := [.lit (.bool false)], args := [d1, d2] }
  | _ => none }
def FnExactDropItemWrongFalsely : Prop := fnExactDropItemRow.holds Tryz.pinned (OpenSpec.ofChange fnExactDropItemWrong)

/-- 'laws.FnExactMergeCatalogs': WHATEVER THE INPUT: true; the input reads as it did. -/
def fnExactMergeCatalogsSpec : ChangeSpec := { name := "fnExactMergeCatalogs", fn := fun _ => fun
  | [d1, d2] => { results := [.lit (.bool true)], args := [d1, d2] }
  | _ => none }
def fnExactMergeCatalogsRow : OpenClaim := { program := "ytapkemdomnkccaagreat", sum := "f47b328c80f8bff1105a13dec1dcadd9209935bf1f3676a1b843d94fe3915717", func := "loop.example/g00920/laws.FnExactMergeCatalogs", spec := "fnExactMergeCatalogs", inPlace := ["slices.overlaps[loop.example/g00920/impl.Item]"], unfollowed := true, recurses := true, apart := false }
def FnExactMergeCatalogsSaid : Prop := fnExactMergeCatalogsRow.holds Tryz.pinned (OpenSpec.ofChange fnExactMergeCatalogsSpec)

/-- ITS FALSE NEIGHBOUR: 'it returns false'. Refute it at one input. -/
def fnExactMergeCatalogsWrong : ChangeSpec := { name := "fnExactMergeCatalogs", fn := fun _ => fun
  | [d1, d2] => { results := [.lit (.bool false)], args := [d1, d2] }
  | _ => none }
def FnExactMergeCatalogsWrongFalsely : Prop := fnExactMergeCatalogsRow.holds Tryz.pinned (OpenSpec.ofChange fnExactMergeCatalogsWrong)

/- THE SECOND FORM. 'bulk': how many values and letters a reading holds, each counted each time it is reached (what is shared counts as often as it is met; a slice's spare places count too). A statement '..UptoSaid' is the law's where the arguments, and the package variables that the reading takes, are together of bulk at most 1048576: NARROWER than '..Said'. Prove '..Said' where nothing that the law and all that it calls make is longer than what came in: it says more and counts as full. Else prove '..UptoSaid'. A law counts once. -/
mutual
def uptoBulk {H : Type} : DataW H → Nat
  | .lit (.string bytes) => bytes.length + 1
  | .lit _ => 1
  | .nil => 1
  | .ptr d => uptoBulk d + 1
  | .slice elems spare => uptoBulkAll elems + uptoBulkAll spare + 1
  | .agg parts => uptoBulkAll parts + 1
  | .iface _ d => uptoBulk d + 1
  | .map entries => uptoBulkEntries entries + 1
  | .held _ => 1
def uptoBulkAll {H : Type} : List (DataW H) → Nat
  | [] => 0
  | d :: r => uptoBulk d + uptoBulkAll r
def uptoBulkEntries {H : Type} : List (Lit × DataW H) → Nat
  | [] => 0
  | x :: r => uptoBulkEntry x + uptoBulkEntries r
def uptoBulkEntry {H : Type} : Lit × DataW H → Nat
  | (.string bytes, d) => bytes.length + uptoBulk d + 1
  | (_, d) => uptoBulk d + 1
 end
def uptoSmall : (H : Type) → List (DataW H) → Bool := fun _ ds => decide (uptoBulkAll ds ≤ 1048576)
def OpenSpec.upto (s : _root_.Go.ChangeSpec) : _root_.Go.OpenSpec := { _root_.Go.OpenSpec.ofChange s with cond := some uptoSmall }

/-- 'laws.FnExactPrescribedDesign', WHERE WHAT IT READS IS OF BULK AT MOST 1048576: true; the input reads as it did. -/
def fnExactPrescribedDesignUptoRow : OpenClaim := { program := "ytapkemdomnkccaagreat", sum := "f47b328c80f8bff1105a13dec1dcadd9209935bf1f3676a1b843d94fe3915717", func := "loop.example/g00920/laws.FnExactPrescribedDesign", spec := "fnExactPrescribedDesign", unfollowed := true, recurses := true, apart := false, narrowed := true }
def FnExactPrescribedDesignUptoSaid : Prop := fnExactPrescribedDesignUptoRow.holds Tryz.pinned (OpenSpec.upto fnExactPrescribedDesignSpec)

/-- 'laws.FnExactGraphOfObject', WHERE WHAT IT READS IS OF BULK AT MOST 1048576: true; the input reads as it did. -/
def fnExactGraphOfObjectUptoRow : OpenClaim := { program := "ytapkemdomnkccaagreat", sum := "f47b328c80f8bff1105a13dec1dcadd9209935bf1f3676a1b843d94fe3915717", func := "loop.example/g00920/laws.FnExactGraphOfObject", spec := "fnExactGraphOfObject", unfollowed := true, recurses := true, apart := false, narrowed := true }
def FnExactGraphOfObjectUptoSaid : Prop := fnExactGraphOfObjectUptoRow.holds Tryz.pinned (OpenSpec.upto fnExactGraphOfObjectSpec)

/-- 'laws.FnExactValidCatalog', WHERE WHAT IT READS IS OF BULK AT MOST 1048576: true; the input reads as it did. -/
def fnExactValidCatalogUptoRow : OpenClaim := { program := "ytapkemdomnkccaagreat", sum := "f47b328c80f8bff1105a13dec1dcadd9209935bf1f3676a1b843d94fe3915717", func := "loop.example/g00920/laws.FnExactValidCatalog", spec := "fnExactValidCatalog", unfollowed := true, recurses := true, apart := false, narrowed := true }
def FnExactValidCatalogUptoSaid : Prop := fnExactValidCatalogUptoRow.holds Tryz.pinned (OpenSpec.upto fnExactValidCatalogSpec)

/-- 'laws.FnExactItemsOfKind', WHERE WHAT IT READS IS OF BULK AT MOST 1048576: true; the input reads as it did. -/
def fnExactItemsOfKindUptoRow : OpenClaim := { program := "ytapkemdomnkccaagreat", sum := "f47b328c80f8bff1105a13dec1dcadd9209935bf1f3676a1b843d94fe3915717", func := "loop.example/g00920/laws.FnExactItemsOfKind", spec := "fnExactItemsOfKind", unfollowed := true, recurses := true, apart := false, narrowed := true }
def FnExactItemsOfKindUptoSaid : Prop := fnExactItemsOfKindUptoRow.holds Tryz.pinned (OpenSpec.upto fnExactItemsOfKindSpec)

/-- 'laws.FnExactItemNamed', WHERE WHAT IT READS IS OF BULK AT MOST 1048576: true; the input reads as it did. -/
def fnExactItemNamedUptoRow : OpenClaim := { program := "ytapkemdomnkccaagreat", sum := "f47b328c80f8bff1105a13dec1dcadd9209935bf1f3676a1b843d94fe3915717", func := "loop.example/g00920/laws.FnExactItemNamed", spec := "fnExactItemNamed", unfollowed := true, recurses := true, apart := false, narrowed := true }
def FnExactItemNamedUptoSaid : Prop := fnExactItemNamedUptoRow.holds Tryz.pinned (OpenSpec.upto fnExactItemNamedSpec)

/-- 'laws.FnExactDropItem', WHERE WHAT IT READS IS OF BULK AT MOST 1048576: true; the input reads as it did. -/
def fnExactDropItemUptoRow : OpenClaim := { program := "ytapkemdomnkccaagreat", sum := "f47b328c80f8bff1105a13dec1dcadd9209935bf1f3676a1b843d94fe3915717", func := "loop.example/g00920/laws.FnExactDropItem", spec := "fnExactDropItem", unfollowed := true, recurses := true, apart := false, narrowed := true }
def FnExactDropItemUptoSaid : Prop := fnExactDropItemUptoRow.holds Tryz.pinned (OpenSpec.upto fnExactDropItemSpec)

/-- 'laws.FnExactMergeCatalogs', WHERE WHAT IT READS IS OF BULK AT MOST 1048576: true; the input reads as it did. -/
def fnExactMergeCatalogsUptoRow : OpenClaim := { program := "ytapkemdomnkccaagreat", sum := "f47b328c80f8bff1105a13dec1dcadd9209935bf1f3676a1b843d94fe3915717", func := "loop.example/g00920/laws.FnExactMergeCatalogs", spec := "fnExactMergeCatalogs", inPlace := ["slices.overlaps[loop.example/g00920/impl.Item]"], unfollowed := true, recurses := true, apart := false, narrowed := true }
def FnExactMergeCatalogsUptoSaid : Prop := fnExactMergeCatalogsUptoRow.holds Tryz.pinned (OpenSpec.upto fnExactMergeCatalogsSpec)

end Rows
end Go.Proofs.YtapkemdomnkccaaGreat
