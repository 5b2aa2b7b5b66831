/-
  No cell of these rows narrows 'for every input' (looked for: loops, veiled, ifaces, maps, wideKeys, modest, calm, conditions, laid).
  DERIVED. THE GIVEN ROWS OF THIS SEAT. 7 by the template 'for every input the law returns true; each argument reads behind the call as it read before'; 0 by the template 'total and deterministic' (their statements: YtieehpcgmjbceaaTotals.lean).
  GIVEN WITH THE SEED: the statements are not yours to turn. If you find one false, say at which input.
  Laid BY PROGRAM, IN A SANDBOX (cutbox-rows.mjs): the forced cells as the released guide's own fill.sh prints them over the translation da94cc881e0dc553… (all of the seat's roots in one cut). By AI agents, Wed Nov 11 2026. No macro, syntax, notation, axiom, sorry.
-/
import Derived.Test.YtieehpcgmjbceaaChecked
import GoSem.Claim
import GoSem.ClaimJoined
import GoSem.ClaimMapViews
import Derived.JoinedTies
import Derived.KernelRfl
namespace Go.Proofs.Ytieehpcgmjbceaa
/- THE CELL 'sum', in the pinned program and in every row, IS THE sha256 OF THE DUMP (.gsa) THAT YtieehpcgmjbceaaProg.lean LOADS. Nothing in Lean hashes anything: it is a label: what it is worth is what the hold of that sum in a sandbox is worth. -/
noncomputable def Try.pinned : Pinned := { name := "ytieehpcgmjbceaa", sum := "da94cc881e0dc55333af6f9dfce89488dcdec3ccdbf4861cd7a946623623dfb4", checked := Try.checked }
namespace Rows
def none {H : Type} : Left H := { results := [], args := [] }

/-- 'laws.FnExactCommandNames': WHATEVER THE INPUT: true; the input reads as it did. -/
def fnExactCommandNamesSpec : ChangeSpec := { name := "fnExactCommandNames", fn := fun _ => fun
  | [] => { results := [.lit (.bool true)], args := [] }
  | _ => none }
def fnExactCommandNamesRow : OpenClaim := { program := "ytieehpcgmjbceaa", sum := "da94cc881e0dc55333af6f9dfce89488dcdec3ccdbf4861cd7a946623623dfb4", func := "loop.example/g00920/laws.FnExactCommandNames", spec := "fnExactCommandNames", apart := false }
def FnExactCommandNamesSaid : Prop := fnExactCommandNamesRow.holds Try.pinned (OpenSpec.ofChange fnExactCommandNamesSpec)

/-- ITS FALSE NEIGHBOUR: 'it returns false'. Refute it at one input. -/
def fnExactCommandNamesWrong : ChangeSpec := { name := "fnExactCommandNames", fn := fun _ => fun
  | [] => { results := [.lit (.bool false)], args := [] }
  | _ => none }
def FnExactCommandNamesWrongFalsely : Prop := fnExactCommandNamesRow.holds Try.pinned (OpenSpec.ofChange fnExactCommandNamesWrong)

/-- 'laws.FnExactVerbNames': WHATEVER THE INPUT: true; the input reads as it did. -/
def fnExactVerbNamesSpec : ChangeSpec := { name := "fnExactVerbNames", fn := fun _ => fun
  | [] => { results := [.lit (.bool true)], args := [] }
  | _ => none }
def fnExactVerbNamesRow : OpenClaim := { program := "ytieehpcgmjbceaa", sum := "da94cc881e0dc55333af6f9dfce89488dcdec3ccdbf4861cd7a946623623dfb4", func := "loop.example/g00920/laws.FnExactVerbNames", spec := "fnExactVerbNames", apart := false }
def FnExactVerbNamesSaid : Prop := fnExactVerbNamesRow.holds Try.pinned (OpenSpec.ofChange fnExactVerbNamesSpec)

/-- ITS FALSE NEIGHBOUR: 'it returns false'. Refute it at one input. -/
def fnExactVerbNamesWrong : ChangeSpec := { name := "fnExactVerbNames", fn := fun _ => fun
  | [] => { results := [.lit (.bool false)], args := [] }
  | _ => none }
def FnExactVerbNamesWrongFalsely : Prop := fnExactVerbNamesRow.holds Try.pinned (OpenSpec.ofChange fnExactVerbNamesWrong)

/-- 'laws.FnExactVerbShape': WHATEVER THE INPUT: true; the input reads as it did. -/
def fnExactVerbShapeSpec : ChangeSpec := { name := "fnExactVerbShape", fn := fun _ => fun
  | [d] => { results := [.lit (.bool true)], args := [d] }
  | _ => none }
def fnExactVerbShapeRow : OpenClaim := { program := "ytieehpcgmjbceaa", sum := "da94cc881e0dc55333af6f9dfce89488dcdec3ccdbf4861cd7a946623623dfb4", func := "loop.example/g00920/laws.FnExactVerbShape", spec := "fnExactVerbShape", unfollowed := true, recurses := true, apart := false }
def FnExactVerbShapeSaid : Prop := fnExactVerbShapeRow.holds Try.pinned (OpenSpec.ofChange fnExactVerbShapeSpec)

/-- ITS FALSE NEIGHBOUR: 'it returns false'. Refute it at one input. -/
def fnExactVerbShapeWrong : ChangeSpec := { name := "fnExactVerbShape", fn := fun _ => fun
  | [d] => { results := [.lit (.bool false)], args := [d] }
  | _ => none }
def FnExactVerbShapeWrongFalsely : Prop := fnExactVerbShapeRow.holds Try.pinned (OpenSpec.ofChange fnExactVerbShapeWrong)

/-- 'laws.FnExactSameCatalog': WHATEVER THE INPUT: true; the input reads as it did. -/
def fnExactSameCatalogSpec : ChangeSpec := { name := "fnExactSameCatalog", fn := fun _ => fun
  | [d1, d2] => { results := [.lit (.bool true)], args := [d1, d2] }
  | _ => none }
def fnExactSameCatalogRow : OpenClaim := { program := "ytieehpcgmjbceaa", sum := "da94cc881e0dc55333af6f9dfce89488dcdec3ccdbf4861cd7a946623623dfb4", func := "loop.example/g00920/laws.FnExactSameCatalog", spec := "fnExactSameCatalog", unfollowed := true, recurses := true, apart := false }
def FnExactSameCatalogSaid : Prop := fnExactSameCatalogRow.holds Try.pinned (OpenSpec.ofChange fnExactSameCatalogSpec)

/-- ITS FALSE NEIGHBOUR: 'it returns false'. Refute it at one input. -/
def fnExactSameCatalogWrong : ChangeSpec := { name := "fnExactSameCatalog", fn := fun _ => fun
  | [d1, d2] => { results := [.lit (.bool false)], args := [d1, d2] }
  | _ => none }
def FnExactSameCatalogWrongFalsely : Prop := fnExactSameCatalogRow.holds Try.pinned (OpenSpec.ofChange fnExactSameCatalogWrong)

/-- 'laws.FnExactCountChoices': WHATEVER THE INPUT: true; the input reads as it did. -/
def fnExactCountChoicesSpec : ChangeSpec := { name := "fnExactCountChoices", fn := fun _ => fun
  | [d1, d2, d3, d4] => { results := [.lit (.bool true)], args := [d1, d2, d3, d4] }
  | _ => none }
def fnExactCountChoicesRow : OpenClaim := { program := "ytieehpcgmjbceaa", sum := "da94cc881e0dc55333af6f9dfce89488dcdec3ccdbf4861cd7a946623623dfb4", func := "loop.example/g00920/laws.FnExactCountChoices", spec := "fnExactCountChoices", unfollowed := true, recurses := true, apart := false }
def FnExactCountChoicesSaid : Prop := fnExactCountChoicesRow.holds Try.pinned (OpenSpec.ofChange fnExactCountChoicesSpec)

/-- ITS FALSE NEIGHBOUR: 'it returns false'. Refute it at one input. -/
def fnExactCountChoicesWrong : ChangeSpec := { name := "fnExactCountChoices", fn := fun _ => fun
  | [d1, d2, d3, d4] => { results := [.lit (.bool false)], args := [d1, d2, d3, d4] }
  | _ => none }
def FnExactCountChoicesWrongFalsely : Prop := fnExactCountChoicesRow.holds Try.pinned (OpenSpec.ofChange fnExactCountChoicesWrong)

/-- 'laws.FnExactChooseOrbits': WHATEVER THE INPUT: true; the input reads as it did. -/
def fnExactChooseOrbitsSpec : ChangeSpec := { name := "fnExactChooseOrbits", fn := fun _ => fun
  | [d1, d2, d3] => { results := [.lit (.bool true)], args := [d1, d2, d3] }
  | _ => none }
def fnExactChooseOrbitsRow : OpenClaim := { program := "ytieehpcgmjbceaa", sum := "da94cc881e0dc55333af6f9dfce89488dcdec3ccdbf4861cd7a946623623dfb4", func := "loop.example/g00920/laws.FnExactChooseOrbits", spec := "fnExactChooseOrbits", unfollowed := true, recurses := true, apart := false }
def FnExactChooseOrbitsSaid : Prop := fnExactChooseOrbitsRow.holds Try.pinned (OpenSpec.ofChange fnExactChooseOrbitsSpec)

/-- ITS FALSE NEIGHBOUR: 'it returns false'. Refute it at one input. -/
def fnExactChooseOrbitsWrong : ChangeSpec := { name := "fnExactChooseOrbits", fn := fun _ => fun
  | [d1, d2, d3] => { results := [.lit (.bool false)], args := [d1, d2, d3] }
  | _ => none }
def FnExactChooseOrbitsWrongFalsely : Prop := fnExactChooseOrbitsRow.holds Try.pinned (OpenSpec.ofChange fnExactChooseOrbitsWrong)

/-- 'laws.FnExactSameLab': WHATEVER THE INPUT: true; the input reads as it did. -/
def fnExactSameLabSpec : ChangeSpec := { name := "fnExactSameLab", fn := fun _ => fun
  | [d1, d2] => { results := [.lit (.bool true)], args := [d1, d2] }
  | _ => none }
def fnExactSameLabRow : OpenClaim := { program := "ytieehpcgmjbceaa", sum := "da94cc881e0dc55333af6f9dfce89488dcdec3ccdbf4861cd7a946623623dfb4", func := "loop.example/g00920/laws.FnExactSameLab", spec := "fnExactSameLab", unfollowed := true, recurses := true, apart := false }
def FnExactSameLabSaid : Prop := fnExactSameLabRow.holds Try.pinned (OpenSpec.ofChange fnExactSameLabSpec)

/-- ITS FALSE NEIGHBOUR: 'it returns false'. Refute it at one input. -/
def fnExactSameLabWrong : ChangeSpec := { name := "fnExactSameLab", fn := fun _ => fun
  | [d1, d2] => { results := [.lit (.bool false)], args := [d1, d2] }
  | _ => none }
def FnExactSameLabWrongFalsely : Prop := fnExactSameLabRow.holds Try.pinned (OpenSpec.ofChange fnExactSameLabWrong)

/- THE SECOND FORM. 'bulk': how many values and letters a reading holds, each counted each time it is reached (what is shared counts as often as it is met; a slice's spare places count too). A statement '..UptoSaid' is the law's where the arguments, and the package variables that the reading takes, are together of bulk at most 1048576: NARROWER than '..Said'. Prove '..Said' where nothing that the law and all that it calls make is longer than what came in: it says more and counts as full. Else prove '..UptoSaid'. A law counts once. -/
mutual
def uptoBulk {H : Type} : DataW H → Nat
  | .lit (.string bytes) => bytes.length + 1
  | .lit _ => 1
  | .nil => 1
  | .ptr d => uptoBulk d + 1
  | .slice elems spare => uptoBulkAll elems + uptoBulkAll spare + 1
  | .agg parts => uptoBulkAll parts + 1
  | .iface _ d => uptoBulk d + 1
  | .map entries => uptoBulkEntries entries + 1
  | .held _ => 1
def uptoBulkAll {H : Type} : List (DataW H) → Nat
  | [] => 0
  | d :: r => uptoBulk d + uptoBulkAll r
def uptoBulkEntries {H : Type} : List (Lit × DataW H) → Nat
  | [] => 0
  | x :: r => uptoBulkEntry x + uptoBulkEntries r
def uptoBulkEntry {H : Type} : Lit × DataW H → Nat
  | (.string bytes, d) => bytes.length + uptoBulk d + 1
  | (_, d) => uptoBulk d + 1
 end
def uptoSmall : (H : Type) → List (DataW H) → Bool := fun _ ds => decide (uptoBulkAll ds ≤ 1048576)
def OpenSpec.upto (s : _root_.Go.ChangeSpec) : _root_.Go.OpenSpec := { _root_.Go.OpenSpec.ofChange s with cond := some uptoSmall }

/-- 'laws.FnExactCommandNames', WHERE WHAT IT READS IS OF BULK AT MOST 1048576: true; the input reads as it did. -/
def fnExactCommandNamesUptoRow : OpenClaim := { program := "ytieehpcgmjbceaa", sum := "da94cc881e0dc55333af6f9dfce89488dcdec3ccdbf4861cd7a946623623dfb4", func := "loop.example/g00920/laws.FnExactCommandNames", spec := "fnExactCommandNames", apart := false, narrowed := true }
def FnExactCommandNamesUptoSaid : Prop := fnExactCommandNamesUptoRow.holds Try.pinned (OpenSpec.upto fnExactCommandNamesSpec)

/-- 'laws.FnExactVerbNames', WHERE WHAT IT READS IS OF BULK AT MOST 1048576: true; the input reads as it did. -/
def fnExactVerbNamesUptoRow : OpenClaim := { program := "ytieehpcgmjbceaa", sum := "da94cc881e0dc55333af6f9dfce89488dcdec3ccdbf4861cd7a946623623dfb4", func := "loop.example/g00920/laws.FnExactVerbNames", spec := "fnExactVerbNames", apart := false, narrowed := true }
def FnExactVerbNamesUptoSaid : Prop := fnExactVerbNamesUptoRow.holds Try.pinned (OpenSpec.upto fnExactVerbNamesSpec)

/-- 'laws.FnExactVerbShape', WHERE WHAT IT READS IS OF BULK AT MOST 1048576: true; the input reads as it did. -/
def fnExactVerbShapeUptoRow : OpenClaim := { program := "ytieehpcgmjbceaa", sum := "da94cc881e0dc55333af6f9dfce89488dcdec3ccdbf4861cd7a946623623dfb4", func := "loop.example/g00920/laws.FnExactVerbShape", spec := "fnExactVerbShape", unfollowed := true, recurses := true, apart := false, narrowed := true }
def FnExactVerbShapeUptoSaid : Prop := fnExactVerbShapeUptoRow.holds Try.pinned (OpenSpec.upto fnExactVerbShapeSpec)

/-- 'laws.FnExactSameCatalog', WHERE WHAT IT READS IS OF BULK AT MOST 1048576: true; the input reads as it did. -/
def fnExactSameCatalogUptoRow : OpenClaim := { program := "ytieehpcgmjbceaa", sum := "da94cc881e0dc55333af6f9dfce89488dcdec3ccdbf4861cd7a946623623dfb4", func := "loop.example/g00920/laws.FnExactSameCatalog", spec := "fnExactSameCatalog", unfollowed := true, recurses := true, apart := false, narrowed := true }
def FnExactSameCatalogUptoSaid : Prop := fnExactSameCatalogUptoRow.holds Try.pinned (OpenSpec.upto fnExactSameCatalogSpec)

/-- 'laws.FnExactCountChoices', WHERE WHAT IT READS IS OF BULK AT MOST 1048576: true; the input reads as it did. -/
def fnExactCountChoicesUptoRow : OpenClaim := { program := "ytieehpcgmjbceaa", sum := "da94cc881e0dc55333af6f9dfce89488dcdec3ccdbf4861cd7a946623623dfb4", func := "loop.example/g00920/laws.FnExactCountChoices", spec := "fnExactCountChoices", unfollowed := true, recurses := true, apart := false, narrowed := true }
def FnExactCountChoicesUptoSaid : Prop := fnExactCountChoicesUptoRow.holds Try.pinned (OpenSpec.upto fnExactCountChoicesSpec)

/-- 'laws.FnExactChooseOrbits', WHERE WHAT IT READS IS OF BULK AT MOST 1048576: true; the input reads as it did. -/
def fnExactChooseOrbitsUptoRow : OpenClaim := { program := "ytieehpcgmjbceaa", sum := "da94cc881e0dc55333af6f9dfce89488dcdec3ccdbf4861cd7a946623623dfb4", func := "loop.example/g00920/laws.FnExactChooseOrbits", spec := "fnExactChooseOrbits", unfollowed := true, recurses := true, apart := false, narrowed := true }
def FnExactChooseOrbitsUptoSaid : Prop := fnExactChooseOrbitsUptoRow.holds Try.pinned (OpenSpec.upto fnExactChooseOrbitsSpec)

/-- 'laws.FnExactSameLab', WHERE WHAT IT READS IS OF BULK AT MOST 1048576: true; the input reads as it did. -/
def fnExactSameLabUptoRow : OpenClaim := { program := "ytieehpcgmjbceaa", sum := "da94cc881e0dc55333af6f9dfce89488dcdec3ccdbf4861cd7a946623623dfb4", func := "loop.example/g00920/laws.FnExactSameLab", spec := "fnExactSameLab", unfollowed := true, recurses := true, apart := false, narrowed := true }
def FnExactSameLabUptoSaid : Prop := fnExactSameLabUptoRow.holds Try.pinned (OpenSpec.upto fnExactSameLabSpec)

end Rows
end Go.Proofs.Ytieehpcgmjbceaa
