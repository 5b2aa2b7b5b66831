/-
  No cell of these rows narrows 'for every input' (looked for: loops, veiled, ifaces, maps, wideKeys, modest, calm, conditions, laid).
  DERIVED. THE GIVEN ROWS OF THIS SEAT. 2 by the template 'for every input the law returns true; each argument reads behind the call as it read before'; 0 by the template 'total and deterministic' (their statements: YtocnokjekoglnaaGreatTotals.lean).
  GIVEN WITH THE SEED: the statements are not yours to turn. If you find one false, say at which input.
  Laid BY PROGRAM, IN A SANDBOX (cutbox-rows.mjs): the forced cells as the released guide's own fill.sh prints them over the translation 07f1fecf1fe1b632… (all of the seat's roots in one cut). By AI agents, Wed Nov 11 2026. No macro, syntax, notation, axiom, sorry.
-/
import Derived.Test.YtocnokjekoglnaaGreatChecked
import GoSem.Claim
import GoSem.ClaimJoined
import GoSem.ClaimMapViews
import Derived.JoinedTies
import Derived.KernelRfl
namespace Go.Proofs.YtocnokjekoglnaaGreat
/- THE CELL 'sum', in the pinned program and in every row, IS THE sha256 OF THE DUMP (.gsa) THAT YtocnokjekoglnaaGreatProg.lean LOADS. Nothing in Lean hashes anything: it is a label: what it is worth is what the hold of that sum in a sandbox is worth. -/
noncomputable def Tryz.pinned : Pinned := { name := "ytocnokjekoglnaagreat", sum := "07f1fecf1fe1b632d572e6d8a60feb8dfe4d52b8faa902be54585dc4bb7c348a", checked := Tryz.checked }
namespace Rows
def none {H : Type} : Left H := { results := [], args := [] }

/-- 'laws.FnPrescribed': WHATEVER THE INPUT: true; the input reads as it did. -/
def fnPrescribedSpec : ChangeSpec := { name := "fnPrescribed", fn := fun _ => fun
  | [d] => { results := [.lit (.bool true)], args := [d] }
  | _ => none }
def fnPrescribedRow : OpenClaim := { program := "ytocnokjekoglnaagreat", sum := "07f1fecf1fe1b632d572e6d8a60feb8dfe4d52b8faa902be54585dc4bb7c348a", func := "loop.example/g00920/laws.FnPrescribed", spec := "fnPrescribed", unfollowed := true, recurses := true, apart := false }
def FnPrescribedSaid : Prop := fnPrescribedRow.holds Tryz.pinned (OpenSpec.ofChange fnPrescribedSpec)

/-- ITS FALSE NEIGHBOUR: 'it returns false'. Refute it at one input. -/
def fnPrescribedWrong : ChangeSpec := { name := "fnPrescribed", fn := fun _ => fun
  | [d] => { results := [.lit (.bool false)], args := [d] }
  | _ => none }
def FnPrescribedWrongFalsely : Prop := fnPrescribedRow.holds Tryz.pinned (OpenSpec.ofChange fnPrescribedWrong)

/-- 'laws.FnBacktrack': WHATEVER THE INPUT: true; the input reads as it did. -/
def fnBacktrackSpec : ChangeSpec := { name := "fnBacktrack", fn := fun _ => fun
  | [d1, d2] => { results := [.lit (.bool true)], args := [d1, d2] }
  | _ => none }
def fnBacktrackRow : OpenClaim := { program := "ytocnokjekoglnaagreat", sum := "07f1fecf1fe1b632d572e6d8a60feb8dfe4d52b8faa902be54585dc4bb7c348a", func := "loop.example/g00920/laws.FnBacktrack", spec := "fnBacktrack", unfollowed := true, recurses := true, apart := false }
def FnBacktrackSaid : Prop := fnBacktrackRow.holds Tryz.pinned (OpenSpec.ofChange fnBacktrackSpec)

/-- ITS FALSE NEIGHBOUR: 'it returns false'. Refute it at one input. -/
def fnBacktrackWrong : ChangeSpec := { name := "fnBacktrack", fn := fun _ => fun
  | [d1, d2] => { results := [.lit (.bool false)], args := [d1, d2] }
  | _ => none }
def FnBacktrackWrongFalsely : Prop := fnBacktrackRow.holds Tryz.pinned (OpenSpec.ofChange fnBacktrackWrong)

/- THE SECOND FORM. 'bulk': how many values and letters a reading holds, each counted each time it is reached (what is shared counts as often as it is met; a slice's spare places count too). A statement '..UptoSaid' is the law's where the arguments, and the package variables that the reading takes, are together of bulk at most 1048576: NARROWER than '..Said'. Prove '..Said' where nothing that the law and all that it calls make is longer than what came in: it says more and counts as full. Else prove '..UptoSaid'. A law counts once. -/
mutual
def uptoBulk {H : Type} : DataW H → Nat
  | .lit (.string bytes) => bytes.length + 1
  | .lit _ => 1
  | .nil => 1
  | .ptr d => uptoBulk d + 1
  | .slice elems spare => uptoBulkAll elems + uptoBulkAll spare + 1
  | .agg parts => uptoBulkAll parts + 1
  | .iface _ d => uptoBulk d + 1
  | .map entries => uptoBulkEntries entries + 1
  | .held _ => 1
def uptoBulkAll {H : Type} : List (DataW H) → Nat
  | [] => 0
  | d :: r => uptoBulk d + uptoBulkAll r
def uptoBulkEntries {H : Type} : List (Lit × DataW H) → Nat
  | [] => 0
  | x :: r => uptoBulkEntry x + uptoBulkEntries r
def uptoBulkEntry {H : Type} : Lit × DataW H → Nat
  | (.string bytes, d) => bytes.length + uptoBulk d + 1
  | (_, d) => uptoBulk d + 1
 end
def uptoSmall : (H : Type) → List (DataW H) → Bool := fun _ ds => decide (uptoBulkAll ds ≤ 1048576)
def OpenSpec.upto (s : _root_.Go.ChangeSpec) : _root_.Go.OpenSpec := { _root_.Go.OpenSpec.ofChange s with cond := some uptoSmall }

/-- 'laws.FnPrescribed', WHERE WHAT IT READS IS OF BULK AT MOST 1048576: true; the input reads as it did. -/
def fnPrescribedUptoRow : OpenClaim := { program := "ytocnokjekoglnaagreat", sum := "07f1fecf1fe1b632d572e6d8a60feb8dfe4d52b8faa902be54585dc4bb7c348a", func := "loop.example/g00920/laws.FnPrescribed", spec := "fnPrescribed", unfollowed := true, recurses := true, apart := false, narrowed := true }
def FnPrescribedUptoSaid : Prop := fnPrescribedUptoRow.holds Tryz.pinned (OpenSpec.upto fnPrescribedSpec)

/-- 'laws.FnBacktrack', WHERE WHAT IT READS IS OF BULK AT MOST 1048576: true; the input reads as it did. -/
def fnBacktrackUptoRow : OpenClaim := { program := "ytocnokjekoglnaagreat", sum := "07f1fecf1fe1b632d572e6d8a60feb8dfe4d52b8faa902be54585dc4bb7c348a", func := "loop.example/g00920/laws.FnBacktrack", spec := "fnBacktrack", unfollowed := true, recurses := true, apart := false, narrowed := true }
def FnBacktrackUptoSaid : Prop := fnBacktrackUptoRow.holds Tryz.pinned (OpenSpec.upto fnBacktrackSpec)

end Rows
end Go.Proofs.YtocnokjekoglnaaGreat
