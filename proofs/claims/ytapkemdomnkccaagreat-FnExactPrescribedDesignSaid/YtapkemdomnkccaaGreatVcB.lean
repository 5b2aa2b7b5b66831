/- Operations that turn a block while others read. -/
import Derived.Test.YtapkemdomnkccaaGreatVcPin
namespace Go.Vc
set_option linter.unusedVariables false
set_option linter.unusedSimpArgs false
open Go
section
variable {ψ : CM} {h0 h : Heap} {os : List Ob} {α : Type}
def blk : Value → Option Nat
  | .slice (some a) _ _ => some a.block
  | _ => none
variable {B : Nat → Prop}
end
end Go.Vc
