import Derived.Test.YtocnokjekoglnaaVcEl
namespace Go.Vc
set_option linter.unusedVariables false
set_option linter.unusedSimpArgs false
open Go
section
variable {ψ : CM} {h0 h : Heap} {os : List Ob}
theorem mask0 (h : Heap) : hcell (hmask (fun _ => False) h) = hcell h := by
  funext a
  unfold hcell
  rw [Zeo (fun h => h)]
theorem Ze7 {a : Addr} {K : Value → Prop} (hk : ldV h a K) : ldV (hmask (fun _ => False) h) a K := by unfold ldV; rw [mask0]; exact hk
end
end Go.Vc
