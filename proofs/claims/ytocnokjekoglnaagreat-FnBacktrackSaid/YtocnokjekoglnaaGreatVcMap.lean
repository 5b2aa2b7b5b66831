import Derived.Test.YtocnokjekoglnaaGreatVcEl
namespace Go.Vc
set_option linter.unusedVariables false
set_option linter.unusedSimpArgs false
open Go
section
variable {ψ : CM} {h0 h : Heap} {os : List Ob}
theorem mask0 (h : Heap) : hcell (hmask (fun _ => False) h) = hcell h := by
  funext a
  unfold hcell
  rw [ZhS (fun h => h)]
theorem ZS {k : IntKind} {a : Addr} {K : Int → Prop} (hk : ldI k h a K) : ldI k (hmask (fun _ => False) h) a K := by unfold ldI; rw [mask0]; exact hk
theorem ZcQ {a : Addr} {K : Value → Prop} (hk : ldV h a K) : ldV (hmask (fun _ => False) h) a K := by unfold ldV; rw [mask0]; exact hk
end
end Go.Vc
