import Derived.Test.YtocnokjekoglnaaGreatPuBkA
import Derived.KernelRfl
namespace Go.Proofs.YtocnokjekoglnaaGreat
set_option linter.unusedVariables false
set_option linter.unusedSimpArgs false
open Go Go.Vc
set_option maxRecDepth 100000
theorem bkA7 : bkA 400 7 7 = true := by kernel_rfl
end Go.Proofs.YtocnokjekoglnaaGreat
