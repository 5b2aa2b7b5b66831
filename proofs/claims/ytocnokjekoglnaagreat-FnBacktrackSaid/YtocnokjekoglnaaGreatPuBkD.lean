import Derived.Test.YtocnokjekoglnaaGreatPuBkA
import Derived.KernelRfl
namespace Go.Proofs.YtocnokjekoglnaaGreat
set_option linter.unusedVariables false
set_option linter.unusedSimpArgs false
open Go Go.Vc
set_option maxRecDepth 100000
theorem bkB70 : bkB 400 7 0 = true := by kernel_rfl
theorem bkB71 : bkB 400 7 1 = true := by kernel_rfl
theorem bkB72 : bkB 400 7 2 = true := by kernel_rfl
theorem bkB73 : bkB 400 7 3 = true := by kernel_rfl
theorem bkB74 : bkB 400 7 4 = true := by kernel_rfl
theorem bkB75 : bkB 400 7 5 = true := by kernel_rfl
theorem bkB76 : bkB 400 7 6 = true := by kernel_rfl
theorem bkB77 : bkB 400 7 7 = true := by kernel_rfl
end Go.Proofs.YtocnokjekoglnaaGreat
