import Derived.Test.YtocnokjekoglnaaGreatPuFns
import Derived.Test.YtocnokjekoglnaaGreatPuLib
namespace Go.Proofs.YtocnokjekoglnaaGreat
open Go Go.Vc
set_option linter.unusedSimpArgs false
set_option linter.unusedVariables false
end Go.Proofs.YtocnokjekoglnaaGreat
