import Derived.Test.YtocnokjekoglnaaPuFns
import Derived.Test.YtocnokjekoglnaaPuLib
namespace Go.Proofs.Ytocnokjekoglnaa
open Go Go.Vc
set_option linter.unusedSimpArgs false
set_option linter.unusedVariables false
end Go.Proofs.Ytocnokjekoglnaa
