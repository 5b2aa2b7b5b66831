import Derived.Test.YtahnjnfpjcfklaaGreatDoorVcB
namespace Go.Vc
set_option linter.unusedVariables false
set_option linter.unusedSimpArgs false
open Go
section
variable {ψ:CM} {h0 h:Heap} {os:List Ob} {α:Type}
end
end Go.Vc
