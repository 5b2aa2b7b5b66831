import Derived.Test.YtocnokjekoglnaaGreatDoorPuCmp
import Derived.Lib.ItoaNum
import Derived.Lib.Join
namespace Go.Vc
set_option linter.unusedVariables false
set_option linter.unusedSimpArgs false
open Go Go.Lib
def itoaB (n : Int) : ByteArray := ⟨(itoa n).toArray⟩
def joinB (xs : List ByteArray) (s : ByteArray) : ByteArray := ⟨(join (xs.map (·.data.toList)) s.data.toList).toArray⟩
def gBld (a b : ByteArray) : Option ByteArray := if a.size + b.size ≤ 140737488355328 then some (a ++ b) else none
end Go.Vc
