import Derived.Test.YtepnljbkgjbbmaaGreatDoorPuCmp
import Derived.Lib.ItoaNum
import Derived.Lib.Join
import Derived.Lib.Split
import Derived.Lib.ParseIntB
import Derived.Lib.CutLaws
namespace Go.Vc
set_option linter.unusedVariables false
set_option linter.unusedSimpArgs false
open Go Go.Lib
def itoaB (n:Int):ByteArray:=⟨(itoa n).toArray⟩
def joinB (xs:List ByteArray) (s:ByteArray):ByteArray:=⟨(join (xs.map (·.data.toList)) s.data.toList).toArray⟩
end Go.Vc
