import Derived.Test.YtahnjnfpjcfklaaGreatDoorPuCmp
import Derived.Lib.ItoaNum
import Derived.Lib.Join
import Derived.Lib.Split
import Derived.Lib.ParseIntB
import Derived.Lib.CutLaws
namespace Go.Vc
set_option linter.unusedVariables false
set_option linter.unusedSimpArgs false
open Go Go.Lib
def itoaB (n:Int):ByteArray:=⟨(itoa n).toArray⟩
def joinB (xs:List ByteArray) (s:ByteArray):ByteArray:=⟨(join (xs.map (·.data.toList)) s.data.toList).toArray⟩
def parsO (l:List UInt8):Option Int:=match parseIntB 64 l with
 | .ok n=>some n
 | _=>none
theorem ZqV {l:List UInt8} {n:Int} (h:parseIntB 64 l=.ok n):parsO l=some n:=by unfold parsO;rw [h]
theorem Zs8 {l:List UInt8} (h:∀ n,parseIntB 64 l≠.ok n):parsO l=none:=by
 unfold parsO;split
 ·rename_i n a;exact absurd a (h n)
 ·rfl
def gPars (s:ByteArray):Option (Option Int):=if s.size<=1000 then some (parsO s.data.toList) else none
end Go.Vc
