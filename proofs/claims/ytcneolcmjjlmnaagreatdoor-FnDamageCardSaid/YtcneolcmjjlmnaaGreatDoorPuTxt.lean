import Derived.Test.YtcneolcmjjlmnaaGreatDoorPuCmp
import Derived.Lib.ItoaNum
import Derived.Lib.Join
import Derived.Lib.Split
import Derived.Lib.ParseIntB
import Derived.Lib.CutLaws
namespace Go.Vc
set_option linter.unusedVariables false
set_option linter.unusedSimpArgs false
open Go Go.Lib
def itoaB (n:Int):Jd:=⟨(itoa n).toArray⟩
def joinB (xs:List Jd) (s:Jd):Jd:=⟨(join (xs.map (·.data.toList)) s.data.toList).toArray⟩
def parsO (l:List UInt8):Jm Int:=match parseIntB 64 l with
 | .ok n=>some n
 | _=>none
theorem ZvS {l:List UInt8} {n:Int} (h:parseIntB 64 l=.ok n):parsO l=some n:=by unfold parsO;rw [h]
theorem ZEo {l:List UInt8} (h:∀n,parseIntB 64 l≠.ok n):parsO l=none:=by
 simp [parsO]
def gPars (s:Jd):Jm (Jm Int):=if s.size<=1000 then some (parsO s.data.toList) else none
def cut3 (s e:Jd):Jd×Jd×Bool:=(⟨(cut s.data.toList e.data.toList).1.toArray⟩,⟨(cut s.data.toList e.data.toList).2.1.toArray⟩,(cut s.data.toList e.data.toList).2.2)
end Go.Vc
