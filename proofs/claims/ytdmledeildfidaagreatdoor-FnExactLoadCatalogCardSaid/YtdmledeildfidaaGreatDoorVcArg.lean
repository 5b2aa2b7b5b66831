import Derived.Test.YtdmledeildfidaaGreatDoorVcRead
import Derived.Test.YtdmledeildfidaaGreatDoorVcS3
import Derived.Test.YtdmledeildfidaaGreatDoorPuLib
namespace Go.Vc
set_option linter.unusedVariables false
set_option linter.unusedSimpArgs false
open Go Go.ChangeShapes Go.WideShapes Go.ChangeAt
section
variable {H:Type} {enc:TypeId×Value->H} {P:Program} {α:Type}
theorem ZHE {f:FuncId} {g:Array Value} {h:Heap} {k:CM} {b:Bool} (a:b=true) (c:CallsH P f g h fun v j=>v=.bool b/\S k h j []):LawOk P f g h:=
 (c.mono fun _ _ ⟨h1,e⟩=>⟨by rw [h1,a],e.ext⟩:CallsH P f g h fun r j=>r=.bool true/\ExtH h j)
end
def noneM:CM:=fun _=>none
theorem ZFU (a:CM):CLe noneM a:=fun _ _ h=>by cases h
end Go.Vc
