import Derived.Test.YtmmbnjijjdakmaaGreatDoorVcRead
import Derived.Test.YtmmbnjijjdakmaaGreatDoorVcS3
import Derived.Test.YtmmbnjijjdakmaaGreatDoorPuLib
namespace Go.Vc
set_option linter.unusedVariables false
set_option linter.unusedSimpArgs false
open Go Go.ChangeShapes Go.WideShapes Go.ChangeAt
section
variable {H:Type} {enc:TypeId×Value→H} {P:Program} {α:Type}
theorem Zs5 {f:FuncId} {args:Array Value} {h:Heap} {ψ:CM} {b:Bool} (hb:b=true) (hc:CallsH P f args h fun v h'=>v=.bool b∧S ψ h h' []):LawOk P f args h:=
 (hc.mono fun _ _ ⟨h1,h2⟩=>⟨by rw [h1,hb],h2.ext⟩:CallsH P f args h fun r h'=>r=.bool true∧ExtH h h')
end
def noneM:CM:=fun _=>none
theorem Zvr (φ:CM):CLe noneM φ:=fun _ _ h=>by cases h
end Go.Vc
