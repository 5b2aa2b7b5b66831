import Derived.Test.YtmmbnjijjdakmaaGreatDoorVcTop
import Derived.Test.YtmmbnjijjdakmaaGreatDoorVcSt
import Derived.Deep.Slices
namespace Go.Vc
set_option linter.unusedVariables false
set_option linter.unusedSimpArgs false
open Go Go.ChangeShapes Go.WideShapes Go.ChangeAt
section
variable {H:Type} {enc:TypeId×Value→H} {P:Program}
def Reads {H:Type} (enc:TypeId×Value→H) (P:Program) {α:Type} (E:Elem α) (t:TypeId):Prop:=
 ∀ (W:World) (base:Nat) (spare:Nat→Bool) (held:Bool) (fuel:Nat) (cs:List Value) (x:DataW H×List MemPlace),DataW.trod enc P W base spare held fuel t cs=some x→∃ a,E W.heap cs a
theorem ZAU {t:TypeId} (ht:P.underlying t=some .string):Reads enc P eStB t:=by
 intro W base spare held fuel cs x h
 obtain ⟨s,rfl,_,hs⟩:=DataW.trod_string ht h
 exact ⟨s,rfl,hs⟩
theorem Zvx {t:TypeId} {W:World} {r:Reach} {base base':Nat} {spare:Nat→Bool} {held:Bool} {v:Value} {d:DataW H} {ps:List MemPlace} (ht:P.underlying t=some .string) (hv:Value.okWide P W r base t v)
  (hd:DataW.Trod enc P W base' spare held t v d ps):∃ s:ByteArray,v=.string s∧s.size≤9223372036854775807:=by
 obtain ⟨n,rfl⟩:=okWide_string ht hv
 obtain ⟨fuel,hf⟩:=hd
 obtain ⟨x,h1,h2⟩:=ZAU (enc:=enc) ht W base' spare held fuel _ _ hf
 simp only [Value.cells,List.cons.injEq,and_true,Value.string.injEq] at h1
 subst h1
 exact ⟨_,rfl,h2⟩
end
end Go.Vc
