import Derived.Test.YtdmledeildfidaaGreatDoorVcTop
import Derived.Test.YtdmledeildfidaaGreatDoorVcSt
import Derived.Deep.Slices
namespace Go.Vc
set_option linter.unusedVariables false
set_option linter.unusedSimpArgs false
open Go Go.ChangeShapes Go.WideShapes Go.ChangeAt
section
variable {H:Type} {enc:TypeId×Value->H} {P:Program}
def Reads {H:Type} (enc:TypeId×Value->H) (P:Program) {j:Type} (E:Elem j) (t:TypeId):Prop:=
 ∀ (W:World) (g:Nat) (e:Nat->Bool) (h:Bool) (fuel:Nat) (cs:List Value) (x:DataW H×List MemPlace),DataW.trod enc P W g e h fuel t cs=some x->∃ a,E W.heap cs a
theorem ZER {t:TypeId} (j:P.underlying t=some (.int .i64)):Reads enc P eI64 t:=by
 intro W g e k fuel cs x h;obtain ⟨n,rfl,_,a⟩:=DataW.trod_int j h;simp only [Lit.wf,Bool.and_eq_true,decide_eq_true_eq] at a;exact ⟨n,rfl,a.1,a.2⟩
theorem Zx1 {t:TypeId} (g:P.underlying t=some .string):Reads enc P eStB t:=by
 intro W e a j fuel cs x h;obtain ⟨s,rfl,_,hs⟩:=DataW.trod_string g h;exact ⟨s,rfl,hs⟩
theorem ZzO {t:TypeId} {W:World} {r:Reach} {k h:Nat} {g:Nat->Bool} {j:Bool} {v:Value} {d:DataW H} {u:List MemPlace} (l:P.underlying t=some (.int .i64)) (a:Value.okWide P W r k t v)
  (c:DataW.Trod enc P W h g j t v d u):∃ n,v=.int .i64 n/\I64 n:=by
 obtain ⟨n,rfl⟩:=okWide_int l a;obtain ⟨fuel,o⟩:=c;obtain ⟨x,h1,e⟩:=ZER (enc:=enc) l W h g j fuel _ _ o;simp only [Value.cells,List.cons.injEq,and_true,Value.int.injEq,true_and] at h1;subst h1;exact ⟨_,rfl,e⟩
theorem ZAy {t:TypeId} {W:World} {r:Reach} {k h:Nat} {g:Nat->Bool} {j:Bool} {v:Value} {d:DataW H} {u:List MemPlace} (l:P.underlying t=some .string) (a:Value.okWide P W r k t v)
  (c:DataW.Trod enc P W h g j t v d u):∃ s:ByteArray,v=.string s/\s.size<=9223372036854775807:=by
 obtain ⟨n,rfl⟩:=okWide_string l a;obtain ⟨fuel,o⟩:=c;obtain ⟨x,h1,e⟩:=Zx1 (enc:=enc) l W h g j fuel _ _ o;simp only [Value.cells,List.cons.injEq,and_true,Value.string.injEq] at h1;subst h1;exact ⟨_,rfl,e⟩
end
end Go.Vc
