import Derived.Test.YtahnjnfpjcfklaaGreatDoorVcRead
import Derived.Test.YtahnjnfpjcfklaaGreatDoorVcS3
import Derived.Test.YtahnjnfpjcfklaaGreatDoorPuLib
namespace Go.Vc
set_option linter.unusedVariables false
set_option linter.unusedSimpArgs false
open Go Go.ChangeShapes Go.WideShapes Go.ChangeAt
def elOf {α:Type} (E:El α) (ok:α->Prop):Elem α:=fun h cs a=>E.R (hcell h) [] cs a/\ok a
section
variable {H:Type} {enc:TypeId×Value->H} {P:Program} {α:Type}
theorem Zue {t:TypeId} (k:P.underlying t=some (.int .u8)):Reads enc P (elOf (El.int .u8) (fun x=>0<=x/\x<=255)) t:=by
 intro W j e g fuel cs x h;obtain ⟨n,rfl,_,a⟩:=DataW.trod_int k h;simp only [Lit.wf,Bool.and_eq_true,decide_eq_true_eq] at a;exact ⟨n,⟨rfl,rfl⟩,a.1,a.2⟩
theorem Zsj {E:El α} {ok:α->Prop} {h:Heap} {v:Value} {xs:List α} (O:SlAt E.z (elOf E ok) h v xs):SlC (hcell h) E v xs/\∀ x∈xs,ok x:=by
 rcases O with ⟨rfl,rfl⟩|⟨a,c,h1,g,f⟩
 ·exact ⟨.inl ⟨rfl,rfl⟩,by simp⟩
 ·refine ⟨.inr ⟨a,c,h1,g,fun i x e=>?_⟩,fun x e=>?_⟩
  ·obtain ⟨cs,_,j,k,_⟩:=f i x e;exact ⟨cs,j,k⟩
  ·obtain ⟨i,hi⟩:=List.getElem?_of_mem e;obtain ⟨cs,_,_,_,l⟩:=f i x hi;exact l
theorem ZvR {f:FuncId} {j:Array Value} {h:Heap} {l:CM} {b:Bool} (a:b=true) (e:CallsH P f j h fun v k=>v=.bool b/\S l h k []):LawOk P f j h:=
 (e.mono fun _ _ ⟨h1,g⟩=>⟨by rw [h1,a],g.ext⟩:CallsH P f j h fun r k=>r=.bool true/\ExtH h k)
end
end Go.Vc
