import Derived.Test.YtepnljbkgjbbmaaGreatDoorVcRead
import Derived.Test.YtepnljbkgjbbmaaGreatDoorVcS3
import Derived.Test.YtepnljbkgjbbmaaGreatDoorPuLib
namespace Go.Vc
set_option linter.unusedVariables false
set_option linter.unusedSimpArgs false
open Go Go.ChangeShapes Go.WideShapes Go.ChangeAt
def elOf {α:Type} (E:El α) (ok:α->Prop):Elem α:=fun h cs a=>E.R (hcell h) [] cs a/\ok a
section
variable {H:Type} {enc:TypeId×Value->H} {P:Program} {α:Type}
theorem Zn1 {t:TypeId} (k:P.underlying t=some (.int .i64)):Reads enc P (elOf (El.int .i64) I64) t:=by
 intro W j e g fuel cs x h
 obtain ⟨n,h1,a⟩:=Zuh k W j e g fuel cs x h
 exact ⟨n,⟨rfl,h1⟩,a⟩
theorem ZpV {t:TypeId} (k:P.underlying t=some .string):Reads enc P (elOf El.str OkS) t:=by
 intro W j e g fuel cs x h
 obtain ⟨n,h1,a⟩:=ZBE k W j e g fuel cs x h
 exact ⟨n,⟨rfl,h1⟩,a⟩
theorem ZxR {E:El α} {ok:α->Prop} {h:Heap} {v:Value} {xs:List α} (hs:SlAt E.z (elOf E ok) h v xs):SlC (hcell h) E v xs/\∀ x∈xs,ok x:=by
 rcases hs with ⟨rfl,rfl⟩|⟨a,c,h1,g,f⟩
 ·exact ⟨.inl ⟨rfl,rfl⟩,by simp⟩
 ·refine ⟨.inr ⟨a,c,h1,g,fun i x e=>?_⟩,fun x e=>?_⟩
  ·obtain ⟨cs,_,j,k,_⟩:=f i x e
   exact ⟨cs,j,k⟩
  ·obtain ⟨i,hi⟩:=List.getElem?_of_mem e
   obtain ⟨cs,_,_,_,l⟩:=f i x hi
   exact l
theorem Znm [Inhabited α] {E:El α} {ok:α->Prop} {t e:TypeId} (l:P.underlying t=some (.slice e)) (hz:P.cellsOf e=E.z) (o:Reads enc P (elOf E ok) e):Reads enc P (elOf (El.sl E) (OkL ok)) t:=by
 intro W k g j fuel cs x h
 obtain ⟨xs,v,rfl,a,c⟩:=ZE3 l hz o W k g j fuel cs x h
 have:=ZxR a
 exact ⟨xs,El.sl_of this.1,c,this.2⟩
theorem ZkY {g:Type} {E:El α} {F:El g} {e:CM} {cs:List Value} {o z:Nat} {a:α} {b:g} (h1:E.R e [] ((cs.drop o).take z) a) (c:F.R e [] (cs.drop (o+z)) b):(El.pair E F).R e [] (cs.drop o) (a,b):=
 ⟨_,_,[],[],by rw [<-List.drop_drop,List.take_append_drop],rfl,h1,c⟩
theorem Zne {E:El α} {e:CM} {cs:List Value} {o z:Nat} {a:α} (h1:E.R e [] ((cs.drop o).take z) a) (g:cs.length=o+z):E.R e [] (cs.drop o) a:=by
 rwa [List.take_of_length_le (by rw [List.length_drop];omega)] at h1
theorem ZFo {f:FuncId} {g:Array Value} {h:Heap} {k:CM} {b:Bool} (a:b=true) (c:CallsH P f g h fun v j=>v=.bool b/\S k h j []):LawOk P f g h:=
 (c.mono fun _ _ ⟨h1,e⟩=>⟨by rw [h1,a],e.ext⟩:CallsH P f g h fun r j=>r=.bool true/\ExtH h j)
end
def noneM:CM:=fun _=>none
theorem ZCV (a:CM):CLe noneM a:=fun _ _ h=>by cases h
end Go.Vc
