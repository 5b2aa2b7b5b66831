import Derived.Test.YtepnljbkgjbbmaaGreatDoorVcRead
import Derived.Test.YtepnljbkgjbbmaaGreatDoorVcS3
import Derived.Test.YtepnljbkgjbbmaaGreatDoorPuLib
namespace Go.Vc
set_option linter.unusedVariables false
set_option linter.unusedSimpArgs false
open Go Go.ChangeShapes Go.WideShapes Go.ChangeAt
def elOf {α:Type} (E:El α) (ok:α->Prop):Elem α:=fun h cs a=>E.R (hcell h) [] cs a/\ok a
section
variable {H:Type} {enc:TypeId×Value->H} {P:Program} {α:Type}
theorem ZpO {t:TypeId} (k:P.underlying t=some (.int .i64)):Reads enc P (elOf (El.int .i64) I64) t:=by
 intro W g e j fuel cs x h
 obtain ⟨n,h1,a⟩:=Zqw k W g e j fuel cs x h
 exact ⟨n,⟨rfl,h1⟩,a⟩
theorem Zsi {t:TypeId} (k:P.underlying t=some .string):Reads enc P (elOf El.str OkS) t:=by
 intro W g e j fuel cs x h
 obtain ⟨n,h1,a⟩:=Zsu k W g e j fuel cs x h
 exact ⟨n,⟨rfl,h1⟩,a⟩
theorem ZD7 {E:El α} {ok:α->Prop} {h:Heap} {v:Value} {xs:List α} (O:SlAt E.z (elOf E ok) h v xs):SlC (hcell h) E v xs/\∀ x∈xs,ok x:=by
 rcases O with ⟨rfl,rfl⟩|⟨a,c,h1,g,f⟩
 ·exact ⟨.inl ⟨rfl,rfl⟩,by simp⟩
 ·refine ⟨.inr ⟨a,c,h1,g,fun i x e=>?_⟩,fun x e=>?_⟩
  ·obtain ⟨cs,_,j,k,_⟩:=f i x e
   exact ⟨cs,j,k⟩
  ·obtain ⟨i,hi⟩:=List.getElem?_of_mem e
   obtain ⟨cs,_,_,_,l⟩:=f i x hi
   exact l
theorem ZmU [Inhabited α] {E:El α} {ok:α->Prop} {t e:TypeId} (o:P.underlying t=some (.slice e)) (hz:P.cellsOf e=E.z) (l:Reads enc P (elOf E ok) e):Reads enc P (elOf (El.sl E) (OkL ok)) t:=by
 intro W j g k fuel cs x h
 obtain ⟨xs,v,rfl,a,c⟩:=ZFS o hz l W j g k fuel cs x h
 have:=ZD7 a
 exact ⟨xs,El.sl_of this.1,c,this.2⟩
theorem Zko {g:Type} {E:El α} {F:El g} {e:CM} {cs:List Value} {o z:Nat} {a:α} {b:g} (h1:E.R e [] ((cs.drop o).take z) a) (c:F.R e [] (cs.drop (o+z)) b):(El.pair E F).R e [] (cs.drop o) (a,b):=
 ⟨_,_,[],[],by rw [<-List.drop_drop,List.take_append_drop],rfl,h1,c⟩
theorem ZoK {E:El α} {e:CM} {cs:List Value} {o z:Nat} {a:α} (h1:E.R e [] ((cs.drop o).take z) a) (g:cs.length=o+z):E.R e [] (cs.drop o) a:=by
 rwa [List.take_of_length_le (by rw [List.length_drop];omega)] at h1
theorem ZDE {f:FuncId} {g:Array Value} {h:Heap} {k:CM} {b:Bool} (a:b=true) (c:CallsH P f g h fun v j=>v=.bool b/\S k h j []):LawOk P f g h:=
 (c.mono fun _ _ ⟨h1,e⟩=>⟨by rw [h1,a],e.ext⟩:CallsH P f g h fun r j=>r=.bool true/\ExtH h j)
end
def noneM:CM:=fun _=>none
theorem ZDr (a:CM):CLe noneM a:=fun _ _ h=>by cases h
end Go.Vc
