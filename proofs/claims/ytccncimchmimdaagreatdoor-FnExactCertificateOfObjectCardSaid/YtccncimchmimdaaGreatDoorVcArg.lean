import Derived.Test.YtccncimchmimdaaGreatDoorVcRead
import Derived.Test.YtccncimchmimdaaGreatDoorVcS3
import Derived.Test.YtccncimchmimdaaGreatDoorPuLib
namespace Go.Vc
set_option linter.unusedVariables false
set_option linter.unusedSimpArgs false
open Go Go.ChangeShapes Go.WideShapes Go.ChangeAt
def elOf {α:Type} (E:El α) (ok:α->Prop):Elem α:=fun h cs a=>E.R (hcell h) [] cs a/\ok a
section
variable {H:Type} {enc:TypeId×Value->H} {P:Program} {α:Type}
theorem Zo8 {t:TypeId} (j:P.underlying t=some (.int .i64)):Reads enc P (elOf (El.int .i64) I64) t:=by
 intro W e c g fuel cs x h
 obtain ⟨n,a,b⟩:=Zu6 j W e c g fuel cs x h
 exact ⟨n,⟨rfl,a⟩,b⟩
theorem Zxs {E:El α} {ok:α->Prop} {h:Heap} {v:Value} {xs:List α} (hs:SlAt E.z (elOf E ok) h v xs):SlC (hcell h) E v xs/\∀ x∈xs,ok x:=by
 rcases hs with ⟨rfl,rfl⟩|⟨a,c,f,g,e⟩
 ·exact ⟨.inl ⟨rfl,rfl⟩,by simp⟩
 ·refine ⟨.inr ⟨a,c,f,g,fun i x b=>?_⟩,fun x b=>?_⟩
  ·obtain ⟨cs,_,j,k,_⟩:=e i x b
   exact ⟨cs,j,k⟩
  ·obtain ⟨i,hi⟩:=List.getElem?_of_mem b
   obtain ⟨cs,_,_,_,l⟩:=e i x hi
   exact l
theorem Zve [Inhabited α] {E:El α} {ok:α->Prop} {t e:TypeId} (k:P.underlying t=some (.slice e)) (hz:P.cellsOf e=E.z) (l:Reads enc P (elOf E ok) e):Reads enc P (elOf (El.sl E) (OkL ok)) t:=by
 intro W j c g fuel cs x h
 obtain ⟨xs,v,rfl,a,b⟩:=ZA5 k hz l W j c g fuel cs x h
 have:=Zxs a
 exact ⟨xs,El.sl_of this.1,b,this.2⟩
theorem Zr4 {h:Type} {E:El α} {F:El h} {g:CM} {cs:List Value} {o z:Nat} {a:α} {b:h} (c:E.R g [] ((cs.drop o).take z) a) (e:F.R g [] (cs.drop (o+z)) b):(El.pair E F).R g [] (cs.drop o) (a,b):=
 ⟨_,_,[],[],by rw [<-List.drop_drop,List.take_append_drop],rfl,c,e⟩
theorem Zxc {E:El α} {c:CM} {cs:List Value} {o z:Nat} {a:α} (b:E.R c [] ((cs.drop o).take z) a) (e:cs.length=o+z):E.R c [] (cs.drop o) a:=by
 rwa [List.take_of_length_le (by rw [List.length_drop];omega)] at b
theorem ZFd {f:FuncId} {j:Array Value} {h:Heap} {l:CM} {b:Bool} (a:b=true) (c:CallsH P f j h fun v k=>v=.bool b/\S l h k []):LawOk P f j h:=
 (c.mono fun _ _ ⟨e,g⟩=>⟨by rw [e,a],g.ext⟩:CallsH P f j h fun r k=>r=.bool true/\ExtH h k)
end
def noneM:CM:=fun _=>none
theorem ZCy (a:CM):CLe noneM a:=fun _ _ h=>by cases h
end Go.Vc
