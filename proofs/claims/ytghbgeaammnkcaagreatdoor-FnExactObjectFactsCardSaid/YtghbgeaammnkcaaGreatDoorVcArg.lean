import Derived.Test.YtghbgeaammnkcaaGreatDoorVcRead
import Derived.Test.YtghbgeaammnkcaaGreatDoorVcS3
import Derived.Test.YtghbgeaammnkcaaGreatDoorPuLib
namespace Go.Vc
set_option linter.unusedVariables false
set_option linter.unusedSimpArgs false
open Go Go.ChangeShapes Go.WideShapes Go.ChangeAt
def elOf {α:Type} (E:El α) (ok:α→Prop):Elem α:=fun h cs a=>E.R (hcell h) [] cs a∧ok a
section
variable {H:Type} {enc:TypeId×Value→H} {P:Program} {α:Type}
theorem ZqC {t:TypeId} (ht:P.underlying t=some (.int .i64)):Reads enc P (elOf (El.int .i64) I64) t:=by
 intro W base spare held fuel cs x h
 obtain ⟨n,a,b⟩:=ZAi ht W base spare held fuel cs x h
 exact ⟨n,⟨rfl,a⟩,b⟩
theorem ZyF {E:El α} {ok:α→Prop} {h:Heap} {v:Value} {xs:List α} (hs:SlAt E.z (elOf E ok) h v xs):SlC (hcell h) E v xs∧∀ x∈xs,ok x:=by
 rcases hs with ⟨rfl,rfl⟩|⟨a,c,f,g,e⟩
 ·exact ⟨.inl ⟨rfl,rfl⟩,by simp⟩
 ·refine ⟨.inr ⟨a,c,f,g,fun i x b=>?_⟩,fun x b=>?_⟩
  ·obtain ⟨cs,_,j,k,_⟩:=e i x b
   exact ⟨cs,j,k⟩
  ·obtain ⟨i,hi⟩:=List.getElem?_of_mem b
   obtain ⟨cs,_,_,_,l⟩:=e i x hi
   exact l
theorem ZsD [Inhabited α] {E:El α} {ok:α→Prop} {t e:TypeId} (ht:P.underlying t=some (.slice e)) (hz:P.cellsOf e=E.z) (hE:Reads enc P (elOf E ok) e):Reads enc P (elOf (El.sl E) (OkL ok)) t:=by
 intro W base spare held fuel cs x h
 obtain ⟨xs,v,rfl,a,b⟩:=Zyc ht hz hE W base spare held fuel cs x h
 have:=ZyF a
 exact ⟨xs,El.sl_of this.1,b,this.2⟩
theorem Zq7 {β:Type} {E:El α} {F:El β} {φ:CM} {cs:List Value} {o z:Nat} {a:α} {b:β} (c:E.R φ [] ((cs.drop o).take z) a) (e:F.R φ [] (cs.drop (o+z)) b):(El.pair E F).R φ [] (cs.drop o) (a,b):=
 ⟨_,_,[],[],by rw [←List.drop_drop,List.take_append_drop],rfl,c,e⟩
theorem ZDd {E:El α} {φ:CM} {cs:List Value} {o z:Nat} {a:α} (b:E.R φ [] ((cs.drop o).take z) a) (hl:cs.length=o+z):E.R φ [] (cs.drop o) a:=by
 rwa [List.take_of_length_le (by rw [List.length_drop];omega)] at b
theorem Zyk {f:FuncId} {args:Array Value} {h:Heap} {ψ:CM} {b:Bool} (a:b=true) (c:CallsH P f args h fun v h'=>v=.bool b∧S ψ h h' []):LawOk P f args h:=
 (c.mono fun _ _ ⟨e,g⟩=>⟨by rw [e,a],g.ext⟩:CallsH P f args h fun r h'=>r=.bool true∧ExtH h h')
end
def noneM:CM:=fun _=>none
theorem ZFx (φ:CM):CLe noneM φ:=fun _ _ h=>by cases h
end Go.Vc
