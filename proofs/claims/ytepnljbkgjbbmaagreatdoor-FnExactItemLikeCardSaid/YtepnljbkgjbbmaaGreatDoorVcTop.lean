import Derived.Test.YtepnljbkgjbbmaaGreatDoorVcOwn
import Derived.WalkKit
import Derived.ProofKit
import Derived.OpenShut
import Derived.Carry
namespace Go.Vc
set_option linter.unusedVariables false
set_option linter.unusedSimpArgs false
open Go Go.ChangeShapes Go.WideShapes Go.ChangeAt Go.RowKit
theorem ZFX {w g:World} {q:Prop} (e:RestQ q w g) (a:ExtH w.heap g.heap):Below w.heap.size w g:=⟨e.2.1,e.1,e.2.2.1,a.1,fun k h=>a.2 k h⟩
def LawOk (P:Program) (f:FuncId) (a:Array Value) (h:Heap):Prop:=CallsH P f a h fun r e=>r=.bool true/\ExtH h e
theorem LawOk.calls {P:Program} {f:FuncId} {h:Array Value} {w:World} (j:LawOk P f h w.heap):
  Calls P f h w fun e k=>e=.returned (.bool true)/\Below w.heap.size w k:=
 (j w rfl).mono fun _ _ ⟨_,h1,a,c,g⟩=>⟨by rw [h1,c],ZFX a g⟩
section
variable {H:Type} {enc:TypeId×Value->H} {P:Program}
theorem ZuD (l:laidOutB P=true) {W w:World} (a:Below W.heap.size W w):∀ (g:List TypeId) (vs:List Value) (j:List (DataW H)) (k:List MemPlace),
  (g.all fun t=>P.readableRec t&&decide (t<P.types.size))=true->DataW.TrodAll enc P W 0 (fun _=>true) true g vs j k->DataW.TrodAll enc P w 0 (fun b=>decide (b<W.heap.size)) true g vs j k
 | [],vs,j,k,_,h=>by
  obtain ⟨rfl,rfl,rfl⟩:=trodAll_nil h
  exact trodAll_mk0
 | t::g,vs,j,k,ht,h=>by
  have o:=h.lt
  obtain ⟨v,r,d,u,p,q,rfl,rfl,rfl,h1,c⟩:=trodAll_cons h
  simp only [List.all_cons,Bool.and_eq_true,decide_eq_true_eq] at ht
  refine trodAll_cons_mk (Below.trod l ht.1.1 ht.1.2 h1 a fun x e=>o x (List.mem_append_left _ e)) (ZuD l a g r u q ?_ c)
  simpa using ht.2
theorem lawPost {fn:Func} {s:ChangeSpec} {W x:World} {j:Array Value} {g l:List (DataW H)} {k:List MemPlace} {tb:TypeId} (y:laidOutB P=true)
  (hp:(fn.params.toList.all fun t=>P.readableRec t&&decide (t<P.types.size))=true) (hr:fn.resultTypes=#[tb]) (o:P.underlying tb=some .bool) (a:s.vars=[])
  (u:DataW.Whole enc P fn.params.toList s.vars false W j.toList g l k)
  (h1:(s.fn H (g++l)).results=[.lit (.bool true)]) (e:(s.fn H (g++l)).args=g) (f:(s.fn H (g++l)).vars=[])
  (c:Below W.heap.size W x):s.post enc P fn false true false false W j (.bool true) x:=by
 have w:=u
 obtain ⟨p,q,hA,r,rfl,a2,a3⟩:=u
 rw [a] at r
 obtain ⟨rfl,rfl⟩:=trodVars_none r
 refine ⟨g,[],p++[],[],p,[],w,?_,?_,?_,c.frame _,fun h=>by cases h⟩
 ·rw [h1,hr]
  exact trodAll_cons_mk (shut_bool o _) trodAll_mk0
 ·rw [e]
  exact ZuD y c _ _ _ _ hp hA
 ·rw [f,a]
  exact rfl
end
end Go.Vc
