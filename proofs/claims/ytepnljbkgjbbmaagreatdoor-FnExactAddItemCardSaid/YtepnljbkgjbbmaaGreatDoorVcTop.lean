import Derived.Test.YtepnljbkgjbbmaaGreatDoorVcOwn
import Derived.WalkKit
import Derived.ProofKit
import Derived.OpenShut
import Derived.Carry
namespace Go.Vc
set_option linter.unusedVariables false
set_option linter.unusedSimpArgs false
open Go Go.ChangeShapes Go.WideShapes Go.ChangeAt Go.RowKit
theorem ZCn {w g:World} {q:Prop} (e:RestQ q w g) (a:ExtH w.heap g.heap):Below w.heap.size w g:=⟨e.2.1,e.1,e.2.2.1,a.1,fun k h=>a.2 k h⟩
def LawOk (P:Program) (f:FuncId) (a:Array Value) (h:Heap):Prop:=CallsH P f a h fun r e=>r=.bool true/\ExtH h e
theorem LawOk.calls {P:Program} {f:FuncId} {h:Array Value} {w:World} (j:LawOk P f h w.heap):
  Calls P f h w fun e k=>e=.returned (.bool true)/\Below w.heap.size w k:=
 (j w rfl).mono fun _ _ ⟨_,h1,a,c,g⟩=>⟨by rw [h1,c],ZCn a g⟩
section
variable {H:Type} {enc:TypeId×Value->H} {P:Program}
theorem ZsV (o:laidOutB P=true) {W w:World} (a:Below W.heap.size W w):∀ (g:List TypeId) (vs:List Value) (k:List (DataW H)) (j:List MemPlace),
  (g.all fun t=>P.readableRec t&&decide (t<P.types.size))=true->DataW.TrodAll enc P W 0 (fun _=>true) true g vs k j->DataW.TrodAll enc P w 0 (fun b=>decide (b<W.heap.size)) true g vs k j
 | [],vs,k,j,_,h=>by
  obtain ⟨rfl,rfl,rfl⟩:=trodAll_nil h
  exact trodAll_mk0
 | t::g,vs,k,j,ht,h=>by
  have l:=h.lt
  obtain ⟨v,r,d,u,p,q,rfl,rfl,rfl,h1,c⟩:=trodAll_cons h
  simp only [List.all_cons,Bool.and_eq_true,decide_eq_true_eq] at ht
  refine trodAll_cons_mk (Below.trod o ht.1.1 ht.1.2 h1 a fun x e=>l x (List.mem_append_left _ e)) (ZsV o a g r u q ?_ c)
  simpa using ht.2
theorem lawPost {fn:Func} {s:ChangeSpec} {W w:World} {k:Array Value} {g l:List (DataW H)} {j:List MemPlace} {tb:TypeId} (hl:laidOutB P=true)
  (hp:(fn.params.toList.all fun t=>P.readableRec t&&decide (t<P.types.size))=true) (y:fn.resultTypes=#[tb]) (u:P.underlying tb=some .bool) (a:s.vars=[])
  (r:DataW.Whole enc P fn.params.toList s.vars false W k.toList g l j)
  (h1:(s.fn H (g++l)).results=[.lit (.bool true)]) (e:(s.fn H (g++l)).args=g) (f:(s.fn H (g++l)).vars=[])
  (c:Below W.heap.size W w):s.post enc P fn false true false false W k (.bool true) w:=by
 have o:=r
 obtain ⟨p,q,hA,x,rfl,a2,a3⟩:=r
 rw [a] at x
 obtain ⟨rfl,rfl⟩:=trodVars_none x
 refine ⟨g,[],p++[],[],p,[],o,?_,?_,?_,c.frame _,fun h=>by cases h⟩
 ·rw [h1,y]
  exact trodAll_cons_mk (shut_bool u _) trodAll_mk0
 ·rw [e]
  exact ZsV hl c _ _ _ _ hp hA
 ·rw [f,a]
  exact rfl
end
end Go.Vc
