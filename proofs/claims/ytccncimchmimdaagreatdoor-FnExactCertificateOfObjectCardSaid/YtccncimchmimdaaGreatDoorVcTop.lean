import Derived.Test.YtccncimchmimdaaGreatDoorVcOwn
import Derived.WalkKit
import Derived.ProofKit
import Derived.OpenShut
import Derived.Carry
namespace Go.Vc
set_option linter.unusedVariables false
set_option linter.unusedSimpArgs false
open Go Go.ChangeShapes Go.WideShapes Go.ChangeAt Go.RowKit
theorem ZDd {w c:World} {q:Prop} (e:RestQ q w c) (a:ExtH w.heap c.heap):Below w.heap.size w c:=⟨e.2.1,e.1,e.2.2.1,a.1,fun k g=>a.2 k g⟩
def LawOk (P:Program) (f:FuncId) (a:Array Value) (h:Heap):Prop:=CallsH P f a h fun r c=>r=.bool true/\ExtH h c
theorem LawOk.calls {P:Program} {f:FuncId} {h:Array Value} {w:World} (j:LawOk P f h w.heap):
  Calls P f h w fun e k=>e=.returned (.bool true)/\Below w.heap.size w k:=
 (j w rfl).mono fun _ _ ⟨_,a,b,c,g⟩=>⟨by rw [a,c],ZDd b g⟩
section
variable {H:Type} {enc:TypeId×Value->H} {P:Program}
theorem Zsq (o:laidOutB P=true) {W u:World} (a:Below W.heap.size W u):∀ (g:List TypeId) (vs:List Value) (j:List (DataW H)) (k:List MemPlace),
  (g.all fun t=>P.readableRec t&&decide (t<P.types.size))=true->DataW.TrodAll enc P W 0 (fun _=>true) true g vs j k->DataW.TrodAll enc P u 0 (fun b=>decide (b<W.heap.size)) true g vs j k
 | [],vs,j,k,_,h=>by
  obtain ⟨rfl,rfl,rfl⟩:=trodAll_nil h
  exact trodAll_mk0
 | t::g,vs,j,k,ht,h=>by
  have l:=h.lt
  obtain ⟨v,w,d,r,p,q,rfl,rfl,rfl,c,e⟩:=trodAll_cons h
  simp only [List.all_cons,Bool.and_eq_true,decide_eq_true_eq] at ht
  refine trodAll_cons_mk (Below.trod o ht.1.1 ht.1.2 c a fun x f=>l x (List.mem_append_left _ f)) (Zsq o a g w r q ?_ e)
  simpa using ht.2
theorem lawPost {fn:Func} {s:ChangeSpec} {W u:World} {k:Array Value} {g l:List (DataW H)} {j:List MemPlace} {tb:TypeId} (y:laidOutB P=true)
  (hp:(fn.params.toList.all fun t=>P.readableRec t&&decide (t<P.types.size))=true) (hr:fn.resultTypes=#[tb]) (x:P.underlying tb=some .bool) (a:s.vars=[])
  (w:DataW.Whole enc P fn.params.toList s.vars false W k.toList g l j)
  (c:(s.fn H (g++l)).results=[.lit (.bool true)]) (e:(s.fn H (g++l)).args=g) (f:(s.fn H (g++l)).vars=[])
  (b:Below W.heap.size W u):s.post enc P fn false true false false W k (.bool true) u:=by
 have o:=w
 obtain ⟨p,q,hA,r,rfl,a2,a3⟩:=w
 rw [a] at r
 obtain ⟨rfl,rfl⟩:=trodVars_none r
 refine ⟨g,[],p++[],[],p,[],o,?_,?_,?_,b.frame _,fun h=>by cases h⟩
 ·rw [c,hr]
  exact trodAll_cons_mk (shut_bool x _) trodAll_mk0
 ·rw [e]
  exact Zsq y b _ _ _ _ hp hA
 ·rw [f,a]
  exact rfl
end
end Go.Vc
