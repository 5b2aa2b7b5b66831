import Derived.Test.YtdmledeildfidaaGreatDoorVcOwn
import Derived.WalkKit
import Derived.ProofKit
import Derived.OpenShut
import Derived.Carry
namespace Go.Vc
set_option linter.unusedVariables false
set_option linter.unusedSimpArgs false
open Go Go.ChangeShapes Go.WideShapes Go.ChangeAt Go.RowKit
theorem ZGh {w w':World} {q:Prop} (e:RestQ q w w') (a:ExtH w.heap w'.heap):Below w.heap.size w w':=⟨e.2.1,e.1,e.2.2.1,a.1,fun k g=>a.2 k g⟩
def LawOk (P:Program) (f:FuncId) (a:Array Value) (h:Heap):Prop:=CallsH P f a h fun r e=>r=.bool true/\ExtH h e
theorem LawOk.calls {P:Program} {f:FuncId} {h:Array Value} {w:World} (j:LawOk P f h w.heap):
  Calls P f h w fun e w'=>e=.returned (.bool true)/\Below w.heap.size w w':=
 (j w rfl).mono fun _ _ ⟨_,h1,a,c,g⟩=>⟨by rw [h1,c],ZGh a g⟩
section
variable {H:Type} {enc:TypeId×Value->H} {P:Program}
theorem Zrp (w:laidOutB P=true) {W l:World} (a:Below W.heap.size W l):∀ (g:List TypeId) (vs:List Value) (j:List (DataW H)) (k:List MemPlace),
  (g.all fun t=>P.readableRec t&&decide (t<P.types.size))=true->DataW.TrodAll enc P W 0 (fun _=>true) true g vs j k->DataW.TrodAll enc P l 0 (fun b=>decide (b<W.heap.size)) true g vs j k
 | [],vs,j,k,_,h=>by
  obtain ⟨rfl,rfl,rfl⟩:=trodAll_nil h;exact trodAll_mk0
 | t::g,vs,j,k,ht,h=>by
  have o:=h.lt;obtain ⟨v,r,d,u,p,q,rfl,rfl,rfl,h1,c⟩:=trodAll_cons h;simp only [List.all_cons,Bool.and_eq_true,decide_eq_true_eq] at ht;refine trodAll_cons_mk (Below.trod w ht.1.1 ht.1.2 h1 a fun x e=>o x (List.mem_append_left _ e)) (Zrp w a g r u q ?_ c);simpa using ht.2
theorem lawPost {fn:Func} {s:ChangeSpec} {W o:World} {k:Array Value} {g l:List (DataW H)} {j:List MemPlace} {tb:TypeId} (hl:laidOutB P=true)
  (hp:(fn.params.toList.all fun t=>P.readableRec t&&decide (t<P.types.size))=true) (hr:fn.resultTypes=#[tb]) (x:P.underlying tb=some .bool) (a:s.vars=[])
  (w:DataW.Whole enc P fn.params.toList s.vars false W k.toList g l j)
  (h1:(s.fn H (g++l)).results=[.lit (.bool true)]) (e:(s.fn H (g++l)).args=g) (f:(s.fn H (g++l)).vars=[])
  (c:Below W.heap.size W o):s.post enc P fn false true false false W k (.bool true) o:=by
 have u:=w;obtain ⟨p,q,hA,r,rfl,a4,a3⟩:=w;rw [a] at r;obtain ⟨rfl,rfl⟩:=trodVars_none r;refine ⟨g,[],p++[],[],p,[],u,?_,?_,?_,c.frame _,fun h=>by cases h⟩
 ·rw [h1,hr];exact trodAll_cons_mk (shut_bool x _) trodAll_mk0
 ·rw [e];exact Zrp hl c _ _ _ _ hp hA
 ·rw [f,a];exact rfl
end
end Go.Vc
