import Derived.Test.YtahnjnfpjcfklaaGreatDoorVcOwn
import Derived.WalkKit
import Derived.ProofKit
import Derived.OpenShut
import Derived.Carry
namespace Go.Vc
set_option linter.unusedVariables false
set_option linter.unusedSimpArgs false
open Go Go.ChangeShapes Go.WideShapes Go.ChangeAt Go.RowKit
theorem ZxE {w w':World} {q:Prop} (e:RestQ q w w') (a:ExtH w.heap w'.heap):Below w.heap.size w w':=⟨e.2.1,e.1,e.2.2.1,a.1,fun k g=>a.2 k g⟩
def LawOk (P:Program) (f:FuncId) (a:Array Value) (h:Heap):Prop:=CallsH P f a h fun r e=>r=.bool true/\ExtH h e
theorem LawOk.calls {P:Program} {f:FuncId} {j:Array Value} {w:World} (k:LawOk P f j w.heap):
  Calls P f j w fun e w'=>e=.returned (.bool true)/\Below w.heap.size w w':=
 (k w rfl).mono fun _ _ ⟨_,h1,a,g,h⟩=>⟨by rw [h1,g],ZxE a h⟩
section
variable {H:Type} {enc:TypeId×Value->H} {P:Program}
theorem Zrv (l:laidOutB P=true) {W o:World} (a:Below W.heap.size W o):∀ (g:List TypeId) (vs:List Value) (j:List (DataW H)) (k:List MemPlace),
  (g.all fun t=>P.readableRec t&&decide (t<P.types.size))=true->DataW.TrodAll enc P W 0 (fun _=>true) true g vs j k->DataW.TrodAll enc P o 0 (fun b=>decide (b<W.heap.size)) true g vs j k
 | [],vs,j,k,_,h=>by
  obtain ⟨rfl,rfl,rfl⟩:=trodAll_nil h;exact trodAll_mk0
 | t::g,vs,j,k,ht,h=>by
  have u:=h.lt;obtain ⟨v,r,d,w,p,q,rfl,rfl,rfl,h1,e⟩:=trodAll_cons h;simp only [List.all_cons,Bool.and_eq_true,decide_eq_true_eq] at ht;refine trodAll_cons_mk (Below.trod l ht.1.1 ht.1.2 h1 a fun x f=>u x (List.mem_append_left _ f)) (Zrv l a g r w q ?_ e);simpa using ht.2
theorem lawPost {fn:Func} {s:ChangeSpec} {W r:World} {l:Array Value} {j o:List (DataW H)} {k:List MemPlace} {tb:TypeId} (hl:laidOutB P=true)
  (hp:(fn.params.toList.all fun t=>P.readableRec t&&decide (t<P.types.size))=true) (hr:fn.resultTypes=#[tb]) (u:P.underlying tb=some .bool) (a:s.vars=[])
  (x:DataW.Whole enc P fn.params.toList s.vars false W l.toList j o k)
  (h1:(s.fn H (j++o)).results=[.lit (.bool true)]) (f:(s.fn H (j++o)).args=j) (g:(s.fn H (j++o)).vars=[])
  (e:Below W.heap.size W r):s.post enc P fn false true false false W l (.bool true) r:=by
 have a2:=x;obtain ⟨p,q,hA,w,rfl,a7,a6⟩:=x;rw [a] at w;obtain ⟨rfl,rfl⟩:=trodVars_none w;refine ⟨j,[],p++[],[],p,[],a2,?_,?_,?_,e.frame _,fun h=>by cases h⟩
 ·rw [h1,hr];exact trodAll_cons_mk (shut_bool u _) trodAll_mk0
 ·rw [f];exact Zrv hl e _ _ _ _ hp hA
 ·rw [g,a];exact rfl
end
end Go.Vc
