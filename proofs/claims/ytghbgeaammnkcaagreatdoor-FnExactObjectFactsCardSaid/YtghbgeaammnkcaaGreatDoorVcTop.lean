import Derived.Test.YtghbgeaammnkcaaGreatDoorVcOwn
import Derived.WalkKit
import Derived.ProofKit
import Derived.OpenShut
import Derived.Carry
namespace Go.Vc
set_option linter.unusedVariables false
set_option linter.unusedSimpArgs false
open Go Go.ChangeShapes Go.WideShapes Go.ChangeAt Go.RowKit
theorem ZvI {w w':World} {q:Prop} (hr:RestQ q w w') (a:ExtH w.heap w'.heap):Below w.heap.size w w':=⟨hr.2.1,hr.1,hr.2.2.1,a.1,fun k hk=>a.2 k hk⟩
def LawOk (P:Program) (f:FuncId) (args:Array Value) (h:Heap):Prop:=CallsH P f args h fun r h'=>r=.bool true∧ExtH h h'
theorem LawOk.calls {P:Program} {f:FuncId} {args:Array Value} {w:World} (hl:LawOk P f args w.heap):
  Calls P f args w fun e w'=>e=.returned (.bool true)∧Below w.heap.size w w':=
 (hl w rfl).mono fun _ _ ⟨_,a,b,c,g⟩=>⟨by rw [a,c],ZvI b g⟩
section
variable {H:Type} {enc:TypeId×Value→H} {P:Program}
theorem ZrH (hl:laidOutB P=true) {W W':World} (a:Below W.heap.size W W'):∀ (ts:List TypeId) (vs:List Value) (ds:List (DataW H)) (ps:List MemPlace),
  (ts.all fun t=>P.readableRec t&&decide (t<P.types.size))=true→DataW.TrodAll enc P W 0 (fun _=>true) true ts vs ds ps→DataW.TrodAll enc P W' 0 (fun b=>decide (b<W.heap.size)) true ts vs ds ps
 | [],vs,ds,ps,_,h=>by
  obtain ⟨rfl,rfl,rfl⟩:=trodAll_nil h
  exact trodAll_mk0
 | t::ts,vs,ds,ps,ht,h=>by
  have hlt:=h.lt
  obtain ⟨v,vs',d,ds',p,q,rfl,rfl,rfl,c,e⟩:=trodAll_cons h
  simp only [List.all_cons,Bool.and_eq_true,decide_eq_true_eq] at ht
  refine trodAll_cons_mk (Below.trod hl ht.1.1 ht.1.2 c a fun x f=>hlt x (List.mem_append_left _ f)) (ZrH hl a ts vs' ds' q ?_ e)
  simpa using ht.2
theorem lawPost {fn:Func} {s:ChangeSpec} {W W':World} {args:Array Value} {ds gs:List (DataW H)} {before:List MemPlace} {tb:TypeId} (hl:laidOutB P=true)
  (hp:(fn.params.toList.all fun t=>P.readableRec t&&decide (t<P.types.size))=true) (hr:fn.resultTypes=#[tb]) (htb:P.underlying tb=some .bool) (a:s.vars=[])
  (hW:DataW.Whole enc P fn.params.toList s.vars false W args.toList ds gs before)
  (c:(s.fn H (ds++gs)).results=[.lit (.bool true)]) (e:(s.fn H (ds++gs)).args=ds) (f:(s.fn H (ds++gs)).vars=[])
  (b:Below W.heap.size W W'):s.post enc P fn false true false false W args (.bool true) W':=by
 have hW':=hW
 obtain ⟨p,q,hA,hV,rfl,hfz,hnd⟩:=hW
 rw [a] at hV
 obtain ⟨rfl,rfl⟩:=trodVars_none hV
 refine ⟨ds,[],p++[],[],p,[],hW',?_,?_,?_,b.frame _,fun h=>by cases h⟩
 ·rw [c,hr]
  exact trodAll_cons_mk (shut_bool htb _) trodAll_mk0
 ·rw [e]
  exact ZrH hl b _ _ _ _ hp hA
 ·rw [f,a]
  exact rfl
end
end Go.Vc
