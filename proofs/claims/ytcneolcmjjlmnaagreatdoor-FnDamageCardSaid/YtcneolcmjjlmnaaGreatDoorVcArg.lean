import Derived.ProofKit
import Derived.OpenShut
import Derived.Carry
import Derived.Deep.Slices
import Derived.Test.YtcneolcmjjlmnaaGreatDoorVcS3
import Derived.Test.YtcneolcmjjlmnaaGreatDoorPuLib
open Bool renaming and_eq_true->Jz,true->Ji
open Go renaming Value->Jl
namespace Go.Vc
set_option linter.unusedVariables false
set_option linter.unusedSimpArgs false
open Go Go.ChangeShapes Go.WideShapes Go.ChangeAt Go.RowKit
theorem ZHJ {w w':World} {q:Prop} (e:RestQ q w w') (a:ExtH w.heap w'.heap):Below w.heap.size w w':=⟨e.2.1,e.1,e.2.2.1,a.1,λk g=>a.2 k g⟩
def LawOk (P:Program) (f:FuncId) (e:Array Jl) (h:Heap):Prop:=CallsH P f e h λr g=>r=.bool Ji/\ExtH h g
theorem LawOk.calls {P:Program} {f:FuncId} {j:Array Jl} {w:World} (k:LawOk P f j w.heap):
  Calls P f j w λe w'=>e=.returned (.bool Ji)/\Below w.heap.size w w':=
 (k w rfl).mono λ_ _ ⟨_,h1,a,g,h⟩=>⟨by rw [h1,g],ZHJ a h⟩
section
variable {H:Type} {enc:TypeId×Jl->H} {P:Program}
theorem ZCY (l:laidOutB P=Ji) {W w:World} (a:Below W.heap.size W w):∀(g:List TypeId) (vs:Jc) (j:List (DataW H)) (k:List MemPlace),
  (g.all λt=>P.readableRec t&&decide (t<P.types.size))=Ji->DataW.TrodAll enc P W 0 (λ_=>Ji) Ji g vs j k->DataW.TrodAll enc P w 0 (λb=>decide (b<W.heap.size)) Ji g vs j k
 | [],vs,j,k,_,h=>by
  obtain ⟨rfl,rfl,rfl⟩:=trodAll_nil h;exact trodAll_mk0
 | t::g,vs,j,k,ht,h=>by
  have u:=h.lt;obtain ⟨v,o,d,a2,p,q,rfl,rfl,rfl,h1,e⟩:=trodAll_cons h;simp only [List.all_cons,Jz,decide_eq_true_eq] at ht;refine trodAll_cons_mk (Below.trod l ht.1.1 ht.1.2 h1 a λx f=>u x (List.mem_append_left _ f)) (ZCY l a g o a2 q ?_ e);simpa using ht.2
theorem lawPost {fn:Func} {s:ChangeSpec} {W W':World} {l:Array Jl} {j o:List (DataW H)} {k:List MemPlace} {tb:TypeId} (hl:laidOutB P=Ji)
  (hp:(fn.params.toList.all λt=>P.readableRec t&&decide (t<P.types.size))=Ji) (hr:fn.resultTypes=#[tb]) (u:P.underlying tb=some .bool) (a:s.vars=[])
  (w:DataW.Whole enc P fn.params.toList s.vars false W l.toList j o k)
  (h1:(s.fn H (j++o)).results=[.lit (.bool Ji)]) (f:(s.fn H (j++o)).args=j) (g:(s.fn H (j++o)).vars=[])
  (e:Below W.heap.size W W'):s.post enc P fn false Ji false false W l (.bool Ji) W':=by
 have x:=w;obtain ⟨p,q,hA,hV,rfl,a7,a8⟩:=w;rw [a] at hV;obtain ⟨rfl,rfl⟩:=trodVars_none hV;refine ⟨j,[],p++[],[],p,[],x,?_,?_,?_,e.frame _,λh=>by cases h⟩
 .rw [h1,hr];exact trodAll_cons_mk (shut_bool u _) trodAll_mk0
 .rw [f];exact ZCY hl e _ _ _ _ hp hA
 .rw [g,a];exact rfl
end
end Go.Vc
namespace Go.Vc
set_option linter.unusedVariables false
set_option linter.unusedSimpArgs false
open Go Go.ChangeShapes Go.WideShapes Go.ChangeAt
section
variable {H:Type} {enc:TypeId×Jl->H} {P:Program}
def Reads {H:Type} (enc:TypeId×Jl->H) (P:Program) {α:Type} (E:Elem α) (t:TypeId):Prop:=
 ∀(W:World) (g:Nat) (e:Nat->Bool) (h:Bool) (fuel:Nat) (cs:Jc) (x:DataW H×List MemPlace),DataW.trod enc P W g e h fuel t cs=some x->∃a,E W.heap cs a
theorem Zvr {α:Type} [Inhabited α] {E:Elem α} {t e:TypeId} {z:Nat} (ht:P.underlying t=some (.slice e)) (hz:P.cellsOf e=z) (hE:Reads enc P E e):Reads enc P (eSlB z E) t:=by
 intro W w a3 a4 fuel cs x h;rcases DataW.trod_slice ht h with ⟨rfl,_⟩|⟨a,len,cap,elems,rest,n,_,rfl,_,_,hle,hcm,hlen,hel,_⟩
 .exact ⟨[],_,rfl,.inl ⟨rfl,rfl⟩,by simp⟩
 .rw [hz] at hel;obtain ⟨f,hf⟩:=Go.Deep.choose_lt (α:=α) (n:=len) (p:=λi y=>ElemAt z E W.heap (a.add (i*z)) y) λi hi=>by
   have h1:=hel i hi;obtain ⟨y,hy⟩:=Zbs (xs:=elems) (k:=i) Z;rw [hy] at h1;cases g:W.cells? w (a.add (i*z)) z with
   | none=>rw [g] at h1;cases h1
   | some c=>
    rw [g] at h1;obtain ⟨s,l,o⟩:=World.cells?_some g;obtain ⟨v,r⟩:=hE W w a3 a4 n c y h1;exact ⟨v,c,l,λj u hu=>(o j (by have:=Zad hu;omega)).trans hu,r⟩
  refine ⟨(List.range len).map f,_,rfl,.inr ⟨a,cap,by simp,by simpa using hle,λi y hy=>?_⟩,?_⟩
  .have hi:i<len:=by have:=Zad hy;simpa using this
   rw [List.getElem?_map,List.getElem?_range hi] at hy;cases hy;exact hf i hi
  .unfold maxLen at hcm;simp only [List.length_map,List.length_range];omega
theorem Zwl {e:TypeId} {t:TypeId} {W:World} {r:Reach} {w j:Nat} {k:Nat->Bool} {o:Bool} {v:Jl} {d:DataW H} {ps:List MemPlace} {α:Type} {z:Nat} {E:Elem α} (ht:P.underlying t=some (.slice e)) (f:Value.okWide P W r w t v)
  (g:DataW.Trod enc P W j k o t v d ps) (hE:Reads enc P (eSlB z E) t):∃a,SlB z E W.heap v a:=by
 obtain ⟨a,l,c,rfl⟩:=okWide_slice ht f;obtain ⟨fuel,hf⟩:=g;obtain ⟨x,u,h1,h⟩:=hE W j k o fuel _ _ hf;simp only [Value.cells,List.cons.injEq,and_true] at h1;subst h1;exact ⟨x,h⟩
end
end Go.Vc
namespace Go.Vc
set_option linter.unusedVariables false
set_option linter.unusedSimpArgs false
open Go Go.ChangeShapes Go.WideShapes Go.ChangeAt
def elOf {α:Type} (E:El α) (ok:α->Prop):Elem α:=λh cs a=>E.R (hcell h) [] cs a/\ok a
section
variable {H:Type} {enc:TypeId×Jl->H} {P:Program} {α:Type}
theorem ZCO {t:TypeId} (l:P.underlying t=some (.int .u8)):Reads enc P (elOf (El.int .u8) (λx=>0<=x/\x<=255)) t:=by
 intro W j g k fuel cs x h;obtain ⟨n,rfl,_,e⟩:=DataW.trod_int l h;simp only [Lit.wf,Jz,decide_eq_true_eq] at e;exact ⟨n,⟨rfl,rfl⟩,e.1,e.2⟩
theorem Zuk {E:El α} {ok:α->Prop} {h:Heap} {v:Jl} {xs:List α} (O:SlAt E.z (elOf E ok) h v xs):SlC (hcell h) E v xs/\∀x∈xs,ok x:=by
 rcases O with ⟨rfl,rfl⟩|⟨a,c,h1,g,f⟩
 .exact ⟨.inl ⟨rfl,rfl⟩,by simp⟩
 .refine ⟨.inr ⟨a,c,h1,g,λi x e=>?_⟩,λx e=>?_⟩
  .obtain ⟨cs,_,j,k,_⟩:=f i x e;exact ⟨cs,j,k⟩
  .obtain ⟨i,hi⟩:=List.getElem?_of_mem e;obtain ⟨cs,_,_,_,l⟩:=f i x hi;exact l
theorem ZMn {f:FuncId} {j:Array Jl} {h:Heap} {l:CM} {b:Bool} (a:b=Ji) (e:CallsH P f j h λv k=>v=.bool b/\S l h k []):LawOk P f j h:=
 (e.mono λ_ _ ⟨h1,g⟩=>⟨by rw [h1,a],g.ext⟩:CallsH P f j h λr k=>r=.bool Ji/\ExtH h k)
end
end Go.Vc
