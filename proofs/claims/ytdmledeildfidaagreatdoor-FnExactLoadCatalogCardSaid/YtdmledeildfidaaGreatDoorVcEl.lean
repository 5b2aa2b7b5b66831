import Derived.Test.YtdmledeildfidaaGreatDoorVcSw
namespace Go.Vc
set_option linter.unusedVariables false
set_option linter.unusedSimpArgs false
open Go
section
variable {ψ:CM} {h0 h:Heap} {os:List Ob} {α:Type}
theorem Hd.ext {h j:Heap} {v u:Value} {i:Int} (f:Hd h v i u) (g:ExtH h j):Hd j v i u:=by
 obtain ⟨a,n,c,e,k⟩:=f;exact ⟨a,n,c,e,CLe.ext g _ _ k⟩
def El.raw:El Rws where
 z:=0
 R:=fun _ L cs x=>cs=[]/\L=x
 mono:=fun _ h=>h
 len:=fun h=>by rw [h.1];rfl
 one:=fun h v a=>by rw [h.1] at a;simp at a
 zc:=[]
 zx:=[]
 hz:=fun _=>⟨rfl,rfl⟩
theorem AllR.atc {φ:CM} {E:El α}:∀ {L:Rws} {css:List (List Value)} {xs:List α} {i:Nat} {c:List Value} {x:α},AllR φ E L css xs->css[i]?=some c->xs[i]?=some x ->
  ∃ M1 Mo w,L=M1++Mo++w/\E.R φ Mo c x/\∀ r o u x',CLe φ r->E.R r o u x'->AllR r E (M1++o++w) (css.set i u) (xs.set i x')
 | _,[],_,i,c,x,_,h,_=>by simp at h
 | _,_::_,[],_,_,_,h,_,_=>h.elim
 | L,l::css,x0::xs,i,c,x,⟨L1,L2,e,h1,g⟩,a,f=>by
  cases i with
  | zero=>
   simp at a f;subst a f;exact ⟨[],L1,L2,by simpa using e,h1,fun r o u x' hl hr=>⟨o,L2,by simp,hr,g.mono hl⟩⟩
  | succ i=>
   obtain ⟨M1,Mo,w,e',j,k⟩:=AllR.atc g (by simpa using a) (by simpa using f);exact ⟨L1++M1,Mo,w,by rw [e,e'];simp,j,fun r o u x' hl hr=>⟨L1,M1++o++w,by simp,E.mono hl h1,k r o u x' hl hr⟩⟩
theorem S0.re {g e:CM} {j:Heap} {L L':Rws} (s:S0 ψ h0 h g L) (s':S0 g h0 j e L'):S0 ψ h0 j e L':=
 ⟨s'.ext,s'.row,s'.low,s'.nod,s'.fle,s'.dis,fun p u hp=>s'.bas p u (s.bas p u hp),fun p u hp a=>s.old p u (s'.old p u hp a) a⟩
theorem S0.self {a:CM} {L:Rws} (s:S0 ψ h0 h a L):S0 a h0 h a L:=⟨s.ext,s.row,s.low,s.nod,s.fle,s.dis,fun _ _ h=>h,fun _ _ h _=>h⟩
theorem Zme {E:El α} {c:Value} {y:α} (st:S ψ h0 h (.it E [c] y::os)) {t:TypeId} {K:Value->Heap->Prop} (j:∀ v e,S ψ h0 e (.it (El.ow E) [v] [y]::os)->K v e):vNewS h (.cells #[c] t) 1 K:=by
 refine vNewS.mk ?_;obtain ⟨g,L,s,a,L',rfl,k,r⟩:=st;exact j _ _ ⟨g,_,s.new [c] t,(h.size,Row.cs ([c]))::a,L',rfl,⟨_,rfl,.inr ⟨h.size,1,[],[[c]],[],a,rfl,Nat.le_refl _,by simp,by simp,⟨a,[],by simp,k,rfl⟩⟩⟩,r⟩
end
end Go.Vc
