import Derived.Test.YtccncimchmimdaaGreatDoorVcSw
namespace Go.Vc
set_option linter.unusedVariables false
set_option linter.unusedSimpArgs false
open Go
section
variable {ψ:CM} {h0 h:Heap} {os:List Ob} {α:Type}
theorem Hd.ext {h g:Heap} {v u:Value} {i:Int} (b:Hd h v i u) (f:ExtH h g):Hd g v i u:=by
 obtain ⟨a,n,c,e,j⟩:=b;exact ⟨a,n,c,e,CLe.ext f _ _ j⟩
def El.raw:El Rws where
 z:=0
 R:=fun _ L cs x=>cs=[]/\L=x
 mono:=fun _ h=>h
 len:=fun h=>by rw [h.1];rfl
 one:=fun h v a=>by rw [h.1] at a;simp at a
 zc:=[]
 zx:=[]
 hz:=fun _=>⟨rfl,rfl⟩
theorem AllR.atc {φ:CM} {E:El α}:∀ {L:Rws} {css:List (List Value)} {xs:List α} {i:Nat} {c:List Value} {x:α},AllR φ E L css xs->css[i]?=some c->xs[i]?=some x ->
  ∃ M1 Mo M2,L=M1++Mo++M2/\E.R φ Mo c x/\∀ u r y w,CLe φ u->E.R u r y w->AllR u E (M1++r++M2) (css.set i y) (xs.set i w)
 | _,[],_,i,c,x,_,h,_=>by simp at h
 | _,_::_,[],_,_,_,h,_,_=>h.elim
 | L,l::css,o::xs,i,c,x,⟨L1,L2,e,f,g⟩,a,b=>by
  cases i with
  | zero=>
   simp at a b;subst a b
   exact ⟨[],L1,L2,by simpa using e,f,fun u r y w hl hr=>⟨r,L2,by simp,hr,g.mono hl⟩⟩
  | succ i=>
   obtain ⟨M1,Mo,M2,e',j,k⟩:=AllR.atc g (by simpa using a) (by simpa using b)
   exact ⟨L1++M1,Mo,M2,by rw [e,e'];simp,j,fun u r y w hl hr=>⟨L1,M1++r++M2,by simp,E.mono hl f,k u r y w hl hr⟩⟩
theorem S0.re {e c:CM} {g:Heap} {L L':Rws} (s:S0 ψ h0 h e L) (s':S0 e h0 g c L'):S0 ψ h0 g c L':=
 ⟨s'.ext,s'.row,s'.low,s'.nod,s'.fle,s'.dis,fun p u hp=>s'.bas p u (s.bas p u hp),fun p u hp a=>s.old p u (s'.old p u hp a) a⟩
theorem S0.self {a:CM} {L:Rws} (s:S0 ψ h0 h a L):S0 a h0 h a L:=⟨s.ext,s.row,s.low,s.nod,s.fle,s.dis,fun _ _ h=>h,fun _ _ h _=>h⟩
theorem Zmk {E:El α} {c:Value} {y:α} (st:S ψ h0 h (.it E [c] y::os)) {t:TypeId} {K:Value->Heap->Prop} (j:∀ v e,S ψ h0 e (.it (El.ow E) [v] [y]::os)->K v e):vNewS h (.cells #[c] t) 1 K:=by
 obtain ⟨g,L,s,a,L',rfl,k,r⟩:=st
 exact j _ _ ⟨g,_,s.new [c] t,(h.size,Row.cs ([c]))::a,L',rfl,⟨_,rfl,.inr ⟨h.size,1,[],[[c]],[],a,rfl,Nat.le_refl _,by simp,by simp,⟨a,[],by simp,k,rfl⟩⟩⟩,r⟩
end
end Go.Vc
