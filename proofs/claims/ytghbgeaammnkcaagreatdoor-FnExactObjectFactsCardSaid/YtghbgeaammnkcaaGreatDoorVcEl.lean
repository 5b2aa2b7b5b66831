import Derived.Test.YtghbgeaammnkcaaGreatDoorVcSw
namespace Go.Vc
set_option linter.unusedVariables false
set_option linter.unusedSimpArgs false
open Go
section
variable {ψ:CM} {h0 h:Heap} {os:List Ob} {α:Type}
theorem Hd.ext {h h':Heap} {v u:Value} {i:Int} (b:Hd h v i u) (f:ExtH h h'):Hd h' v i u:=by
 obtain ⟨a,n,c,e,hh⟩:=b;exact ⟨a,n,c,e,CLe.ext f _ _ hh⟩
theorem AllR.atc {φ:CM} {E:El α}:∀ {L:Rws} {css:List (List Value)} {xs:List α} {i:Nat} {c:List Value} {x:α},AllR φ E L css xs→css[i]?=some c→xs[i]?=some x →
  ∃ M1 Mo M2,L=M1++Mo++M2∧E.R φ Mo c x∧∀ φ' Mo' c' x',CLe φ φ'→E.R φ' Mo' c' x'→AllR φ' E (M1++Mo'++M2) (css.set i c') (xs.set i x')
 | _,[],_,i,c,x,_,h,_=>by simp at h
 | _,_::_,[],_,_,_,h,_,_=>h.elim
 | L,l::css,m::xs,i,c,x,⟨L1,L2,e,f,g⟩,a,b=>by
  cases i with
  | zero=>
   simp at a b;subst a b
   exact ⟨[],L1,L2,by simpa using e,f,fun φ' Mo' c' x' hl hr=>⟨Mo',L2,by simp,hr,g.mono hl⟩⟩
  | succ i=>
   obtain ⟨M1,Mo,M2,e',j,k⟩:=AllR.atc g (by simpa using a) (by simpa using b)
   exact ⟨L1++M1,Mo,M2,by rw [e,e'];simp,j,fun φ' Mo' c' x' hl hr=>⟨L1,M1++Mo'++M2,by simp,E.mono hl f,k φ' Mo' c' x' hl hr⟩⟩
theorem S0.self {φ:CM} {L:Rws} (s:S0 ψ h0 h φ L):S0 φ h0 h φ L:=⟨s.ext,s.row,s.low,s.nod,s.fle,s.dis,fun _ _ h=>h,fun _ _ h _=>h⟩
theorem Zle {E:El α} {c:Value} {y:α} (st:S ψ h0 h (.it E [c] y::os)) {t:TypeId} {K:Value→Heap→Prop} (hk:∀ v h',S ψ h0 h' (.it (El.ow E) [v] [y]::os)→K v h'):vNewS h (.cells #[c] t) 1 K:=by
 obtain ⟨φ,L,s,Ly,L',rfl,hy,r⟩:=st
 exact hk _ _ ⟨φ,_,s.new [c] t,(h.size,Row.cs ([c]))::Ly,L',rfl,⟨_,rfl,.inr ⟨h.size,1,[],[[c]],[],Ly,rfl,Nat.le_refl _,by simp,by simp,⟨Ly,[],by simp,hy,rfl⟩⟩⟩,r⟩
end
end Go.Vc
