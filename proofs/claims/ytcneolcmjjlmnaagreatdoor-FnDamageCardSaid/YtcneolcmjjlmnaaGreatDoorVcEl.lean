import Derived.Test.YtcneolcmjjlmnaaGreatDoorVcSw
open Go renaming Value->Jl
namespace Go.Vc
set_option linter.unusedVariables false
set_option linter.unusedSimpArgs false
open Go
section
variable {ψ:CM} {h0 h:Heap} {os:List Ob} {α:Type}
theorem Hd.ext {h j:Heap} {v u:Jl} {i:Int} (f:Hd h v i u) (g:ExtH h j):Hd j v i u:=by
 obtain ⟨a,n,c,e,k⟩:=f;exact ⟨a,n,c,e,CLe.ext g _ _ k⟩
def El.raw:El Rws where
 z:=0
 R:=λ_ L cs x=>cs=[]/\L=x
 mono:=λ_ h=>h
 len:=λh=>by rw [h.1];rfl
 one:=λh v a=>by rw [h.1] at a;simp at a
 zc:=[]
 zx:=[]
 hz:=λ_=>⟨rfl,rfl⟩
theorem AllR.atc {φ:CM} {E:El α}:∀{L:Rws} {css:List Jc} {xs:List α} {i:Nat} {c:Jc} {x:α},AllR φ E L css xs->css[i]?=some c->xs[i]?=some x ->
  ∃M1 Mo w,L=M1++Mo++w/\E.R φ Mo c x/\∀u o c' x',CLe φ u->E.R u o c' x'->AllR u E (M1++o++w) (css.set i c') (xs.set i x')
 | _,[],_,i,c,x,_,h,_=>by simp at h
 | _,_::_,[],_,_,_,h,_,_=>h.elim
 | L,l::css,x0::xs,i,c,x,⟨L1,L2,e,h1,g⟩,a,f=>by
  cases i with
  | zero=>
   simp at a f;subst a f;exact ⟨[],L1,L2,by simpa using e,h1,λu o c' x' hl hr=>⟨o,L2,by simp,hr,g.mono hl⟩⟩
  | succ i=>
   obtain ⟨M1,Mo,w,e',j,k⟩:=AllR.atc g (by simpa using a) (by simpa using f);exact ⟨L1++M1,Mo,w,by rw [e,e'];simp,j,λu o c' x' hl hr=>⟨L1,M1++o++w,by simp,E.mono hl h1,k u o c' x' hl hr⟩⟩
theorem S0.re {φ e:CM} {g:Heap} {L L':Rws} (s:S0 ψ h0 h φ L) (s':S0 φ h0 g e L'):S0 ψ h0 g e L':=
 ⟨s'.ext,s'.row,s'.low,s'.nod,s'.fle,s'.dis,λp u hp=>s'.bas p u (s.bas p u hp),λp u hp a=>s.old p u (s'.old p u hp a) a⟩
theorem S0.self {φ:CM} {L:Rws} (s:S0 ψ h0 h φ L):S0 φ h0 h φ L:=⟨s.ext,s.row,s.low,s.nod,s.fle,s.dis,λ_ _ h=>h,λ_ _ h _=>h⟩
theorem Zcp {E:El α} {c:Jl} {y:α} (st:S ψ h0 h (.it E [c] y::os)) {t:TypeId} {K:Jl->Heap->Prop} (j:∀v g,S ψ h0 g (.it (El.ow E) [v] [y]::os)->K v g):vNewS h (.cells #[c] t) 1 K:=by
 refine vNewS.mk ?_;obtain ⟨φ,L,s,e,L',rfl,k,r⟩:=st;exact j _ _ ⟨φ,_,s.new [c] t,(h.size,Row.cs ([c]))::e,L',rfl,⟨_,rfl,.inr ⟨h.size,1,[],[[c]],[],e,rfl,Nat.le_refl _,by simp,by simp,⟨e,[],by simp,k,rfl⟩⟩⟩,r⟩
theorem ZtN {E:El α} {c d:Jl} {y z:α} (st:S ψ h0 h (.it E [c] y::.it E [d] z::os)) {t:TypeId} {K:Jl->Heap->Prop} (k:∀v j,S ψ h0 j (.it (El.ow E) [v] [y,z]::os)->K v j):vNewS h (.cells #[c,d] t) 2 K:=by
 refine vNewS.mk ?_;obtain ⟨φ,L,s,g,l,rfl,h1,e,L',rfl,a,r⟩:=st;refine k _ _ ⟨φ,(h.size,Row.cs ([c,d]))::(g++(e++L')),s.new [c,d] t,(h.size,Row.cs ([c,d]))::(g++e),L',by simp,⟨_,rfl,.inr ⟨h.size,2,[],[[c],[d]],[],g++e,rfl,Nat.le_refl _,by simp,by simp,⟨g,e,rfl,h1,e,[],by simp,a,rfl⟩⟩⟩,r⟩
def its (E:El α):Jc->List α->List Ob
 | c::cs,y::ys=>.it E [c] y::its E cs ys
 | _,_=>[]
theorem Rel.its {φ:CM} {E:El α}:∀{cs:Jc} {k:List α} {L:Rws},cs.length=k.length->Rel φ (its E cs k++os) L->∃M L',L=M++L'/\AllR φ E M (cs.map λc=>[c]) k/\Rel φ os L'
 | [],[],L,_,h=>⟨[],L,rfl,rfl,h⟩
 | c::cs,y::k,L,e,⟨L1,L2,h1,a,f⟩=>by
  obtain ⟨M,L',g,i,j⟩:=Rel.its (by simpa using e) f;exact ⟨L1++M,L',by rw [h1,g,List.append_assoc],⟨L1,M,rfl,a,i⟩,j⟩
 | [],_::_,_,e,_=>by simp at e
 | _::_,[],_,e,_=>by simp at e
theorem ZG6 {E:El α} (cs:Jc) (g:List α) {n:Nat} (st:S ψ h0 h (its E cs g++os)) (a:cs.length=n/\g.length=n) {t:TypeId} {K:Jl->Heap->Prop} (k:∀v j,S ψ h0 j (.it (El.ow E) [v] g::os)->K v j):vNewS h (.cells cs.toArray t) n K:=by
 obtain ⟨a,rfl⟩:=a;refine vNewS.mk ?_;obtain ⟨φ,L,s,r⟩:=st;obtain ⟨M,L',rfl,h1,e⟩:=r.its a;exact k _ _ ⟨φ,_,s.new cs t,(h.size,Row.cs cs)::M,L',rfl,⟨_,rfl,.inr ⟨h.size,g.length,[],cs.map λc=>[c],[],M,rfl,Nat.le_refl _,by simp,by rw [ZbS];simp,h1⟩⟩,e⟩
theorem ZFa {E:El α} {bytes z:Nat} {zero:Jc} {el:TypeId} {v u:Jl} {xs ys zs:List α} (st:S ψ h0 h (.it (El.ow E) [u] ys::os)) (i:Nat) (ho:os[i]?=some (.it (El.ow E) [v] xs)) (hz:E.z=z) (k:zero.length=z) (y:gApp bytes xs ys=some zs)
  {K:Jl->Heap->Prop} (hk:∀v' h',S ψ h0 h' (os.set i (.it (El.ow E) [v'] zs))->K v' h'):vAppend z bytes zero el v u h K:=by
 obtain ⟨⟨l,o⟩,rfl⟩:=Ze5 y;obtain ⟨φ,L,s,Ly,L',rfl,hy,r⟩:=st;obtain ⟨L1,Lo,L2,rfl,e2,_,e4⟩:=r.at ho;obtain ⟨Lk,Lr,css,rfl,g,hsrc⟩:∃Lk Lr css,Ly=Lk++Lr/\AllR φ E Lr css ys/\((u=.slice none 0 0/\ys.length=0)\/∃a c,u=.slice (some a) ys.length c/\∀(j:Nat) w,css.flatten[j]?=some w->hcell h (a.add j)=some w):=by
  rcases El.ow_to hy with ⟨h1,rfl,f⟩|⟨b,c,pre,css,rest,Lr,f1,f2,f3,x,f5⟩
  .exact ⟨Ly,[],[],by simp,rfl,.inl ⟨h1,rfl⟩⟩
  .refine ⟨[_],Lr,css,by rw [x];rfl,f5,.inr ⟨_,c,f1,λj w hw=>?_⟩⟩;rw [ZY];refine s.rows b (pre++css.flatten++rest) (by rw [x];simp) _ _ ?_;grind
 have s2:S0 ψ h0 h φ (Lo++(Lk++(L1++Lr++L2))):=s.perm (by
  have h1:(Lk++Lr++(L1++Lo++L2)).Perm (Lk++(Lo++(L1++Lr++L2))):=by
   rw [List.append_assoc];refine List.Perm.append_left Lk ?_;have h1:(Lr++(L1++Lo++L2)).Perm ((L1++Lo++L2)++Lr):=List.perm_append_comm;refine h1.trans ?_;have e:(L1++Lo).Perm (Lo++L1):=List.perm_append_comm;have f:(L1++Lo++L2++Lr).Perm (Lo++L1++L2++Lr):=(e.append_right L2).append_right Lr;refine f.trans ?_;simp only [List.append_assoc];exact (List.perm_append_comm (l₁:=L2) (l₂:=Lr)).append_left L1 |>.append_left Lo
  exact h1.trans (List.perm_append_comm_assoc ..))
 refine ZmD (news:=css.flatten) (m:=ys.length) s2 (El.ow_to e2) hz k ?_ (by rw [g.flat,hz]) g.one l o λv' a3 h' s3 ab=>hk v' h' ?_
 .rcases hsrc with h|⟨a,c,h1,e⟩
  .exact .inl h
  .exact .inr ⟨a,c,h1,e⟩
 .refine ⟨φ,L1++(a3++Lr)++L2,(s3.sub (List.Sublist.append_left (List.sublist_append_right ..) a3)).perm ?_,e4 φ (.it (El.ow E) [v'] (xs++ys)) (a3++Lr) (CLe.refl _) ⟨v',rfl,ab Lr css ys g rfl rfl⟩⟩;have e:(a3++L1).Perm (L1++a3):=List.perm_append_comm;have f:=(e.append_right Lr).append_right L2;simpa using f
end
end Go.Vc
