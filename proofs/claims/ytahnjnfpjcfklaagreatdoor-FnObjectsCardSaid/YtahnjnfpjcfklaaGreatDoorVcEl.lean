import Derived.Test.YtahnjnfpjcfklaaGreatDoorVcSw
namespace Go.Vc
set_option linter.unusedVariables false
set_option linter.unusedSimpArgs false
open Go
section
variable {ψ:CM} {h0 h:Heap} {os:List Ob} {α:Type}
theorem Hd.ext {h j:Heap} {v u:Value} {i:Int} (f:Hd h v i u) (g:ExtH h j):Hd j v i u:=by
 obtain ⟨a,n,c,e,k⟩:=f;exact ⟨a,n,c,e,CLe.ext g _ _ k⟩
def El.raw:El Rws where
 z:=0
 R:=fun _ L cs x=>cs=[]/\L=x
 mono:=fun _ h=>h
 len:=fun h=>by rw [h.1];rfl
 one:=fun h v a=>by rw [h.1] at a;simp at a
 zc:=[]
 zx:=[]
 hz:=fun _=>⟨rfl,rfl⟩
theorem AllR.atc {φ:CM} {E:El α}:∀ {L:Rws} {css:List (List Value)} {xs:List α} {i:Nat} {c:List Value} {x:α},AllR φ E L css xs->css[i]?=some c->xs[i]?=some x ->
  ∃ M1 Mo M2,L=M1++Mo++M2/\E.R φ Mo c x/\∀ u r c' w,CLe φ u->E.R u r c' w->AllR u E (M1++r++M2) (css.set i c') (xs.set i w)
 | _,[],_,i,c,x,_,h,_=>by simp at h
 | _,_::_,[],_,_,_,h,_,_=>h.elim
 | L,l::css,o::xs,i,c,x,⟨L1,L2,e,h1,g⟩,a,f=>by
  cases i with
  | zero=>
   simp at a f;subst a f;exact ⟨[],L1,L2,by simpa using e,h1,fun u r c' w hl hr=>⟨r,L2,by simp,hr,g.mono hl⟩⟩
  | succ i=>
   obtain ⟨M1,Mo,M2,e',j,k⟩:=AllR.atc g (by simpa using a) (by simpa using f);exact ⟨L1++M1,Mo,M2,by rw [e,e'];simp,j,fun u r c' w hl hr=>⟨L1,M1++r++M2,by simp,E.mono hl h1,k u r c' w hl hr⟩⟩
theorem S0.re {φ e:CM} {g:Heap} {L L':Rws} (s:S0 ψ h0 h φ L) (s':S0 φ h0 g e L'):S0 ψ h0 g e L':=
 ⟨s'.ext,s'.row,s'.low,s'.nod,s'.fle,s'.dis,fun p u hp=>s'.bas p u (s.bas p u hp),fun p u hp a=>s.old p u (s'.old p u hp a) a⟩
theorem S0.self {φ:CM} {L:Rws} (s:S0 ψ h0 h φ L):S0 φ h0 h φ L:=⟨s.ext,s.row,s.low,s.nod,s.fle,s.dis,fun _ _ h=>h,fun _ _ h _=>h⟩
theorem Zck {E:El α} {c:Value} {y:α} (st:S ψ h0 h (.it E [c] y::os)) {t:TypeId} {K:Value->Heap->Prop} (g:∀ v e,S ψ h0 e (.it (El.ow E) [v] [y]::os)->K v e):vNewS h (.cells #[c] t) 1 K:=by
 refine vNewS.mk ?_;obtain ⟨φ,L,s,a,L',rfl,j,r⟩:=st;exact g _ _ ⟨φ,_,s.new [c] t,(h.size,Row.cs ([c]))::a,L',rfl,⟨_,rfl,.inr ⟨h.size,1,[],[[c]],[],a,rfl,Nat.le_refl _,by simp,by simp,⟨a,[],by simp,j,rfl⟩⟩⟩,r⟩
theorem ZlR {E:El α} {c d:Value} {y z:α} (st:S ψ h0 h (.it E [c] y::.it E [d] z::os)) {t:TypeId} {K:Value->Heap->Prop} (k:∀ v j,S ψ h0 j (.it (El.ow E) [v] [y,z]::os)->K v j):vNewS h (.cells #[c,d] t) 2 K:=by
 refine vNewS.mk ?_;obtain ⟨φ,L,s,g,l,rfl,h1,e,L',rfl,a,r⟩:=st;refine k _ _ ⟨φ,(h.size,Row.cs ([c,d]))::(g++(e++L')),s.new [c,d] t,(h.size,Row.cs ([c,d]))::(g++e),L',by simp,⟨_,rfl,.inr ⟨h.size,2,[],[[c],[d]],[],g++e,rfl,Nat.le_refl _,by simp,by simp,⟨g,e,rfl,h1,e,[],by simp,a,rfl⟩⟩⟩,r⟩
def its (E:El α):List Value->List α->List Ob
 | c::cs,y::ys=>.it E [c] y::its E cs ys
 | _,_=>[]
theorem Rel.its {φ:CM} {E:El α}:∀ {cs:List Value} {k:List α} {L:Rws},cs.length=k.length->Rel φ (its E cs k++os) L->∃ M L',L=M++L'/\AllR φ E M (cs.map fun c=>[c]) k/\Rel φ os L'
 | [],[],L,_,h=>⟨[],L,rfl,rfl,h⟩
 | c::cs,y::k,L,e,⟨L1,L2,h1,a,f⟩=>by
  obtain ⟨M,L',g,i,j⟩:=Rel.its (by simpa using e) f;exact ⟨L1++M,L',by rw [h1,g,List.append_assoc],⟨L1,M,rfl,a,i⟩,j⟩
 | [],_::_,_,e,_=>by simp at e
 | _::_,[],_,e,_=>by simp at e
theorem ZyQ {E:El α} (cs:List Value) (g:List α) {n:Nat} (st:S ψ h0 h (its E cs g++os)) (a:cs.length=n/\g.length=n) {t:TypeId} {K:Value->Heap->Prop} (k:∀ v j,S ψ h0 j (.it (El.ow E) [v] g::os)->K v j):vNewS h (.cells cs.toArray t) n K:=by
 obtain ⟨a,rfl⟩:=a;refine vNewS.mk ?_;obtain ⟨φ,L,s,r⟩:=st;obtain ⟨M,L',rfl,h1,e⟩:=r.its a;exact k _ _ ⟨φ,_,s.new cs t,(h.size,Row.cs cs)::M,L',rfl,⟨_,rfl,.inr ⟨h.size,g.length,[],cs.map fun c=>[c],[],M,rfl,Nat.le_refl _,by simp,by rw [ZbI];simp,h1⟩⟩,e⟩
theorem ZGM {E:El α} {bytes z:Nat} {zero:List Value} {el:TypeId} {v u:Value} {xs ys zs:List α} (st:S ψ h0 h (.it (El.ow E) [u] ys::os)) (i:Nat) (ho:os[i]?=some (.it (El.ow E) [v] xs)) (hz:E.z=z) (k:zero.length=z) (y:gApp bytes xs ys=some zs)
  {K:Value->Heap->Prop} (hk:∀ v' h',S ψ h0 h' (os.set i (.it (El.ow E) [v'] zs))->K v' h'):vAppend z bytes zero el v u h K:=by
 obtain ⟨⟨l,o⟩,rfl⟩:=ZcS y;obtain ⟨φ,L,s,Ly,L',rfl,hy,r⟩:=st;obtain ⟨L1,Lo,L2,rfl,e2,_,e4⟩:=r.at ho;obtain ⟨Lk,Lr,css,rfl,g,hsrc⟩:∃ Lk Lr css,Ly=Lk++Lr/\AllR φ E Lr css ys/\((u=.slice none 0 0/\ys.length=0)\/∃ a c,u=.slice (some a) ys.length c/\∀ (j:Nat) w,css.flatten[j]?=some w->hcell h (a.add j)=some w):=by
  rcases El.ow_to hy with ⟨h1,rfl,f⟩|⟨b,c,pre,css,rest,Lr,f1,f2,f3,x,f5⟩
  ·exact ⟨Ly,[],[],by simp,rfl,.inl ⟨h1,rfl⟩⟩
  ·refine ⟨[_],Lr,css,by rw [x];rfl,f5,.inr ⟨_,c,f1,fun j w hw=>?_⟩⟩;rw [Z5];refine s.rows b (pre++css.flatten++rest) (by rw [x];simp) _ _ ?_;rw [List.append_assoc,List.getElem?_append_right ω,Nat.add_sub_cancel_left,List.getElem?_append_left (Z0 hw)];exact hw
 have s2:S0 ψ h0 h φ (Lo++(Lk++(L1++Lr++L2))):=s.perm (by
  have h1:(Lk++Lr++(L1++Lo++L2)).Perm (Lk++(Lo++(L1++Lr++L2))):=by
   rw [List.append_assoc];refine List.Perm.append_left Lk ?_;have h1:(Lr++(L1++Lo++L2)).Perm ((L1++Lo++L2)++Lr):=List.perm_append_comm;refine h1.trans ?_;have e:(L1++Lo).Perm (Lo++L1):=List.perm_append_comm;have f:(L1++Lo++L2++Lr).Perm (Lo++L1++L2++Lr):=(e.append_right L2).append_right Lr;refine f.trans ?_;simp only [List.append_assoc];exact (List.perm_append_comm (l₁:=L2) (l₂:=Lr)).append_left L1 |>.append_left Lo
  exact h1.trans (List.perm_append_comm_assoc ..))
 refine ZhP (news:=css.flatten) (m:=ys.length) s2 (El.ow_to e2) hz k ?_ (by rw [g.flat,hz]) g.one l o fun v' a3 h' s3 ab=>hk v' h' ?_
 ·rcases hsrc with h|⟨a,c,h1,e⟩
  ·exact .inl h
  ·exact .inr ⟨a,c,h1,e⟩
 ·refine ⟨φ,L1++(a3++Lr)++L2,(s3.sub (List.Sublist.append_left (List.sublist_append_right ..) a3)).perm ?_,e4 φ (.it (El.ow E) [v'] (xs++ys)) (a3++Lr) (CLe.refl _) ⟨v',rfl,ab Lr css ys g rfl rfl⟩⟩;have e:(a3++L1).Perm (L1++a3):=List.perm_append_comm;have f:=(e.append_right Lr).append_right L2;simpa using f
end
end Go.Vc
