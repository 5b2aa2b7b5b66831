import Derived.Test.YtcneolcmjjlmnaaGreatDoorVcMap
open List renaming mem_of_getElem?->JH,perm_append_comm->JE
open Option renaming some->Jg
open Go renaming Value->Jl
namespace Go.Vc
set_option linter.unusedVariables false
set_option linter.unusedSimpArgs false
open Go
section
variable {ψ:CM} {h0 h:Heap} {os:List Ob} {α:Type}
def PinL {α:Type} (φ:CM) (E:El α) (k:List (Nat×Jl)) (L:Rws) (v:Jl) (e:List (List α)):Prop:=
 (v=.slice none 0 0/\e=[]/\L=[])\/∃b c pre css g j,v=.slice (Jg ⟨b,pre.length,none⟩) e.length c/\e.length<=c/\(c-e.length)*1<=g.length/\L=(b,.cs (pre++css.flatten++g))::j/\AllR φ (El.ow E) j css e/\∀p∈k,css[p.1]?=Jg [p.2]
def El.pins {α:Type} (E:El α) (w:List (Nat×Jl)):El (List (List α)) where
 z:=1
 R:=λφ L cs o=>∃v,cs=[v]/\PinL φ E w L v o
 mono:=λx ⟨v,h1,a⟩=>⟨v,h1,by
  rcases a with a|⟨b,c,pre,css,rest,Lr,e,f,g,i,j,k⟩
  .exact .inl a
  .exact .inr ⟨b,c,pre,css,rest,Lr,e,f,g,i,j.mono x,k⟩⟩
 len:=λ⟨v,h1,_⟩=>by rw [h1];rfl
 one:=λ⟨v,h1,a⟩ u l=>by
  rw [h1] at l;simp at l;rw [l];rcases a with ⟨rfl,_⟩|⟨b,c,pre,css,rest,Lr,rfl,_⟩<;>rfl
 zc:=[.slice none 0 0]
 zx:=[]
 hz:=λ_=>⟨_,rfl,.inl ⟨rfl,rfl,rfl⟩⟩
theorem El.pins_to {E:El α} {g:List (Nat×Jl)} {φ:CM} {L:Rws} {v:Jl} {e:List (List α)} (h:(El.pins E g).R φ L [v] e):PinL φ E g L v e:=by
 obtain ⟨u,h1,a⟩:=h;grind
theorem PinL.own {E:El α} {k:List (Nat×Jl)} {φ:CM} {L:Rws} {v:Jl} {j:List (List α)} (h:PinL φ E k L v j):OwnL φ (El.ow E) L v j:=by
 rcases h with h|⟨b,c,pre,css,rest,Lr,a,e,f,g,i,_⟩
 .exact .inl h
 .exact .inr ⟨b,c,pre,css,rest,Lr,a,e,f,g,i⟩
theorem S.swapE {E E':El α} {cs:Jc} {x:α} (st:S ψ h0 h os) (k:Nat) (l:os[k]?=Jg (.it E cs x)) (j:∀φ L,E.R φ L cs x->E'.R φ L cs x):S ψ h0 h (os.set k (.it E' cs x)):=by
 obtain ⟨φ,L,s,r⟩:=st;obtain ⟨u,g,o,a,e,_,f⟩:=r.at l;exact ⟨φ,_,by rw [<-a];exact s,f φ (.it E' cs x) g (CLe.refl _) (j φ g e)⟩
theorem S.pin0 {E:El α} {v:Jl} {l:List (List α)} (st:S ψ h0 h os) (k:Nat) (u:os[k]?=Jg (.it (El.ow (El.ow E)) [v] l)):S ψ h0 h (os.set k (.it (El.pins E []) [v] l)):=
 st.swapE k u λφ L ⟨o,h1,a⟩=>⟨o,h1,by
  rcases a with h|⟨b,c,pre,css,rest,Lr,e,f,g,i,j⟩
  .exact .inl h
  .exact .inr ⟨b,c,pre,css,rest,Lr,e,f,g,i,j,λp hp=>by cases hp⟩⟩
theorem S.unpin {E:El α} {l:List (Nat×Jl)} {v:Jl} {e:List (List α)} (st:S ψ h0 h os) (k:Nat) (j:os[k]?=Jg (.it (El.pins E l) [v] e)):S ψ h0 h (os.set k (.it (El.ow (El.ow E)) [v] e)):=
 st.swapE k j λφ L ⟨g,h1,a⟩=>⟨g,h1,a.own⟩
theorem S.keepP {E:El α} {w:List (Nat×Jl)} {v:Jl} {u:List (List α)} (st:S ψ h0 h os) (k:Nat) (ho:os[k]?=Jg (.it (El.pins E w) [v] u)) (is:List Nat):S ψ h0 h (os.set k (.it (El.pins E (is.filterMap λi=>w[i]?)) [v] u)):=
 st.swapE k ho λφ L ⟨x,h1,a⟩=>⟨x,h1,by
  rcases a with h|⟨b,c,pre,css,rest,Lr,e,f,g,j,l,o⟩
  .exact .inl h
  .exact .inr ⟨b,c,pre,css,rest,Lr,e,f,g,j,l,λp hp=>by
    grind⟩⟩
theorem S.rdP {E E':El α} {o:List (Nat×Jl)} {v:Jl} {e:List (List α)} (st:S ψ h0 h os) (k:Nat) (j:os[k]?=Jg (.it (El.pins E o) [v] e)) (l:Frz E E'):SlC (hcell h) (El.sl E') v e:=by
 have g:k<os.length:=by
  grind
 exact (st.unpin k j).rdL k (by rw [List.getElem?_set_self g]) (ZO l)
theorem Zbh {E:El α} {ps:List (Nat×Jl)} {v:Jl} {a2:List (List α)} {i:Int} {xs:List α} {p:Addr} (st:S ψ h0 h os) (k:Nat) (ho:os[k]?=Jg (.it (El.pins E ps) [v] a2)) (hp:AddrOf v i 1 p) (w:gIdx a2 i=Jg xs) {K:Jl->Prop}
  (hk:∀u,S ψ h0 h (os.set k (.it (El.pins E ((i.toNat,u)::ps)) [v] a2))->K u):ldV h p K:=by
 obtain ⟨i0,g⟩:=ZaK w;obtain ⟨φ,L,s,r⟩:=st;obtain ⟨L1,Lo,L2,j,x,_,y⟩:=r.at ho;rcases El.pins_to x with ⟨_,rfl,_⟩|⟨b,c,pre,css,rest,Lr,l,f2,f3,o,f,f6⟩
 .simp at g
 obtain ⟨ds,rfl⟩:=f.singles rfl;have a6:=f.length;rw [List.length_map] at a6;have li:=Zad g;obtain ⟨u,hu⟩:=Zbs (xs:=ds) (k:=i.toNat) Z;obtain ⟨a,n,c',e,rfl⟩:=hp;rw [l] at e;cases e;refine ⟨u,?_,hk u ⟨φ,_,by rw [<-j];exact s,y φ (.it (El.pins E ((i.toNat,u)::ps)) [v] a2) Lo (CLe.refl _) ⟨v,rfl,.inr ⟨b,c,pre,ds.map λd=>[d],rest,Lr,l,f2,f3,o,f,λp hp=>?_⟩⟩⟩⟩
 .rw [ZY,Nat.mul_one];refine s.rows b (pre++(ds.map λd=>[d]).flatten++rest) (by rw [j,o];simp) _ _ ?_;rw [ZbS,List.append_assoc,List.getElem?_append_right Z,Nat.add_sub_cancel_left,List.getElem?_append_left (Zad hu)];exact hu
 .rcases List.mem_cons.1 hp with rfl|hp
  .rw [List.getElem?_map,hu];rfl
  .exact f6 p hp
theorem Zy0 {E:El α} {ps:List (Nat×Jl)} {φ:CM} {L:Rws} {v u:Jl} {a2:List (List α)} {i:Int} {xs:List α} (hP:PinL φ E ps L v a2) (f:(i.toNat,u)∈ps) (g:gIdx a2 i=Jg xs):
  ∃(B:Nat×Row) (M1 Mo M2:Rws),L=B::(M1++Mo++M2)/\OwnL φ E Mo u xs/\∀w x,OwnL φ E w u x->PinL φ E ps (B::(M1++w++M2)) v (a2.set i.toNat x):=by
 obtain ⟨s,a⟩:=ZaK g;rcases hP with ⟨_,rfl,_⟩|⟨b,c,pre,css,rest,Lr,j,k,l,rfl,o,e⟩
 .simp at a
 have r:=e _ f;obtain ⟨M1,Mo,M2,rfl,hR,hset⟩:=o.atc (i:=i.toNat) (c:=[u]) r a;have a7:css.set i.toNat [u]=css:=by
  apply List.ext_getElem?;grind
 refine ⟨_,M1,Mo,M2,rfl,El.ow_to hR,λw x ho=>.inr ⟨b,c,pre,css,rest,M1++w++M2,by simpa using j,by simpa using k,by simpa using l,rfl,?_,e⟩⟩;have:=hset φ w [u] x (CLe.refl _) ⟨u,rfl,ho⟩;rwa [a7] at this
theorem S.rowP {E E':El α} {o:List (Nat×Jl)} {v u:Jl} {j:List (List α)} {i:Int} {xs:List α} (st:S ψ h0 h os) (k:Nat) (x:os[k]?=Jg (.it (El.pins E o) [v] j)) (n:Nat) (a:o[n]?=Jg (i.toNat,u)) (e:gIdx j i=Jg xs) (hf:Frz E E'):SlC (hcell h) E' u xs:=by
 obtain ⟨φ,L,s,r⟩:=st;obtain ⟨L1,Lo,L2,f,g,_,_⟩:=r.at x;obtain ⟨B,M1,Mo,M2,rfl,w,_⟩:=Zy0 (El.pins_to g) (JH a) e;refine El.sl_to ((ZO hf).2 (hcell h) Mo [u] xs ((El.ow E).mono s.fle ⟨u,rfl,w⟩) ?_);intro b' row l;exact s.rows b' row (by rw [f];simp [l])
theorem ZjG {E:El α} {ps:List (Nat×Jl)} {v u f:Jl} {a4:List (List α)} {i j:Int} {xs:List α} {x0 y:α} {q:Addr} {K:Heap->Prop} (st:S ψ h0 h os) (k:Nat) (ho:os[k]?=Jg (.it (El.pins E ps) [v] a4)) (n:Nat) (l:ps[n]?=Jg (i.toNat,u)) (o:gIdx a4 i=Jg xs)
  (w:AddrOf u j 1 q) (hj:gIdx xs j=Jg x0) (hz:E.z=1) (hy:∀φ,E.R φ [] [f] y)
  (hK:∀h',S ψ h0 h' (os.set k (.it (El.pins E ps) [v] (a4.set i.toNat (xs.set j.toNat y))))->K h'):vStore1 h q f K:=by
 obtain ⟨φ,L,s,r⟩:=st;obtain ⟨L1,Lo,L2,x,e2,_,e4⟩:=r.at ho;obtain ⟨B,M1,Mo,M2,rfl,hm,a6⟩:=Zy0 (El.pins_to e2) (JH l) o;have s2:S0 ψ h0 h φ (Mo++(L1++B::M1++(M2++L2))):=s.perm (by
  rw [x];have h1:(L1++B::M1++Mo).Perm (Mo++(L1++B::M1)):=JE;have g:=h1.append_right (M2++L2);grind)
 refine Zn0 (cs:=[f]) s2 hm w hz hj (hy φ) λa e h' s3 a9=>hK h' ⟨φ,L1++(B::(M1++(a++[]++e)++M2))++L2,s3.perm ?_,e4 φ _ _ (CLe.refl _) ⟨v,rfl,a6 _ _ a9⟩⟩;have h1:((a++e)++(L1++B::M1)).Perm ((L1++B::M1)++(a++e)):=JE;have g:=h1.append_right (M2++L2);simpa using g
end
end Go.Vc
