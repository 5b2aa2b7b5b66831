import Derived.Test.YtepnljbkgjbbmaaGreatDoorVcMap
namespace Go.Vc
set_option linter.unusedVariables false
set_option linter.unusedSimpArgs false
open Go
section
variable {ψ:CM} {h0 h:Heap} {os:List Ob} {α:Type}
def PinL {α:Type} (k:CM) (E:El α) (j:List (Nat×Value)) (L:Rws) (v:Value) (a:List (List α)):Prop:=
 (v=.slice none 0 0/\a=[]/\L=[])\/∃ b c pre css e g,v=.slice (some ⟨b,pre.length,none⟩) a.length c/\a.length<=c/\(c-a.length)*1<=e.length/\L=(b,.cs (pre++css.flatten++e))::g/\AllR k (El.ow E) g css a/\∀ p∈j,css[p.1]?=some [p.2]
def El.pins {α:Type} (E:El α) (w:List (Nat×Value)):El (List (List α)) where
 z:=1
 R:=fun x L cs o=>∃ v,cs=[v]/\PinL x E w L v o
 mono:=fun r ⟨v,h1,a⟩=>⟨v,h1,by
  rcases a with a|⟨b,c,pre,css,rest,Lr,e,f,g,i,j,k⟩
  ·exact .inl a
  ·exact .inr ⟨b,c,pre,css,rest,Lr,e,f,g,i,j.mono r,k⟩⟩
 len:=fun ⟨v,h1,_⟩=>by rw [h1];rfl
 one:=fun ⟨v,h1,a⟩ u l=>by
  rw [h1] at l;simp at l;rw [l]
  rcases a with ⟨rfl,_⟩|⟨b,c,pre,css,rest,Lr,rfl,_⟩<;>rfl
 zc:=[.slice none 0 0]
 zx:=[]
 hz:=fun _=>⟨_,rfl,.inl ⟨rfl,rfl,rfl⟩⟩
theorem El.pins_to {E:El α} {g:List (Nat×Value)} {j:CM} {L:Rws} {v:Value} {e:List (List α)} (h:(El.pins E g).R j L [v] e):PinL j E g L v e:=by
 obtain ⟨u,h1,a⟩:=h;simp at h1;subst h1;exact a
theorem PinL.own {E:El α} {l:List (Nat×Value)} {k:CM} {L:Rws} {v:Value} {j:List (List α)} (h:PinL k E l L v j):OwnL k (El.ow E) L v j:=by
 rcases h with h|⟨b,c,pre,css,rest,Lr,a,e,f,g,i,_⟩
 ·exact .inl h
 ·exact .inr ⟨b,c,pre,css,rest,Lr,a,e,f,g,i⟩
theorem S.swapE {E j:El α} {cs:List Value} {x:α} (st:S ψ h0 h os) (k:Nat) (u:os[k]?=some (.it E cs x)) (o:∀ g L,E.R g L cs x->j.R g L cs x):S ψ h0 h (os.set k (.it j cs x)):=by
 obtain ⟨g,L,s,r⟩:=st
 obtain ⟨y,l,w,a,c,_,e⟩:=r.at u
 exact ⟨g,_,by rw [<-a];exact s,e g (.it j cs x) l (CLe.refl _) (o g l c)⟩
theorem S.pin0 {E:El α} {v:Value} {l:List (List α)} (st:S ψ h0 h os) (k:Nat) (r:os[k]?=some (.it (El.ow (El.ow E)) [v] l)):S ψ h0 h (os.set k (.it (El.pins E []) [v] l)):=
 st.swapE k r fun u L ⟨o,h1,a⟩=>⟨o,h1,by
  rcases a with h|⟨b,c,pre,css,rest,Lr,e,f,g,i,j⟩
  ·exact .inl h
  ·exact .inr ⟨b,c,pre,css,rest,Lr,e,f,g,i,j,fun p hp=>by cases hp⟩⟩
theorem S.unpin {E:El α} {l:List (Nat×Value)} {v:Value} {e:List (List α)} (st:S ψ h0 h os) (k:Nat) (j:os[k]?=some (.it (El.pins E l) [v] e)):S ψ h0 h (os.set k (.it (El.ow (El.ow E)) [v] e)):=
 st.swapE k j fun o L ⟨g,h1,a⟩=>⟨g,h1,a.own⟩
theorem S.keepP {E:El α} {u:List (Nat×Value)} {v:Value} {r:List (List α)} (st:S ψ h0 h os) (k:Nat) (x:os[k]?=some (.it (El.pins E u) [v] r)) (is:List Nat):S ψ h0 h (os.set k (.it (El.pins E (is.filterMap fun i=>u[i]?)) [v] r)):=
 st.swapE k x fun y L ⟨w,h1,a⟩=>⟨w,h1,by
  rcases a with h|⟨b,c,pre,css,rest,Lr,e,f,g,j,l,o⟩
  ·exact .inl h
  ·exact .inr ⟨b,c,pre,css,rest,Lr,e,f,g,j,l,fun p hp=>by
    obtain ⟨i,_,hi⟩:=List.mem_filterMap.1 hp
    exact o p (List.mem_of_getElem? hi)⟩⟩
theorem S.rdP {E g:El α} {l:List (Nat×Value)} {v:Value} {a:List (List α)} (st:S ψ h0 h os) (k:Nat) (e:os[k]?=some (.it (El.pins E l) [v] a)) (o:Frz E g):SlC (hcell h) (El.sl g) v a:=by
 have j:k<os.length:=by
  rcases Nat.lt_or_ge k os.length with h'|h'
  ·exact h'
  ·rw [List.getElem?_eq_none h'] at e;cases e
 exact (st.unpin k e).rdL k (by rw [List.getElem?_set_self j]) (ZI o)
theorem Zka {E:El α} {ps:List (Nat×Value)} {v:Value} {a0:List (List α)} {i:Int} {xs:List α} {p:Addr} (st:S ψ h0 h os) (k:Nat) (ho:os[k]?=some (.it (El.pins E ps) [v] a0)) (hp:AddrOf v i 1 p) (w:gIdx a0 i=some xs) {K:Value->Prop}
  (hk:∀ u,S ψ h0 h (os.set k (.it (El.pins E ((i.toNat,u)::ps)) [v] a0))->K u):ldV h p K:=by
 obtain ⟨i0,g⟩:=ZaD w
 obtain ⟨φ,L,s,r⟩:=st
 obtain ⟨L1,Lo,L2,j,x,_,y⟩:=r.at ho
 rcases El.pins_to x with ⟨_,rfl,_⟩|⟨b,c,pre,css,rest,Lr,l,f2,f3,o,f,f6⟩
 ·simp at g
 obtain ⟨ds,rfl⟩:=f.singles rfl
 have a4:=f.length
 rw [List.length_map] at a4
 have li:=ZT g
 obtain ⟨u,hu⟩:=ZaC (xs:=ds) (k:=i.toNat) ω
 obtain ⟨a,n,c',e,rfl⟩:=hp
 rw [l] at e;cases e
 refine ⟨u,?_,hk u ⟨φ,_,by rw [<-j];exact s,y φ (.it (El.pins E ((i.toNat,u)::ps)) [v] a0) Lo (CLe.refl _) ⟨v,rfl,.inr ⟨b,c,pre,ds.map fun d=>[d],rest,Lr,l,f2,f3,o,f,fun p hp=>?_⟩⟩⟩⟩
 ·rw [ZN,Nat.mul_one]
  refine s.rows b (pre++(ds.map fun d=>[d]).flatten++rest) (by rw [j,o];simp) _ _ ?_
  rw [Zb1,List.append_assoc,List.getElem?_append_right ω,Nat.add_sub_cancel_left,List.getElem?_append_left (ZT hu)]
  exact hu
 ·rcases List.mem_cons.1 hp with rfl|hp
  ·rw [List.getElem?_map,hu];rfl
  ·exact f6 p hp
theorem Zs3 {E:El α} {ps:List (Nat×Value)} {φ:CM} {L:Rws} {v u:Value} {a3:List (List α)} {i:Int} {xs:List α} (hP:PinL φ E ps L v a3) (k:(i.toNat,u)∈ps) (l:gIdx a3 i=some xs):
  ∃ (B:Nat×Row) (M1 Mo M2:Rws),L=B::(M1++Mo++M2)/\OwnL φ E Mo u xs/\∀ x y,OwnL φ E x u y->PinL φ E ps (B::(M1++x++M2)) v (a3.set i.toNat y):=by
 obtain ⟨w,f⟩:=ZaD l
 rcases hP with ⟨_,rfl,_⟩|⟨b,c,pre,css,rest,Lr,o,p,r,rfl,s,g⟩
 ·simp at f
 have a:=g _ k
 obtain ⟨M1,Mo,M2,rfl,hR,hset⟩:=s.atc (i:=i.toNat) (c:=[u]) a f
 have a6:css.set i.toNat [u]=css:=by
  apply List.ext_getElem?
  intro j
  rw [List.getElem?_set]
  split
  ·rename_i e;subst e
   rw [if_pos (ZT a),a]
  ·rfl
 refine ⟨_,M1,Mo,M2,rfl,El.ow_to hR,fun x y ho=>.inr ⟨b,c,pre,css,rest,M1++x++M2,by simpa using o,by simpa using p,by simpa using r,rfl,?_,g⟩⟩
 have:=hset φ x [u] y (CLe.refl _) ⟨u,rfl,ho⟩
 rwa [a6] at this
theorem S.rowP {E o:El α} {l:List (Nat×Value)} {v u:Value} {g:List (List α)} {i:Int} {xs:List α} (st:S ψ h0 h os) (k:Nat) (ho:os[k]?=some (.it (El.pins E l) [v] g)) (n:Nat) (a:l[n]?=some (i.toNat,u)) (c:gIdx g i=some xs) (hf:Frz E o):SlC (hcell h) o u xs:=by
 obtain ⟨φ,L,s,r⟩:=st
 obtain ⟨L1,Lo,L2,e,f,_,_⟩:=r.at ho
 obtain ⟨B,M1,w,M2,rfl,y,_⟩:=Zs3 (El.pins_to f) (List.mem_of_getElem? a) c
 refine El.sl_to ((ZI hf).2 (hcell h) w [u] xs ((El.ow E).mono s.fle ⟨u,rfl,y⟩) ?_)
 intro x row j
 exact s.rows x row (by rw [e];simp [j])
theorem ZrQ {E:El α} {ps:List (Nat×Value)} {v u e:Value} {a3:List (List α)} {i j:Int} {xs:List α} {x0 y:α} {q:Addr} {K:Heap->Prop} (st:S ψ h0 h os) (k:Nat) (ho:os[k]?=some (.it (El.pins E ps) [v] a3)) (n:Nat) (g:ps[n]?=some (i.toNat,u)) (l:gIdx a3 i=some xs)
  (o:AddrOf u j 1 q) (hj:gIdx xs j=some x0) (hz:E.z=1) (hy:∀ φ,E.R φ [] [e] y)
  (hK:∀ h',S ψ h0 h' (os.set k (.it (El.pins E ps) [v] (a3.set i.toNat (xs.set j.toNat y))))->K h'):vStore1 h q e K:=by
 obtain ⟨φ,L,s,r⟩:=st
 obtain ⟨L1,Lo,L2,p,w,_,x⟩:=r.at ho
 obtain ⟨B,M1,Mo,M2,rfl,hm,a6⟩:=Zs3 (El.pins_to w) (List.mem_of_getElem? g) l
 have s2:S0 ψ h0 h φ (Mo++(L1++B::M1++(M2++L2))):=s.perm (by
  rw [p]
  have h1:(L1++B::M1++Mo).Perm (Mo++(L1++B::M1)):=List.perm_append_comm
  have f:=h1.append_right (M2++L2)
  simpa using f)
 refine Zj0 (cs:=[e]) s2 hm o hz hj (hy φ) fun a c h' s3 a9=>hK h' ⟨φ,L1++(B::(M1++(a++[]++c)++M2))++L2,s3.perm ?_,x φ _ _ (CLe.refl _) ⟨v,rfl,a6 _ _ a9⟩⟩
 have h1:((a++c)++(L1++B::M1)).Perm ((L1++B::M1)++(a++c)):=List.perm_append_comm
 have f:=h1.append_right (M2++L2)
 simpa using f
end
end Go.Vc
