import Derived.Test.YtccncimchmimdaaGreatDoorVcMap
namespace Go.Vc
set_option linter.unusedVariables false
set_option linter.unusedSimpArgs false
open Go
section
variable {ψ:CM} {h0 h:Heap} {os:List Ob} {α:Type}
def PinL {α:Type} (k:CM) (E:El α) (l:List (Nat×Value)) (L:Rws) (v:Value) (a:List (List α)):Prop:=
 (v=.slice none 0 0/\a=[]/\L=[])\/∃ b c g css e j,v=.slice (some ⟨b,g.length,none⟩) a.length c/\a.length<=c/\(c-a.length)*1<=e.length/\L=(b,.cs (g++css.flatten++e))::j/\AllR k (El.ow E) j css a/\∀ p∈l,css[p.1]?=some [p.2]
def El.pins {α:Type} (E:El α) (x:List (Nat×Value)):El (List (List α)) where
 z:=1
 R:=fun w L cs r=>∃ v,cs=[v]/\PinL w E x L v r
 mono:=fun y ⟨v,a,e⟩=>⟨v,a,by
  rcases e with e|⟨b,c,pre,css,rest,Lr,f,g,i,j,k,l⟩
  ·exact .inl e
  ·exact .inr ⟨b,c,pre,css,rest,Lr,f,g,i,j,k.mono y,l⟩⟩
 len:=fun ⟨v,a,_⟩=>by rw [a];rfl
 one:=fun ⟨v,a,e⟩ u o=>by
  rw [a] at o;simp at o;rw [o]
  rcases e with ⟨rfl,_⟩|⟨b,c,pre,css,rest,Lr,rfl,_⟩<;>rfl
 zc:=[.slice none 0 0]
 zx:=[]
 hz:=fun _=>⟨_,rfl,.inl ⟨rfl,rfl,rfl⟩⟩
theorem El.pins_to {E:El α} {g:List (Nat×Value)} {e:CM} {L:Rws} {v:Value} {c:List (List α)} (h:(El.pins E g).R e L [v] c):PinL e E g L v c:=by
 obtain ⟨u,a,b⟩:=h;simp at a;subst a;exact b
theorem PinL.own {E:El α} {l:List (Nat×Value)} {k:CM} {L:Rws} {v:Value} {j:List (List α)} (h:PinL k E l L v j):OwnL k (El.ow E) L v j:=by
 rcases h with h|⟨b,c,pre,css,rest,Lr,a,e,f,g,i,_⟩
 ·exact .inl h
 ·exact .inr ⟨b,c,pre,css,rest,Lr,a,e,f,g,i⟩
theorem S.swapE {E g:El α} {cs:List Value} {x:α} (st:S ψ h0 h os) (k:Nat) (l:os[k]?=some (.it E cs x)) (o:∀ e L,E.R e L cs x->g.R e L cs x):S ψ h0 h (os.set k (.it g cs x)):=by
 obtain ⟨e,L,s,r⟩:=st
 obtain ⟨u,j,w,a,b,_,c⟩:=r.at l
 exact ⟨e,_,by rw [<-a];exact s,c e (.it g cs x) j (CLe.refl _) (o e j b)⟩
theorem S.pin0 {E:El α} {v:Value} {o:List (List α)} (st:S ψ h0 h os) (k:Nat) (u:os[k]?=some (.it (El.ow (El.ow E)) [v] o)):S ψ h0 h (os.set k (.it (El.pins E []) [v] o)):=
 st.swapE k u fun w L ⟨r,a,e⟩=>⟨r,a,by
  rcases e with h|⟨b,c,pre,css,rest,Lr,f,g,i,j,l⟩
  ·exact .inl h
  ·exact .inr ⟨b,c,pre,css,rest,Lr,f,g,i,j,l,fun p hp=>by cases hp⟩⟩
theorem S.unpin {E:El α} {g:List (Nat×Value)} {v:Value} {c:List (List α)} (st:S ψ h0 h os) (k:Nat) (j:os[k]?=some (.it (El.pins E g) [v] c)):S ψ h0 h (os.set k (.it (El.ow (El.ow E)) [v] c)):=
 st.swapE k j fun l L ⟨e,a,b⟩=>⟨e,a,b.own⟩
theorem S.keepP {E:El α} {w:List (Nat×Value)} {v:Value} {u:List (List α)} (st:S ψ h0 h os) (k:Nat) (y:os[k]?=some (.it (El.pins E w) [v] u)) (is:List Nat):S ψ h0 h (os.set k (.it (El.pins E (is.filterMap fun i=>w[i]?)) [v] u)):=
 st.swapE k y fun φ L ⟨x,a,e⟩=>⟨x,a,by
  rcases e with h|⟨b,c,pre,css,rest,Lr,f,g,j,l,o,r⟩
  ·exact .inl h
  ·exact .inr ⟨b,c,pre,css,rest,Lr,f,g,j,l,o,fun p hp=>by
    obtain ⟨i,_,hi⟩:=List.mem_filterMap.1 hp
    exact r p (List.mem_of_getElem? hi)⟩⟩
theorem S.rdP {E g:El α} {j:List (Nat×Value)} {v:Value} {a:List (List α)} (st:S ψ h0 h os) (k:Nat) (c:os[k]?=some (.it (El.pins E j) [v] a)) (l:Frz E g):SlC (hcell h) (El.sl g) v a:=by
 have e:k<os.length:=by
  rcases Nat.lt_or_ge k os.length with h'|h'
  ·exact h'
  ·rw [List.getElem?_eq_none h'] at c;cases c
 exact (st.unpin k c).rdL k (by rw [List.getElem?_set_self e]) (Zg l)
theorem ZkG {E:El α} {ps:List (Nat×Value)} {v:Value} {a0:List (List α)} {i:Int} {xs:List α} {p:Addr} (st:S ψ h0 h os) (k:Nat) (ho:os[k]?=some (.it (El.pins E ps) [v] a0)) (hp:AddrOf v i 1 p) (t:gIdx a0 i=some xs) {K:Value->Prop}
  (hk:∀ u,S ψ h0 h (os.set k (.it (El.pins E ((i.toNat,u)::ps)) [v] a0))->K u):ldV h p K:=by
 obtain ⟨i0,g⟩:=ZaP t
 obtain ⟨φ,L,s,r⟩:=st
 obtain ⟨L1,Lo,L2,j,w,_,x⟩:=r.at ho
 rcases El.pins_to w with ⟨_,rfl,_⟩|⟨b,c,pre,css,rest,Lr,l,y,f3,o,f,f6⟩
 ·simp at g
 obtain ⟨ds,rfl⟩:=f.singles rfl
 have a1:=f.length
 rw [List.length_map] at a1
 have li:=Z1 g
 obtain ⟨u,hu⟩:=ZaV (xs:=ds) (k:=i.toNat) ω
 obtain ⟨a,n,c',e,rfl⟩:=hp
 rw [l] at e;cases e
 refine ⟨u,?_,hk u ⟨φ,_,by rw [<-j];exact s,x φ (.it (El.pins E ((i.toNat,u)::ps)) [v] a0) Lo (CLe.refl _) ⟨v,rfl,.inr ⟨b,c,pre,ds.map fun d=>[d],rest,Lr,l,y,f3,o,f,fun p hp=>?_⟩⟩⟩⟩
 ·rw [Z7,Nat.mul_one]
  refine s.rows b (pre++(ds.map fun d=>[d]).flatten++rest) (by rw [j,o];simp) _ _ ?_
  rw [ZcB,List.append_assoc,List.getElem?_append_right ω,Nat.add_sub_cancel_left,List.getElem?_append_left (Z1 hu)]
  exact hu
 ·rcases List.mem_cons.1 hp with rfl|hp
  ·rw [List.getElem?_map,hu];rfl
  ·exact f6 p hp
theorem Zrg {E:El α} {ps:List (Nat×Value)} {y:CM} {L:Rws} {v u:Value} {a0:List (List α)} {i:Int} {xs:List α} (hP:PinL y E ps L v a0) (k:(i.toNat,u)∈ps) (l:gIdx a0 i=some xs):
  ∃ (B:Nat×Row) (M1 Mo M2:Rws),L=B::(M1++Mo++M2)/\OwnL y E Mo u xs/\∀ w x,OwnL y E w u x->PinL y E ps (B::(M1++w++M2)) v (a0.set i.toNat x):=by
 obtain ⟨t,f⟩:=ZaP l
 rcases hP with ⟨_,rfl,_⟩|⟨b,c,pre,css,rest,Lr,o,p,r,rfl,s,g⟩
 ·simp at f
 have a:=g _ k
 obtain ⟨M1,Mo,M2,rfl,hR,hset⟩:=s.atc (i:=i.toNat) (c:=[u]) a f
 have a5:css.set i.toNat [u]=css:=by
  apply List.ext_getElem?
  intro j
  rw [List.getElem?_set]
  split
  ·rename_i e;subst e
   rw [if_pos (Z1 a),a]
  ·rfl
 refine ⟨_,M1,Mo,M2,rfl,El.ow_to hR,fun w x ho=>.inr ⟨b,c,pre,css,rest,M1++w++M2,by simpa using o,by simpa using p,by simpa using r,rfl,?_,g⟩⟩
 have:=hset y w [u] x (CLe.refl _) ⟨u,rfl,ho⟩
 rwa [a5] at this
theorem S.rowP {E l:El α} {o:List (Nat×Value)} {v u:Value} {g:List (List α)} {i:Int} {xs:List α} (st:S ψ h0 h os) (k:Nat) (y:os[k]?=some (.it (El.pins E o) [v] g)) (n:Nat) (a:o[n]?=some (i.toNat,u)) (b:gIdx g i=some xs) (w:Frz E l):SlC (hcell h) l u xs:=by
 obtain ⟨φ,L,s,r⟩:=st
 obtain ⟨L1,Lo,L2,c,e,_,_⟩:=r.at y
 obtain ⟨B,M1,x,M2,rfl,hm,_⟩:=Zrg (El.pins_to e) (List.mem_of_getElem? a) b
 refine El.sl_to ((Zg w).2 (hcell h) x [u] xs ((El.ow E).mono s.fle ⟨u,rfl,hm⟩) ?_)
 intro b' row j
 exact s.rows b' row (by rw [c];simp [j])
theorem ZrN {E:El α} {ps:List (Nat×Value)} {v u c:Value} {a3:List (List α)} {i j:Int} {xs:List α} {g y:α} {q:Addr} {K:Heap->Prop} (st:S ψ h0 h os) (k:Nat) (ho:os[k]?=some (.it (El.pins E ps) [v] a3)) (n:Nat) (l:ps[n]?=some (i.toNat,u)) (o:gIdx a3 i=some xs)
  (p:AddrOf u j 1 q) (hj:gIdx xs j=some g) (hz:E.z=1) (hy:∀ φ,E.R φ [] [c] y)
  (hK:∀ h',S ψ h0 h' (os.set k (.it (El.pins E ps) [v] (a3.set i.toNat (xs.set j.toNat y))))->K h'):vStore1 h q c K:=by
 obtain ⟨φ,L,s,r⟩:=st
 obtain ⟨L1,Lo,L2,t,w,_,x⟩:=r.at ho
 obtain ⟨B,M1,Mo,M2,rfl,hm,a4⟩:=Zrg (El.pins_to w) (List.mem_of_getElem? l) o
 have s2:S0 ψ h0 h φ (Mo++(L1++B::M1++(M2++L2))):=s.perm (by
  rw [t]
  have e:(L1++B::M1++Mo).Perm (Mo++(L1++B::M1)):=List.perm_append_comm
  have f:=e.append_right (M2++L2)
  simpa using f)
 refine Zl8 (cs:=[c]) s2 hm p hz hj (hy φ) fun a b h' s3 aa=>hK h' ⟨φ,L1++(B::(M1++(a++[]++b)++M2))++L2,s3.perm ?_,x φ _ _ (CLe.refl _) ⟨v,rfl,a4 _ _ aa⟩⟩
 have e:((a++b)++(L1++B::M1)).Perm ((L1++B::M1)++(a++b)):=List.perm_append_comm
 have f:=e.append_right (M2++L2)
 simpa using f
end
end Go.Vc
