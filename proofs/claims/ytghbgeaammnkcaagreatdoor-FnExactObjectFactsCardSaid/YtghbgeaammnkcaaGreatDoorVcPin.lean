import Derived.Test.YtghbgeaammnkcaaGreatDoorVcMap
namespace Go.Vc
set_option linter.unusedVariables false
set_option linter.unusedSimpArgs false
open Go
section
variable {ψ:CM} {h0 h:Heap} {os:List Ob} {α:Type}
def PinL {α:Type} (φ:CM) (E:El α) (ps:List (Nat×Value)) (L:Rws) (v:Value) (xss:List (List α)):Prop:=
 (v=.slice none 0 0∧xss=[]∧L=[])∨∃ b c pre css rest Lr,v=.slice (some ⟨b,pre.length,none⟩) xss.length c∧xss.length≤c∧(c-xss.length)*1≤rest.length∧L=(b,.cs (pre++css.flatten++rest))::Lr∧AllR φ (El.ow E) Lr css xss∧∀ p∈ps,css[p.1]?=some [p.2]
def El.pins {α:Type} (E:El α) (ps:List (Nat×Value)):El (List (List α)) where
 z:=1
 R:=fun φ L cs xss=>∃ v,cs=[v]∧PinL φ E ps L v xss
 mono:=fun hl ⟨v,a,e⟩=>⟨v,a,by
  rcases e with e|⟨b,c,pre,css,rest,Lr,f,g,i,j,k,l⟩
  ·exact .inl e
  ·exact .inr ⟨b,c,pre,css,rest,Lr,f,g,i,j,k.mono hl,l⟩⟩
 len:=fun ⟨v,a,_⟩=>by rw [a];rfl
 one:=fun ⟨v,a,e⟩ u hu=>by
  rw [a] at hu;simp at hu;rw [hu]
  rcases e with ⟨rfl,_⟩|⟨b,c,pre,css,rest,Lr,rfl,_⟩<;>rfl
 zc:=[.slice none 0 0]
 zx:=[]
 hz:=fun _=>⟨_,rfl,.inl ⟨rfl,rfl,rfl⟩⟩
theorem El.pins_to {E:El α} {ps:List (Nat×Value)} {φ:CM} {L:Rws} {v:Value} {xss:List (List α)} (h:(El.pins E ps).R φ L [v] xss):PinL φ E ps L v xss:=by
 obtain ⟨u,a,b⟩:=h;simp at a;subst a;exact b
theorem PinL.own {E:El α} {ps:List (Nat×Value)} {φ:CM} {L:Rws} {v:Value} {xss:List (List α)} (h:PinL φ E ps L v xss):OwnL φ (El.ow E) L v xss:=by
 rcases h with h|⟨b,c,pre,css,rest,Lr,a,e,f,g,i,_⟩
 ·exact .inl h
 ·exact .inr ⟨b,c,pre,css,rest,Lr,a,e,f,g,i⟩
theorem S.swapE {E E':El α} {cs:List Value} {x:α} (st:S ψ h0 h os) (k:Nat) (ho:os[k]?=some (.it E cs x)) (hE:∀ φ L,E.R φ L cs x→E'.R φ L cs x):S ψ h0 h (os.set k (.it E' cs x)):=by
 obtain ⟨φ,L,s,r⟩:=st
 obtain ⟨L1,Lo,L2,a,b,_,c⟩:=r.at ho
 exact ⟨φ,_,by rw [←a];exact s,c φ (.it E' cs x) Lo (CLe.refl _) (hE φ Lo b)⟩
theorem S.pin0 {E:El α} {v:Value} {xss:List (List α)} (st:S ψ h0 h os) (k:Nat) (ho:os[k]?=some (.it (El.ow (El.ow E)) [v] xss)):S ψ h0 h (os.set k (.it (El.pins E []) [v] xss)):=
 st.swapE k ho fun φ L ⟨v',a,e⟩=>⟨v',a,by
  rcases e with h|⟨b,c,pre,css,rest,Lr,f,g,i,j,l⟩
  ·exact .inl h
  ·exact .inr ⟨b,c,pre,css,rest,Lr,f,g,i,j,l,fun p hp=>by cases hp⟩⟩
theorem S.unpin {E:El α} {ps:List (Nat×Value)} {v:Value} {xss:List (List α)} (st:S ψ h0 h os) (k:Nat) (ho:os[k]?=some (.it (El.pins E ps) [v] xss)):S ψ h0 h (os.set k (.it (El.ow (El.ow E)) [v] xss)):=
 st.swapE k ho fun φ L ⟨v',a,b⟩=>⟨v',a,b.own⟩
theorem S.keepP {E:El α} {ps:List (Nat×Value)} {v:Value} {xss:List (List α)} (st:S ψ h0 h os) (k:Nat) (ho:os[k]?=some (.it (El.pins E ps) [v] xss)) (is:List Nat):S ψ h0 h (os.set k (.it (El.pins E (is.filterMap fun i=>ps[i]?)) [v] xss)):=
 st.swapE k ho fun φ L ⟨v',a,e⟩=>⟨v',a,by
  rcases e with h|⟨b,c,pre,css,rest,Lr,f,g,j,l,m,o⟩
  ·exact .inl h
  ·exact .inr ⟨b,c,pre,css,rest,Lr,f,g,j,l,m,fun p hp=>by
    obtain ⟨i,_,hi⟩:=List.mem_filterMap.1 hp
    exact o p (List.mem_of_getElem? hi)⟩⟩
theorem S.rdP {E E':El α} {ps:List (Nat×Value)} {v:Value} {xss:List (List α)} (st:S ψ h0 h os) (k:Nat) (ho:os[k]?=some (.it (El.pins E ps) [v] xss)) (hf:Frz E E'):SlC (hcell h) (El.sl E') v xss:=by
 have hlt:k<os.length:=by
  rcases Nat.lt_or_ge k os.length with h'|h'
  ·exact h'
  ·rw [List.getElem?_eq_none h'] at ho;cases ho
 exact (st.unpin k ho).rdL k (by rw [List.getElem?_set_self hlt]) (Ze hf)
theorem Zkh {E:El α} {ps:List (Nat×Value)} {v:Value} {xss:List (List α)} {i:Int} {xs:List α} {p:Addr} (st:S ψ h0 h os) (k:Nat) (ho:os[k]?=some (.it (El.pins E ps) [v] xss)) (hp:AddrOf v i 1 p) (o:gIdx xss i=some xs) {K:Value→Prop}
  (hk:∀ u,S ψ h0 h (os.set k (.it (El.pins E ((i.toNat,u)::ps)) [v] xss))→K u):ldV h p K:=by
 obtain ⟨i0,g⟩:=Zbf o
 obtain ⟨φ,L,s,r⟩:=st
 obtain ⟨L1,Lo,L2,j,t,_,w⟩:=r.at ho
 rcases El.pins_to t with ⟨_,rfl,_⟩|⟨b,c,pre,css,rest,Lr,l,x,y,m,f,f6⟩
 ·simp at g
 obtain ⟨ds,rfl⟩:=f.singles rfl
 have hlen:=f.length
 rw [List.length_map] at hlen
 have li:=ZY g
 obtain ⟨u,hu⟩:=ZcD (xs:=ds) (k:=i.toNat) (by omega)
 obtain ⟨a,n,c',e,rfl⟩:=hp
 rw [l] at e;cases e
 refine ⟨u,?_,hk u ⟨φ,_,by rw [←j];exact s,w φ (.it (El.pins E ((i.toNat,u)::ps)) [v] xss) Lo (CLe.refl _) ⟨v,rfl,.inr ⟨b,c,pre,ds.map fun d=>[d],rest,Lr,l,x,y,m,f,fun p hp=>?_⟩⟩⟩⟩
 ·rw [Zar,Nat.mul_one]
  refine s.rows b (pre++(ds.map fun d=>[d]).flatten++rest) (by rw [j,m];simp) _ _ ?_
  rw [ZdE,List.append_assoc,List.getElem?_append_right (by omega),Nat.add_sub_cancel_left,List.getElem?_append_left (ZY hu)]
  exact hu
 ·rcases List.mem_cons.1 hp with rfl|hp
  ·rw [List.getElem?_map,hu];rfl
  ·exact f6 p hp
theorem ZrD {E:El α} {ps:List (Nat×Value)} {φ:CM} {L:Rws} {v u:Value} {xss:List (List α)} {i:Int} {xs:List α} (hP:PinL φ E ps L v xss) (k:(i.toNat,u)∈ps) (l:gIdx xss i=some xs):
  ∃ (B:Nat×Row) (M1 Mo M2:Rws),L=B::(M1++Mo++M2)∧OwnL φ E Mo u xs∧∀ Mo' xs',OwnL φ E Mo' u xs'→PinL φ E ps (B::(M1++Mo'++M2)) v (xss.set i.toNat xs'):=by
 obtain ⟨s,f⟩:=Zbf l
 rcases hP with ⟨_,rfl,_⟩|⟨b,c,pre,css,rest,Lr,m,o,p,rfl,r,g⟩
 ·simp at f
 have a:=g _ k
 obtain ⟨M1,Mo,M2,rfl,hR,hset⟩:=r.atc (i:=i.toNat) (c:=[u]) a f
 have hcs:css.set i.toNat [u]=css:=by
  apply List.ext_getElem?
  intro j
  rw [List.getElem?_set]
  split
  ·rename_i e;subst e
   rw [if_pos (ZY a),a]
  ·rfl
 refine ⟨_,M1,Mo,M2,rfl,El.ow_to hR,fun Mo' xs' ho=>.inr ⟨b,c,pre,css,rest,M1++Mo'++M2,by simpa using m,by simpa using o,by simpa using p,rfl,?_,g⟩⟩
 have:=hset φ Mo' [u] xs' (CLe.refl _) ⟨u,rfl,ho⟩
 rwa [hcs] at this
theorem S.rowP {E E':El α} {ps:List (Nat×Value)} {v u:Value} {xss:List (List α)} {i:Int} {xs:List α} (st:S ψ h0 h os) (k:Nat) (ho:os[k]?=some (.it (El.pins E ps) [v] xss)) (n:Nat) (a:ps[n]?=some (i.toNat,u)) (b:gIdx xss i=some xs) (hf:Frz E E'):SlC (hcell h) E' u xs:=by
 obtain ⟨φ,L,s,r⟩:=st
 obtain ⟨L1,Lo,L2,c,e,_,_⟩:=r.at ho
 obtain ⟨B,M1,Mo,M2,rfl,hm,_⟩:=ZrD (El.pins_to e) (List.mem_of_getElem? a) b
 refine El.sl_to ((Ze hf).2 (hcell h) Mo [u] xs ((El.ow E).mono s.fle ⟨u,rfl,hm⟩) ?_)
 intro b' row hmem
 exact s.rows b' row (by rw [c];simp [hmem])
theorem Ztb {E:El α} {ps:List (Nat×Value)} {v u c:Value} {xss:List (List α)} {i j:Int} {xs:List α} {g y:α} {q:Addr} {K:Heap→Prop} (st:S ψ h0 h os) (k:Nat) (ho:os[k]?=some (.it (El.pins E ps) [v] xss)) (n:Nat) (l:ps[n]?=some (i.toNat,u)) (m:gIdx xss i=some xs)
  (o:AddrOf u j 1 q) (hj:gIdx xs j=some g) (hz:E.z=1) (hy:∀ φ,E.R φ [] [c] y)
  (hK:∀ h',S ψ h0 h' (os.set k (.it (El.pins E ps) [v] (xss.set i.toNat (xs.set j.toNat y))))→K h'):vStore1 h q c K:=by
 obtain ⟨φ,L,s,r⟩:=st
 obtain ⟨L1,Lo,L2,p,t,_,w⟩:=r.at ho
 obtain ⟨B,M1,Mo,M2,rfl,hm,hback⟩:=ZrD (El.pins_to t) (List.mem_of_getElem? l) m
 have s2:S0 ψ h0 h φ (Mo++(L1++B::M1++(M2++L2))):=s.perm (by
  rw [p]
  have e:(L1++B::M1++Mo).Perm (Mo++(L1++B::M1)):=List.perm_append_comm
  have f:=e.append_right (M2++L2)
  simpa using f)
 refine Zkt (cs:=[c]) s2 hm o hz hj (hy φ) fun a b h' x hown=>hK h' ⟨φ,L1++(B::(M1++(a++[]++b)++M2))++L2,x.perm ?_,w φ _ _ (CLe.refl _) ⟨v,rfl,hback _ _ hown⟩⟩
 have e:((a++b)++(L1++B::M1)).Perm ((L1++B::M1)++(a++b)):=List.perm_append_comm
 have f:=e.append_right (M2++L2)
 simpa using f
end
end Go.Vc
