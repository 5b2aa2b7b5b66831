import Derived.Test.YtmmbnjijjdakmaaGreatDoorVcMap
namespace Go.Vc
set_option linter.unusedVariables false
set_option linter.unusedSimpArgs false
open Go
section
variable {ψ:CM} {h0 h:Heap} {os:List Ob} {α:Type}
def PinL {α:Type} (φ:CM) (E:El α) (ps:List (Nat×Value)) (L:Rws) (v:Value) (xss:List (List α)):Prop:=
 (v=.slice none 0 0∧xss=[]∧L=[])∨∃ b c pre css rest Lr,v=.slice (some ⟨b,pre.length,none⟩) xss.length c∧xss.length≤c∧(c-xss.length)*1≤rest.length∧L=(b,.cs (pre++css.flatten++rest))::Lr∧AllR φ (El.ow E) Lr css xss∧∀ p∈ps,css[p.1]?=some [p.2]
def El.pins {α:Type} (E:El α) (ps:List (Nat×Value)):El (List (List α)) where
 z:=1
 R:=fun φ L cs xss=>∃ v,cs=[v]∧PinL φ E ps L v xss
 mono:=fun hl ⟨v,h1,h2⟩=>⟨v,h1,by
  rcases h2 with h2|⟨b,c,pre,css,rest,Lr,g1,g2,g3,g4,g5,g6⟩
  ·exact .inl h2
  ·exact .inr ⟨b,c,pre,css,rest,Lr,g1,g2,g3,g4,g5.mono hl,g6⟩⟩
 len:=fun ⟨v,h1,_⟩=>by rw [h1];rfl
 one:=fun ⟨v,h1,h2⟩ u hu=>by
  rw [h1] at hu;simp at hu;rw [hu]
  rcases h2 with ⟨rfl,_⟩|⟨b,c,pre,css,rest,Lr,rfl,_⟩<;>rfl
 zc:=[.slice none 0 0]
 zx:=[]
 hz:=fun _=>⟨_,rfl,.inl ⟨rfl,rfl,rfl⟩⟩
theorem El.pins_to {E:El α} {ps:List (Nat×Value)} {φ:CM} {L:Rws} {v:Value} {xss:List (List α)} (h:(El.pins E ps).R φ L [v] xss):PinL φ E ps L v xss:=by
 obtain ⟨u,h1,h2⟩:=h;simp at h1;subst h1;exact h2
theorem PinL.own {E:El α} {ps:List (Nat×Value)} {φ:CM} {L:Rws} {v:Value} {xss:List (List α)} (h:PinL φ E ps L v xss):OwnL φ (El.ow E) L v xss:=by
 rcases h with h|⟨b,c,pre,css,rest,Lr,g1,g2,g3,g4,g5,_⟩
 ·exact .inl h
 ·exact .inr ⟨b,c,pre,css,rest,Lr,g1,g2,g3,g4,g5⟩
theorem S.swapE {E E':El α} {cs:List Value} {x:α} (st:S ψ h0 h os) (k:Nat) (ho:os[k]?=some (.it E cs x)) (hE:∀ φ L,E.R φ L cs x→E'.R φ L cs x):S ψ h0 h (os.set k (.it E' cs x)):=by
 obtain ⟨φ,L,s,r⟩:=st
 obtain ⟨L1,Lo,L2,e1,e2,_,e4⟩:=r.at ho
 exact ⟨φ,_,by rw [←e1];exact s,e4 φ (.it E' cs x) Lo (CLe.refl _) (hE φ Lo e2)⟩
theorem S.pin0 {E:El α} {v:Value} {xss:List (List α)} (st:S ψ h0 h os) (k:Nat) (ho:os[k]?=some (.it (El.ow (El.ow E)) [v] xss)):S ψ h0 h (os.set k (.it (El.pins E []) [v] xss)):=
 st.swapE k ho fun φ L ⟨v',h1,h2⟩=>⟨v',h1,by
  rcases h2 with h|⟨b,c,pre,css,rest,Lr,g1,g2,g3,g4,g5⟩
  ·exact .inl h
  ·exact .inr ⟨b,c,pre,css,rest,Lr,g1,g2,g3,g4,g5,fun p hp=>by cases hp⟩⟩
theorem S.unpin {E:El α} {ps:List (Nat×Value)} {v:Value} {xss:List (List α)} (st:S ψ h0 h os) (k:Nat) (ho:os[k]?=some (.it (El.pins E ps) [v] xss)):S ψ h0 h (os.set k (.it (El.ow (El.ow E)) [v] xss)):=
 st.swapE k ho fun φ L ⟨v',h1,h2⟩=>⟨v',h1,h2.own⟩
theorem S.keepP {E:El α} {ps:List (Nat×Value)} {v:Value} {xss:List (List α)} (st:S ψ h0 h os) (k:Nat) (ho:os[k]?=some (.it (El.pins E ps) [v] xss)) (is:List Nat):S ψ h0 h (os.set k (.it (El.pins E (is.filterMap fun i=>ps[i]?)) [v] xss)):=
 st.swapE k ho fun φ L ⟨v',h1,h2⟩=>⟨v',h1,by
  rcases h2 with h|⟨b,c,pre,css,rest,Lr,g1,g2,g3,g4,g5,g6⟩
  ·exact .inl h
  ·exact .inr ⟨b,c,pre,css,rest,Lr,g1,g2,g3,g4,g5,fun p hp=>by
    obtain ⟨i,_,hi⟩:=List.mem_filterMap.1 hp
    exact g6 p (List.mem_of_getElem? hi)⟩⟩
theorem S.rdP {E E':El α} {ps:List (Nat×Value)} {v:Value} {xss:List (List α)} (st:S ψ h0 h os) (k:Nat) (ho:os[k]?=some (.it (El.pins E ps) [v] xss)) (hf:Frz E E'):SlC (hcell h) (El.sl E') v xss:=by
 have hlt:k<os.length:=by
  rcases Nat.lt_or_ge k os.length with h'|h'
  ·exact h'
  ·rw [List.getElem?_eq_none h'] at ho;cases ho
 exact (st.unpin k ho).rdL k (by rw [List.getElem?_set_self hlt]) (Ze hf)
theorem ZjT {E:El α} {ps:List (Nat×Value)} {v:Value} {xss:List (List α)} {i:Int} {xs:List α} {p:Addr} (st:S ψ h0 h os) (k:Nat) (ho:os[k]?=some (.it (El.pins E ps) [v] xss)) (hp:AddrOf v i 1 p) (hx:gIdx xss i=some xs) {K:Value→Prop}
  (hk:∀ u,S ψ h0 h (os.set k (.it (El.pins E ((i.toNat,u)::ps)) [v] xss))→K u):ldV h p K:=by
 obtain ⟨i0,i1⟩:=ZaV hx
 obtain ⟨φ,L,s,r⟩:=st
 obtain ⟨L1,Lo,L2,e1,e2,_,e4⟩:=r.at ho
 rcases El.pins_to e2 with ⟨_,rfl,_⟩|⟨b,c,pre,css,rest,Lr,f1,f2,f3,f4,f5,f6⟩
 ·simp at i1
 obtain ⟨ds,rfl⟩:=f5.singles rfl
 have hlen:=f5.length
 rw [List.length_map] at hlen
 have li:=ZR i1
 obtain ⟨u,hu⟩:=Zfq (xs:=ds) (k:=i.toNat) (by omega)
 obtain ⟨a,n,c',e,rfl⟩:=hp
 rw [f1] at e;cases e
 refine ⟨u,?_,hk u ⟨φ,_,by rw [←e1];exact s,e4 φ (.it (El.pins E ((i.toNat,u)::ps)) [v] xss) Lo (CLe.refl _) ⟨v,rfl,.inr ⟨b,c,pre,ds.map fun d=>[d],rest,Lr,f1,f2,f3,f4,f5,fun p hp=>?_⟩⟩⟩⟩
 ·rw [Z7,Nat.mul_one]
  refine s.rows b (pre++(ds.map fun d=>[d]).flatten++rest) (by rw [e1,f4];simp) _ _ ?_
  rw [Zdy,List.append_assoc,List.getElem?_append_right (by omega),Nat.add_sub_cancel_left,List.getElem?_append_left (ZR hu)]
  exact hu
 ·rcases List.mem_cons.1 hp with rfl|hp
  ·rw [List.getElem?_map,hu];rfl
  ·exact f6 p hp
theorem Zpa {E:El α} {ps:List (Nat×Value)} {φ:CM} {L:Rws} {v u:Value} {xss:List (List α)} {i:Int} {xs:List α} (hP:PinL φ E ps L v xss) (hn:(i.toNat,u)∈ps) (hx:gIdx xss i=some xs):
  ∃ (B:Nat×Row) (M1 Mo M2:Rws),L=B::(M1++Mo++M2)∧OwnL φ E Mo u xs∧∀ Mo' xs',OwnL φ E Mo' u xs'→PinL φ E ps (B::(M1++Mo'++M2)) v (xss.set i.toNat xs'):=by
 obtain ⟨i0,i1⟩:=ZaV hx
 rcases hP with ⟨_,rfl,_⟩|⟨b,c,pre,css,rest,Lr,f1,f2,f3,rfl,f5,f6⟩
 ·simp at i1
 have hc:=f6 _ hn
 obtain ⟨M1,Mo,M2,rfl,hR,hset⟩:=f5.atc (i:=i.toNat) (c:=[u]) hc i1
 have hcs:css.set i.toNat [u]=css:=by
  apply List.ext_getElem?
  intro j
  rw [List.getElem?_set]
  split
  ·rename_i e;subst e
   rw [if_pos (ZR hc),hc]
  ·rfl
 refine ⟨_,M1,Mo,M2,rfl,El.ow_to hR,fun Mo' xs' ho=>.inr ⟨b,c,pre,css,rest,M1++Mo'++M2,by simpa using f1,by simpa using f2,by simpa using f3,rfl,?_,f6⟩⟩
 have:=hset φ Mo' [u] xs' (CLe.refl _) ⟨u,rfl,ho⟩
 rwa [hcs] at this
theorem S.rowP {E E':El α} {ps:List (Nat×Value)} {v u:Value} {xss:List (List α)} {i:Int} {xs:List α} (st:S ψ h0 h os) (k:Nat) (ho:os[k]?=some (.it (El.pins E ps) [v] xss)) (n:Nat) (hn:ps[n]?=some (i.toNat,u)) (hx:gIdx xss i=some xs) (hf:Frz E E'):SlC (hcell h) E' u xs:=by
 obtain ⟨φ,L,s,r⟩:=st
 obtain ⟨L1,Lo,L2,e1,e2,_,_⟩:=r.at ho
 obtain ⟨B,M1,Mo,M2,rfl,hm,_⟩:=Zpa (El.pins_to e2) (List.mem_of_getElem? hn) hx
 refine El.sl_to ((Ze hf).2 (hcell h) Mo [u] xs ((El.ow E).mono s.fle ⟨u,rfl,hm⟩) ?_)
 intro b' row hmem
 exact s.rows b' row (by rw [e1];simp [hmem])
theorem ZpS {E:El α} {ps:List (Nat×Value)} {v u c0:Value} {xss:List (List α)} {i j:Int} {xs:List α} {x0 y:α} {q:Addr} {K:Heap→Prop} (st:S ψ h0 h os) (k:Nat) (ho:os[k]?=some (.it (El.pins E ps) [v] xss)) (n:Nat) (hn:ps[n]?=some (i.toNat,u)) (hx:gIdx xss i=some xs)
  (ad:AddrOf u j 1 q) (hj:gIdx xs j=some x0) (hz:E.z=1) (hy:∀ φ,E.R φ [] [c0] y)
  (hK:∀ h',S ψ h0 h' (os.set k (.it (El.pins E ps) [v] (xss.set i.toNat (xs.set j.toNat y))))→K h'):vStore1 h q c0 K:=by
 obtain ⟨φ,L,s,r⟩:=st
 obtain ⟨L1,Lo,L2,e1,e2,_,e4⟩:=r.at ho
 obtain ⟨B,M1,Mo,M2,rfl,hm,hback⟩:=Zpa (El.pins_to e2) (List.mem_of_getElem? hn) hx
 have s2:S0 ψ h0 h φ (Mo++(L1++B::M1++(M2++L2))):=s.perm (by
  rw [e1]
  have h1:(L1++B::M1++Mo).Perm (Mo++(L1++B::M1)):=List.perm_append_comm
  have h2:=h1.append_right (M2++L2)
  simpa using h2)
 refine ZkV (cs:=[c0]) s2 hm ad hz hj (hy φ) fun rows1 rows2 h' s3 hown=>hK h' ⟨φ,L1++(B::(M1++(rows1++[]++rows2)++M2))++L2,s3.perm ?_,e4 φ _ _ (CLe.refl _) ⟨v,rfl,hback _ _ hown⟩⟩
 have h1:((rows1++rows2)++(L1++B::M1)).Perm ((L1++B::M1)++(rows1++rows2)):=List.perm_append_comm
 have h2:=h1.append_right (M2++L2)
 simpa using h2
end
end Go.Vc
