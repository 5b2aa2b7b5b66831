import Derived.Test.YtahnjnfpjcfklaaGreatDoorVcMap
namespace Go.Vc
set_option linter.unusedVariables false
set_option linter.unusedSimpArgs false
open Go
section
variable {ψ:CM} {h0 h:Heap} {os:List Ob} {α:Type}
def PinL {α:Type} (φ:CM) (E:El α) (j:List (Nat×Value)) (L:Rws) (v:Value) (a:List (List α)):Prop:=
 (v=.slice none 0 0/\a=[]/\L=[])\/∃ b c pre css e g,v=.slice (some ⟨b,pre.length,none⟩) a.length c/\a.length<=c/\(c-a.length)*1<=e.length/\L=(b,.cs (pre++css.flatten++e))::g/\AllR φ (El.ow E) g css a/\∀ p∈j,css[p.1]?=some [p.2]
def El.pins {α:Type} (E:El α) (w:List (Nat×Value)):El (List (List α)) where
 z:=1
 R:=fun φ L cs o=>∃ v,cs=[v]/\PinL φ E w L v o
 mono:=fun r ⟨v,h1,a⟩=>⟨v,h1,by
  rcases a with a|⟨b,c,pre,css,rest,Lr,e,f,g,i,j,k⟩
  ·exact .inl a
  ·exact .inr ⟨b,c,pre,css,rest,Lr,e,f,g,i,j.mono r,k⟩⟩
 len:=fun ⟨v,h1,_⟩=>by rw [h1];rfl
 one:=fun ⟨v,h1,a⟩ u l=>by
  rw [h1] at l;simp at l;rw [l];rcases a with ⟨rfl,_⟩|⟨b,c,pre,css,rest,Lr,rfl,_⟩<;>rfl
 zc:=[.slice none 0 0]
 zx:=[]
 hz:=fun _=>⟨_,rfl,.inl ⟨rfl,rfl,rfl⟩⟩
theorem El.pins_to {E:El α} {g:List (Nat×Value)} {φ:CM} {L:Rws} {v:Value} {e:List (List α)} (h:(El.pins E g).R φ L [v] e):PinL φ E g L v e:=by
 obtain ⟨u,h1,a⟩:=h;simp at h1;subst h1;exact a
theorem PinL.own {E:El α} {k:List (Nat×Value)} {φ:CM} {L:Rws} {v:Value} {j:List (List α)} (h:PinL φ E k L v j):OwnL φ (El.ow E) L v j:=by
 rcases h with h|⟨b,c,pre,css,rest,Lr,a,e,f,g,i,_⟩
 ·exact .inl h
 ·exact .inr ⟨b,c,pre,css,rest,Lr,a,e,f,g,i⟩
theorem S.swapE {E g:El α} {cs:List Value} {x:α} (st:S ψ h0 h os) (k:Nat) (l:os[k]?=some (.it E cs x)) (o:∀ φ L,E.R φ L cs x->g.R φ L cs x):S ψ h0 h (os.set k (.it g cs x)):=by
 obtain ⟨φ,L,s,r⟩:=st;obtain ⟨u,j,w,a,e,_,f⟩:=r.at l;exact ⟨φ,_,by rw [<-a];exact s,f φ (.it g cs x) j (CLe.refl _) (o φ j e)⟩
theorem S.pin0 {E:El α} {v:Value} {l:List (List α)} (st:S ψ h0 h os) (k:Nat) (r:os[k]?=some (.it (El.ow (El.ow E)) [v] l)):S ψ h0 h (os.set k (.it (El.pins E []) [v] l)):=
 st.swapE k r fun φ L ⟨o,h1,a⟩=>⟨o,h1,by
  rcases a with h|⟨b,c,pre,css,rest,Lr,e,f,g,i,j⟩
  ·exact .inl h
  ·exact .inr ⟨b,c,pre,css,rest,Lr,e,f,g,i,j,fun p hp=>by cases hp⟩⟩
theorem S.unpin {E:El α} {j:List (Nat×Value)} {v:Value} {e:List (List α)} (st:S ψ h0 h os) (k:Nat) (l:os[k]?=some (.it (El.pins E j) [v] e)):S ψ h0 h (os.set k (.it (El.ow (El.ow E)) [v] e)):=
 st.swapE k l fun φ L ⟨g,h1,a⟩=>⟨g,h1,a.own⟩
theorem S.keepP {E:El α} {u:List (Nat×Value)} {v:Value} {r:List (List α)} (st:S ψ h0 h os) (k:Nat) (x:os[k]?=some (.it (El.pins E u) [v] r)) (is:List Nat):S ψ h0 h (os.set k (.it (El.pins E (is.filterMap fun i=>u[i]?)) [v] r)):=
 st.swapE k x fun φ L ⟨w,h1,a⟩=>⟨w,h1,by
  rcases a with h|⟨b,c,pre,css,rest,Lr,e,f,g,j,l,o⟩
  ·exact .inl h
  ·exact .inr ⟨b,c,pre,css,rest,Lr,e,f,g,j,l,fun p hp=>by
    obtain ⟨i,_,hi⟩:=List.mem_filterMap.1 hp;exact o p (List.mem_of_getElem? hi)⟩⟩
theorem S.rdP {E j:El α} {l:List (Nat×Value)} {v:Value} {a:List (List α)} (st:S ψ h0 h os) (k:Nat) (e:os[k]?=some (.it (El.pins E l) [v] a)) (o:Frz E j):SlC (hcell h) (El.sl j) v a:=by
 have g:k<os.length:=by
  rcases Nat.lt_or_ge k os.length with h'|h'
  ·exact h'
  ·rw [List.getElem?_eq_none h'] at e;cases e
 exact (st.unpin k e).rdL k (by rw [List.getElem?_set_self g]) (ZR o)
theorem Zbq {E:El α} {ps:List (Nat×Value)} {v:Value} {a2:List (List α)} {i:Int} {xs:List α} {p:Addr} (st:S ψ h0 h os) (k:Nat) (ho:os[k]?=some (.it (El.pins E ps) [v] a2)) (hp:AddrOf v i 1 p) (w:gIdx a2 i=some xs) {K:Value->Prop}
  (hk:∀ u,S ψ h0 h (os.set k (.it (El.pins E ((i.toNat,u)::ps)) [v] a2))->K u):ldV h p K:=by
 obtain ⟨i0,g⟩:=ZaK w;obtain ⟨φ,L,s,r⟩:=st;obtain ⟨L1,Lo,L2,j,x,_,y⟩:=r.at ho;rcases El.pins_to x with ⟨_,rfl,_⟩|⟨b,c,pre,css,rest,Lr,l,f2,f3,o,f,f6⟩
 ·simp at g
 obtain ⟨ds,rfl⟩:=f.singles rfl;have a5:=f.length;rw [List.length_map] at a5;have li:=Z0 g;obtain ⟨u,hu⟩:=Za2 (xs:=ds) (k:=i.toNat) ω;obtain ⟨a,n,c',e,rfl⟩:=hp;rw [l] at e;cases e;refine ⟨u,?_,hk u ⟨φ,_,by rw [<-j];exact s,y φ (.it (El.pins E ((i.toNat,u)::ps)) [v] a2) Lo (CLe.refl _) ⟨v,rfl,.inr ⟨b,c,pre,ds.map fun d=>[d],rest,Lr,l,f2,f3,o,f,fun p hp=>?_⟩⟩⟩⟩
 ·rw [Z5,Nat.mul_one];refine s.rows b (pre++(ds.map fun d=>[d]).flatten++rest) (by rw [j,o];simp) _ _ ?_;rw [ZbI,List.append_assoc,List.getElem?_append_right ω,Nat.add_sub_cancel_left,List.getElem?_append_left (Z0 hu)];exact hu
 ·rcases List.mem_cons.1 hp with rfl|hp
  ·rw [List.getElem?_map,hu];rfl
  ·exact f6 p hp
theorem Ztu {E:El α} {ps:List (Nat×Value)} {φ:CM} {L:Rws} {v u:Value} {a5:List (List α)} {i:Int} {xs:List α} (hP:PinL φ E ps L v a5) (k:(i.toNat,u)∈ps) (l:gIdx a5 i=some xs):
  ∃ (B:Nat×Row) (M1 Mo M2:Rws),L=B::(M1++Mo++M2)/\OwnL φ E Mo u xs/\∀ a2 a3,OwnL φ E a2 u a3->PinL φ E ps (B::(M1++a2++M2)) v (a5.set i.toNat a3):=by
 obtain ⟨x,f⟩:=ZaK l;rcases hP with ⟨_,rfl,_⟩|⟨b,c,pre,css,rest,Lr,o,r,s,rfl,w,g⟩
 ·simp at f
 have a:=g _ k;obtain ⟨M1,Mo,M2,rfl,hR,hset⟩:=w.atc (i:=i.toNat) (c:=[u]) a f;have a9:css.set i.toNat [u]=css:=by
  apply List.ext_getElem?;intro j;rw [List.getElem?_set];split
  ·rename_i e;subst e;rw [if_pos (Z0 a),a]
  ·rfl
 refine ⟨_,M1,Mo,M2,rfl,El.ow_to hR,fun a2 a3 ho=>.inr ⟨b,c,pre,css,rest,M1++a2++M2,by simpa using o,by simpa using r,by simpa using s,rfl,?_,g⟩⟩;have:=hset φ a2 [u] a3 (CLe.refl _) ⟨u,rfl,ho⟩;rwa [a9] at this
theorem S.rowP {E w:El α} {o:List (Nat×Value)} {v u:Value} {j:List (List α)} {i:Int} {xs:List α} (st:S ψ h0 h os) (k:Nat) (ho:os[k]?=some (.it (El.pins E o) [v] j)) (n:Nat) (a:o[n]?=some (i.toNat,u)) (e:gIdx j i=some xs) (hf:Frz E w):SlC (hcell h) w u xs:=by
 obtain ⟨φ,L,s,r⟩:=st;obtain ⟨L1,Lo,L2,f,g,_,_⟩:=r.at ho;obtain ⟨B,M1,x,M2,rfl,hm,_⟩:=Ztu (El.pins_to g) (List.mem_of_getElem? a) e;refine El.sl_to ((ZR hf).2 (hcell h) x [u] xs ((El.ow E).mono s.fle ⟨u,rfl,hm⟩) ?_);intro b' row l;exact s.rows b' row (by rw [f];simp [l])
theorem Zft {E:El α} {ps:List (Nat×Value)} {v u f:Value} {a4:List (List α)} {i j:Int} {xs:List α} {l y:α} {q:Addr} {K:Heap->Prop} (st:S ψ h0 h os) (k:Nat) (ho:os[k]?=some (.it (El.pins E ps) [v] a4)) (n:Nat) (o:ps[n]?=some (i.toNat,u)) (w:gIdx a4 i=some xs)
  (x:AddrOf u j 1 q) (hj:gIdx xs j=some l) (hz:E.z=1) (hy:∀ φ,E.R φ [] [f] y)
  (hK:∀ h',S ψ h0 h' (os.set k (.it (El.pins E ps) [v] (a4.set i.toNat (xs.set j.toNat y))))->K h'):vStore1 h q f K:=by
 obtain ⟨φ,L,s,r⟩:=st;obtain ⟨L1,Lo,L2,e1,e2,_,e4⟩:=r.at ho;obtain ⟨B,M1,Mo,M2,rfl,hm,a8⟩:=Ztu (El.pins_to e2) (List.mem_of_getElem? o) w;have s2:S0 ψ h0 h φ (Mo++(L1++B::M1++(M2++L2))):=s.perm (by
  rw [e1];have h1:(L1++B::M1++Mo).Perm (Mo++(L1++B::M1)):=List.perm_append_comm;have g:=h1.append_right (M2++L2);simpa using g)
 refine Zh1 (cs:=[f]) s2 hm x hz hj (hy φ) fun a e h' s3 aa=>hK h' ⟨φ,L1++(B::(M1++(a++[]++e)++M2))++L2,s3.perm ?_,e4 φ _ _ (CLe.refl _) ⟨v,rfl,a8 _ _ aa⟩⟩;have h1:((a++e)++(L1++B::M1)).Perm ((L1++B::M1)++(a++e)):=List.perm_append_comm;have g:=h1.append_right (M2++L2);simpa using g
end
end Go.Vc
