import Derived.Test.YtahnjnfpjcfklaaGreatDoorVcS3
namespace Go.Vc
set_option linter.unusedVariables false
set_option linter.unusedSimpArgs false
open Go
section
variable {ψ:CM} {h0 h:Heap} {os:List Ob} {α:Type}
theorem AllR.ix {φ:CM} {E:El α}:∀ {L:Rws} {css:List (List Value)} {xs:List α},AllR φ E L css xs ->
  ∃ o:List Rws,L=o.flatten/\o.length=xs.length/\css.length=xs.length/\∀ (n:Nat) l c x,o[n]?=some l->css[n]?=some c->xs[n]?=some x->E.R φ l c x
 | _,[],[],h=>⟨[],h,rfl,rfl,fun n l c x h=>by simp at h⟩
 | _,c::cs,x::xs,⟨L1,L2,h1,e,f⟩=>by
  obtain ⟨o,g,i,j,k⟩:=AllR.ix f;refine ⟨L1::o,by rw [h1,g];simp,by simp [i],by simp [j],fun n l u r a b d=>?_⟩;cases n with
  | zero=>simp at a b d;subst a b d;exact e
  | succ n=>exact k n l u r (by simpa using a) (by simpa using b) (by simpa using d)
 | _,[],_::_,h=>h.elim
 | _,_::_,[],h=>h.elim
theorem AllR.of_ix {φ:CM} {E:El α}:∀ {g:List Rws} {css:List (List Value)} {xs:List α},g.length=xs.length->css.length=xs.length ->
  (∀ (n:Nat) l c x,g[n]?=some l->css[n]?=some c->xs[n]?=some x->E.R φ l c x)->AllR φ E g.flatten css xs
 | [],[],[],_,_,_=>rfl
 | l::g,c::css,x::xs,h1,f,e=>⟨l,g.flatten,by simp,e 0 l c x rfl rfl rfl,AllR.of_ix (by simpa using h1) (by simpa using f) fun n l' k j a b d=>e (n+1) l' k j (by simpa using a) (by simpa using b) (by simpa using d)⟩
 | [],_::_,[],_,h,_=>by simp at h
 | [],_,_::_,h,_,_=>by simp at h
 | _::_,_,[],h,_,_=>by simp at h
 | _::_,[],_::_,_,h,_=>by simp at h
theorem AllR.singles {φ:CM} {E:El α} (hz:E.z=1):∀ {L:Rws} {css:List (List Value)} {xs:List α},AllR φ E L css xs->∃ g:List Value,css=g.map fun d=>[d]
 | _,[],[],_=>⟨[],rfl⟩
 | _,c::cs,x::xs,⟨L1,L2,h1,a,e⟩=>by
  obtain ⟨g,rfl⟩:=AllR.singles hz e;have j:=E.len a;rw [hz] at j
  match c,j with
  | [d],_=>exact ⟨d::g,rfl⟩
 | _,[],_::_,h=>h.elim
 | _,_::_,[],h=>h.elim
theorem ZbI:∀ a:List Value,(a.map fun d=>[d]).flatten=a
 | []=>rfl
 | d::a=>by rw [List.map_cons,List.flatten_cons,ZbI a];rfl
theorem ZnJ {g:Type} {l:List g} {i j n:Nat} {a b:g} (hi:l[i]?=some a) (r:l[j]?=some b):
  ((l.set i b).set j a)[n]?=if n=j then some a else if n=i then some b else l[n]?:=by
 have o:=Z0 hi;have k:=Z0 r;by_cases h1:n=j
 ·subst h1;rw [if_pos rfl,List.getElem?_set_self (by rw [List.length_set];exact k)]
 ·rw [if_neg h1,List.getElem?_set_ne (Ne.symm h1)];by_cases e:n=i
  ·subst e;rw [if_pos rfl,List.getElem?_set_self o]
  ·rw [if_neg e,List.getElem?_set_ne (Ne.symm e)]
theorem ZHZ {k:Type} {l:List k} {i j:Nat} {a b:k} (hi:l[i]?=some a) (e:l[j]?=some b):((l.set i b).set j a).Perm l:=by
 have o:=Z0 hi;have g:=Z0 e;rw [List.getElem?_eq_getElem o] at hi;rw [List.getElem?_eq_getElem g] at e;cases hi;cases e;exact List.set_set_perm o g
theorem AllR.sw {φ:CM} {E:El α} {L:Rws} {css:List (List Value)} {xs:List α} {i j:Nat} {ci cj:List Value} {w xj:α} (h:AllR φ E L css xs) (hi:css[i]?=some ci) (hj:css[j]?=some cj) (r:xs[i]?=some w) (o:xs[j]?=some xj):
  ∃ L',L'.Perm L/\AllR φ E L' ((css.set i cj).set j ci) ((xs.set i xj).set j w):=by
 obtain ⟨u,rfl,e,k,f⟩:=h.ix;obtain ⟨li,hli⟩:∃ l,u[i]?=some l:=⟨_,List.getElem?_eq_getElem (by rw [e];exact Z0 r)⟩
 obtain ⟨lj,hlj⟩:∃ l,u[j]?=some l:=⟨_,List.getElem?_eq_getElem (by rw [e];exact Z0 o)⟩
 refine ⟨((u.set i lj).set j li).flatten,(ZHZ hli hlj).flatten,AllR.of_ix (by simp [e]) (by simp [k]) fun n l c x a b d=>?_⟩;rw [ZnJ hli hlj] at a;rw [ZnJ hi hj] at b;rw [ZnJ r o] at d;by_cases h1:n=j
 ·rw [if_pos h1] at a b d;cases a;cases b;cases d;exact f i _ _ _ hli hi r
 ·rw [if_neg h1] at a b d;by_cases g:n=i
  ·rw [if_pos g] at a b d;cases a;cases b;cases d;exact f j _ _ _ hlj hj o
  ·rw [if_neg g] at a b d;exact f n _ _ _ a b d
theorem Zo2 {pre e a:List Value} {n:Nat} {w:Value} (h:n<e.length):(pre++e++a).set (pre.length+n) w=pre++e.set n w++a:=by
 rw [List.append_assoc,List.set_append,if_neg ω,List.set_append,if_pos ω];simp
theorem ZpB {φ:CM} {M:Rws} {b n:Nat} {row:List Value} {v:Value} {K:Heap->Prop} (s:S0 ψ h0 h φ ((b,Row.cs (row))::M)) (a:n<row.length) (h1:v.oneCell'=true)
  (k:∀ g,S0 ψ h0 g φ ((b,Row.cs (row.set n v))::M)->K g):vStore1 h ⟨b,n,none⟩ v K:=by
 have e:row=row.take n++[row[n]]++row.drop (n+1):=by simp
 have f:row.set n v=row.take n++[v]++row.drop (n+1):=by
  rw [List.set_eq_take_append_cons_drop,if_pos a];simp
 have l:Sta h0 h ((b,Row.cs (row.take n++[row[n]]++row.drop (n+1)))::M) fun x=>CLe φ (hcell x):=by rw [<-e];exact s.sta
 have:=ZgS [v] [row[n]] (row.take n) n 0 h K (by rw [List.length_take];omega) rfl (fun u j=>by simp at j;rw [j];exact h1) l fun g t=>k g (by rw [f];exact s.of_sta' t (by rfl));exact this
theorem ZCy {E:El α} {v u w:Value} {xs:List α} {i j:Int} {xi xj e:α} {p:Addr} {K:Heap->Addr->Heap->Prop} (st:S ψ h0 h os) (k:Nat) (ho:os[k]?=some (.it (El.ow E) [v] xs)) (hz:E.z=1) (hi:gIdx xs i=some xi) (hj:gIdx xs j=some xj)
  (ai:Hd h v i u) (ah:Hd h v j w) (hp:AddrOf v i 1 p) (_he:gIdx (xs.set i.toNat xj) j=some e)
  (hK:∀ {h1 q} h',S ψ h0 h' (os.set k (.it (El.ow E) [v] ((xs.set i.toNat xj).set j.toNat xi)))->K h1 q h'):vStore1 h p w fun h1=>vIdx v j 1 fun q=>vStore1 h1 q u (K h1 q):=by
 obtain ⟨i0,g⟩:=ZaK hi;obtain ⟨x,l⟩:=ZaK hj;obtain ⟨φ,L,s,r⟩:=st;obtain ⟨L1,Lo,L2,y,e2,_,e4⟩:=r.at ho;have f:S0 ψ h0 h φ (Lo++(L1++L2)):=s.perm (by rw [y,<-List.append_assoc];exact List.Perm.append_right _ List.perm_append_comm);rcases El.ow_to e2 with ⟨rfl,_⟩|⟨b,c,pre,css,rest,Lr,rfl,hc,hrest,rfl,hall⟩
 ·obtain ⟨a,n,c,e,_⟩:=hp;cases e
 obtain ⟨ds,rfl⟩:=hall.singles hz;have ae:=hall.length;rw [List.length_map] at ae;rw [ZbI] at f;have li:=Z0 g;have lj:=Z0 l;have ab:=f.rows;have cell:∀ (n:Nat) (hn:n<ds.length),hcell h ⟨b,pre.length+n,none⟩=some ds[n]:=fun n hn=>by
  refine ab b _ (List.mem_cons_self ..) _ _ ?_;rw [List.getElem?_append_left (by rw [List.length_append];omega),List.getElem?_append_right ω];simp
 have hu:u=ds[i.toNat]:=by
  obtain ⟨a,n,c',e,hh⟩:=ai;cases e;rw [Z5,Nat.mul_one] at hh;have:=cell i.toNat ω;rw [hh] at this;exact Option.some.inj this
 have hw:w=ds[j.toNat]:=by
  obtain ⟨a,n,c',e,hh⟩:=ah;cases e;rw [Z5,Nat.mul_one] at hh;have:=cell j.toNat ω;rw [hh] at this;exact Option.some.inj this
 have a8:ds[i.toNat]?=some u:=by rw [hu];exact List.getElem?_eq_getElem ω
 have a7:ds[j.toNat]?=some w:=by rw [hw];exact List.getElem?_eq_getElem ω
 have a3:=hall.one;rw [ZbI] at a3;obtain ⟨a,n,c',e,rfl⟩:=hp;cases e;rw [Z5,Nat.mul_one];refine ZpB f (by simp;omega) (a3 w (List.mem_of_getElem? a7)) fun h1 s3=>?_;refine ⟨⟨x,by omega⟩,?_⟩;rw [Z5,Nat.mul_one];refine ZpB s3 (by simp;omega) (a3 u (List.mem_of_getElem? a8)) fun h2 o=>?_;have ad:((pre++ds++rest).set (pre.length+i.toNat) w).set (pre.length+j.toNat) u=pre++(ds.set i.toNat w).set j.toNat u++rest:=by
  rw [Zo2 ω,Zo2 (by rw [List.length_set];omega)]
 rw [ad] at o;obtain ⟨L',a5,a6⟩:=hall.sw (i:=i.toNat) (j:=j.toNat) (ci:=[u]) (cj:=[w]) (by rw [List.getElem?_map,a8];rfl) (by rw [List.getElem?_map,a7];rfl) g l;refine hK h2 ⟨φ,L1++((b,Row.cs (pre++(ds.set i.toNat w).set j.toNat u++rest))::L')++L2,o.perm ?_,e4 φ (.it (El.ow E) _ _) _ (CLe.refl _) ⟨_,rfl,.inr ⟨b,c,pre,((ds.map fun d=>[d]).set i.toNat [w]).set j.toNat [u],rest,L',by simp,by simpa using hc,by simpa using hrest,?_,a6⟩⟩⟩
 ·have p1:((b,Row.cs (pre++(ds.set i.toNat w).set j.toNat u++rest))::Lr).Perm ((b,Row.cs (pre++(ds.set i.toNat w).set j.toNat u++rest))::L'):=a5.symm.cons _;have p2:=(p1.append_right L1).trans List.perm_append_comm;have p3:=p2.append_right L2;simpa using p3
 ·rw [<-List.map_set,<-List.map_set,ZbI]
end
end Go.Vc
