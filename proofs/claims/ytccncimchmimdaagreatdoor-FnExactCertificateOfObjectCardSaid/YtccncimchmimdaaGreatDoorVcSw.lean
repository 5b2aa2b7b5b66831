import Derived.Test.YtccncimchmimdaaGreatDoorVcS3
namespace Go.Vc
set_option linter.unusedVariables false
set_option linter.unusedSimpArgs false
open Go
section
variable {ψ:CM} {h0 h:Heap} {os:List Ob} {α:Type}
theorem AllR.ix {u:CM} {E:El α}:∀ {L:Rws} {css:List (List Value)} {xs:List α},AllR u E L css xs ->
  ∃ r:List Rws,L=r.flatten/\r.length=xs.length/\css.length=xs.length/\∀ (n:Nat) l c x,r[n]?=some l->css[n]?=some c->xs[n]?=some x->E.R u l c x
 | _,[],[],h=>⟨[],h,rfl,rfl,fun n l c x h=>by simp at h⟩
 | _,c::cs,x::xs,⟨L1,L2,e,f,g⟩=>by
  obtain ⟨r,i,j,k,o⟩:=AllR.ix g
  refine ⟨L1::r,by rw [e,i];simp,by simp [j],by simp [k],fun n l y w a b d=>?_⟩
  cases n with
  | zero=>simp at a b d;subst a b d;exact f
  | succ n=>exact o n l y w (by simpa using a) (by simpa using b) (by simpa using d)
 | _,[],_::_,h=>h.elim
 | _,_::_,[],h=>h.elim
theorem AllR.of_ix {k:CM} {E:El α}:∀ {j:List Rws} {css:List (List Value)} {xs:List α},j.length=xs.length->css.length=xs.length ->
  (∀ (n:Nat) l c x,j[n]?=some l->css[n]?=some c->xs[n]?=some x->E.R k l c x)->AllR k E j.flatten css xs
 | [],[],[],_,_,_=>rfl
 | l::j,c::css,x::xs,f,g,e=>⟨l,j.flatten,by simp,e 0 l c x rfl rfl rfl,AllR.of_ix (by simpa using f) (by simpa using g) fun n l' r o a b d=>e (n+1) l' r o (by simpa using a) (by simpa using b) (by simpa using d)⟩
 | [],_::_,[],_,h,_=>by simp at h
 | [],_,_::_,h,_,_=>by simp at h
 | _::_,_,[],h,_,_=>by simp at h
 | _::_,[],_::_,_,h,_=>by simp at h
theorem AllR.singles {k:CM} {E:El α} (hz:E.z=1):∀ {L:Rws} {css:List (List Value)} {xs:List α},AllR k E L css xs->∃ g:List Value,css=g.map fun d=>[d]
 | _,[],[],_=>⟨[],rfl⟩
 | _,c::cs,x::xs,⟨L1,L2,e,a,b⟩=>by
  obtain ⟨g,rfl⟩:=AllR.singles hz b
  have j:=E.len a
  rw [hz] at j
  match c,j with
  | [d],_=>exact ⟨d::g,rfl⟩
 | _,[],_::_,h=>h.elim
 | _,_::_,[],h=>h.elim
theorem ZcB:∀ a:List Value,(a.map fun d=>[d]).flatten=a
 | []=>rfl
 | d::a=>by rw [List.map_cons,List.flatten_cons,ZcB a];rfl
theorem Zn2 {g:Type} {l:List g} {i j n:Nat} {a b:g} (hi:l[i]?=some a) (r:l[j]?=some b):
  ((l.set i b).set j a)[n]?=if n=j then some a else if n=i then some b else l[n]?:=by
 have k:=Z1 hi
 have o:=Z1 r
 by_cases c:n=j
 ·subst c;rw [if_pos rfl,List.getElem?_set_self (by rw [List.length_set];exact o)]
 ·rw [if_neg c,List.getElem?_set_ne (Ne.symm c)]
  by_cases e:n=i
  ·subst e;rw [if_pos rfl,List.getElem?_set_self k]
  ·rw [if_neg e,List.getElem?_set_ne (Ne.symm e)]
theorem ZB0 {g:Type} {l:List g} {i j:Nat} {a b:g} (hi:l[i]?=some a) (c:l[j]?=some b):((l.set i b).set j a).Perm l:=by
 have e:=Z1 hi
 have k:=Z1 c
 rw [List.getElem?_eq_getElem e] at hi
 rw [List.getElem?_eq_getElem k] at c
 cases hi;cases c
 exact List.set_set_perm e k
theorem AllR.sw {y:CM} {E:El α} {L:Rws} {css:List (List Value)} {xs:List α} {i j:Nat} {ci cj:List Value} {xi xj:α} (h:AllR y E L css xs) (hi:css[i]?=some ci) (hj:css[j]?=some cj) (r:xs[i]?=some xi) (u:xs[j]?=some xj):
  ∃ L',L'.Perm L/\AllR y E L' ((css.set i cj).set j ci) ((xs.set i xj).set j xi):=by
 obtain ⟨w,rfl,e,o,f⟩:=h.ix
 obtain ⟨li,hli⟩:∃ l,w[i]?=some l:=⟨_,List.getElem?_eq_getElem (by rw [e];exact Z1 r)⟩
 obtain ⟨lj,hlj⟩:∃ l,w[j]?=some l:=⟨_,List.getElem?_eq_getElem (by rw [e];exact Z1 u)⟩
 refine ⟨((w.set i lj).set j li).flatten,(ZB0 hli hlj).flatten,AllR.of_ix (by simp [e]) (by simp [o]) fun n l c x a b d=>?_⟩
 rw [Zn2 hli hlj] at a
 rw [Zn2 hi hj] at b
 rw [Zn2 r u] at d
 by_cases g:n=j
 ·rw [if_pos g] at a b d;cases a;cases b;cases d;exact f i _ _ _ hli hi r
 ·rw [if_neg g] at a b d
  by_cases k:n=i
  ·rw [if_pos k] at a b d;cases a;cases b;cases d;exact f j _ _ _ hlj hj u
  ·rw [if_neg k] at a b d;exact f n _ _ _ a b d
theorem ZmJ {a e c:List Value} {n:Nat} {w:Value} (h:n<e.length):(a++e++c).set (a.length+n) w=a++e.set n w++c:=by
 rw [List.append_assoc,List.set_append,if_neg ω,List.set_append,if_pos ω]
 simp
theorem ZpH {j:CM} {M:Rws} {b n:Nat} {row:List Value} {v:Value} {K:Heap->Prop} (s:S0 ψ h0 h j ((b,Row.cs (row))::M)) (a:n<row.length) (c:v.oneCell'=true)
  (l:∀ g,S0 ψ h0 g j ((b,Row.cs (row.set n v))::M)->K g):vStore1 h ⟨b,n,none⟩ v K:=by
 have e:row=row.take n++[row[n]]++row.drop (n+1):=by simp
 have f:row.set n v=row.take n++[v]++row.drop (n+1):=by
  rw [List.set_eq_take_append_cons_drop,if_pos a];simp
 have o:Sta h0 h ((b,Row.cs (row.take n++[row[n]]++row.drop (n+1)))::M) fun x=>CLe j (hcell x):=by rw [<-e];exact s.sta
 have:=Zhb [v] [row[n]] (row.take n) n 0 h K (by rw [List.length_take];omega) rfl (fun u k=>by simp at k;rw [k];exact c) o fun g t=>l g (by rw [f];exact s.of_sta' t (by rfl))
 exact this
theorem ZFf {E:El α} {v u w:Value} {xs:List α} {i j:Int} {xi xj e:α} {p:Addr} {K:Heap->Prop} (st:S ψ h0 h os) (k:Nat) (ho:os[k]?=some (.it (El.ow E) [v] xs)) (hz:E.z=1) (hi:gIdx xs i=some xi) (hj:gIdx xs j=some xj)
  (ae:Hd h v i u) (ag:Hd h v j w) (hp:AddrOf v i 1 p) (_he:gIdx (xs.set i.toNat xj) j=some e)
  (hK:∀ h',S ψ h0 h' (os.set k (.it (El.ow E) [v] ((xs.set i.toNat xj).set j.toNat xi)))->K h'):vStore1 h p w fun g=>vIdx v j 1 fun q=>vStore1 g q u K:=by
 obtain ⟨i0,l⟩:=ZaP hi
 obtain ⟨x,o⟩:=ZaP hj
 obtain ⟨φ,L,s,r⟩:=st
 obtain ⟨L1,Lo,L2,y,e2,_,e4⟩:=r.at ho
 have f:S0 ψ h0 h φ (Lo++(L1++L2)):=s.perm (by rw [y,<-List.append_assoc];exact List.Perm.append_right _ List.perm_append_comm)
 rcases El.ow_to e2 with ⟨rfl,_⟩|⟨b,c,pre,css,rest,Lr,rfl,hc,hrest,rfl,hall⟩
 ·obtain ⟨a,n,c,e,_⟩:=hp;cases e
 obtain ⟨ds,rfl⟩:=hall.singles hz
 have a7:=hall.length
 rw [List.length_map] at a7
 rw [ZcB] at f
 have li:=Z1 l
 have lj:=Z1 o
 have aa:=f.rows
 have cell:∀ (n:Nat) (hn:n<ds.length),hcell h ⟨b,pre.length+n,none⟩=some ds[n]:=fun n hn=>by
  refine aa b _ (List.mem_cons_self ..) _ _ ?_
  rw [List.getElem?_append_left (by rw [List.length_append];omega),List.getElem?_append_right ω]
  simp
 have hu:u=ds[i.toNat]:=by
  obtain ⟨a,n,c',e,hh⟩:=ae;cases e
  rw [Z7,Nat.mul_one] at hh
  have:=cell i.toNat ω
  rw [hh] at this;exact Option.some.inj this
 have hw:w=ds[j.toNat]:=by
  obtain ⟨a,n,c',e,hh⟩:=ag;cases e
  rw [Z7,Nat.mul_one] at hh
  have:=cell j.toNat ω
  rw [hh] at this;exact Option.some.inj this
 have a6:ds[i.toNat]?=some u:=by rw [hu];exact List.getElem?_eq_getElem ω
 have a5:ds[j.toNat]?=some w:=by rw [hw];exact List.getElem?_eq_getElem ω
 have a1:=hall.one
 rw [ZcB] at a1
 obtain ⟨a,n,c',e,rfl⟩:=hp
 cases e
 rw [Z7,Nat.mul_one]
 refine ZpH f (by simp;omega) (a1 w (List.mem_of_getElem? a5)) fun g s3=>?_
 refine ⟨⟨x,by omega⟩,?_⟩
 rw [Z7,Nat.mul_one]
 refine ZpH s3 (by simp;omega) (a1 u (List.mem_of_getElem? a6)) fun h2 t=>?_
 have ab:((pre++ds++rest).set (pre.length+i.toNat) w).set (pre.length+j.toNat) u=pre++(ds.set i.toNat w).set j.toNat u++rest:=by
  rw [ZmJ ω,ZmJ (by rw [List.length_set];omega)]
 rw [ab] at t
 obtain ⟨L',a3,a4⟩:=hall.sw (i:=i.toNat) (j:=j.toNat) (ci:=[u]) (cj:=[w]) (by rw [List.getElem?_map,a6];rfl) (by rw [List.getElem?_map,a5];rfl) l o
 refine hK h2 ⟨φ,L1++((b,Row.cs (pre++(ds.set i.toNat w).set j.toNat u++rest))::L')++L2,t.perm ?_,e4 φ (.it (El.ow E) _ _) _ (CLe.refl _) ⟨_,rfl,.inr ⟨b,c,pre,((ds.map fun d=>[d]).set i.toNat [w]).set j.toNat [u],rest,L',by simp,by simpa using hc,by simpa using hrest,?_,a4⟩⟩⟩
 ·have p1:((b,Row.cs (pre++(ds.set i.toNat w).set j.toNat u++rest))::Lr).Perm ((b,Row.cs (pre++(ds.set i.toNat w).set j.toNat u++rest))::L'):=a3.symm.cons _
  have p2:=(p1.append_right L1).trans List.perm_append_comm
  have p3:=p2.append_right L2
  simpa using p3
 ·rw [<-List.map_set,<-List.map_set,ZcB]
end
end Go.Vc
