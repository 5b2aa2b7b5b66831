import Derived.Test.YtghbgeaammnkcaaGreatDoorVcS3
namespace Go.Vc
set_option linter.unusedVariables false
set_option linter.unusedSimpArgs false
open Go
section
variable {ψ:CM} {h0 h:Heap} {os:List Ob} {α:Type}
theorem AllR.ix {φ:CM} {E:El α}:∀ {L:Rws} {css:List (List Value)} {xs:List α},AllR φ E L css xs →
  ∃ Ls:List Rws,L=Ls.flatten∧Ls.length=xs.length∧css.length=xs.length∧∀ (n:Nat) l c x,Ls[n]?=some l→css[n]?=some c→xs[n]?=some x→E.R φ l c x
 | _,[],[],h=>⟨[],h,rfl,rfl,fun n l c x h=>by simp at h⟩
 | _,c::cs,x::xs,⟨L1,L2,e,f,g⟩=>by
  obtain ⟨Ls,i,j,k,m⟩:=AllR.ix g
  refine ⟨L1::Ls,by rw [e,i];simp,by simp [j],by simp [k],fun n l c' x' a b d=>?_⟩
  cases n with
  | zero=>simp at a b d;subst a b d;exact f
  | succ n=>exact m n l c' x' (by simpa using a) (by simpa using b) (by simpa using d)
 | _,[],_::_,h=>h.elim
 | _,_::_,[],h=>h.elim
theorem AllR.of_ix {φ:CM} {E:El α}:∀ {Ls:List Rws} {css:List (List Value)} {xs:List α},Ls.length=xs.length→css.length=xs.length →
  (∀ (n:Nat) l c x,Ls[n]?=some l→css[n]?=some c→xs[n]?=some x→E.R φ l c x)→AllR φ E Ls.flatten css xs
 | [],[],[],_,_,_=>rfl
 | l::Ls,c::css,x::xs,f,g,e=>⟨l,Ls.flatten,by simp,e 0 l c x rfl rfl rfl,AllR.of_ix (by simpa using f) (by simpa using g) fun n l' c' x' a b d=>e (n+1) l' c' x' (by simpa using a) (by simpa using b) (by simpa using d)⟩
 | [],_::_,[],_,h,_=>by simp at h
 | [],_,_::_,h,_,_=>by simp at h
 | _::_,_,[],h,_,_=>by simp at h
 | _::_,[],_::_,_,h,_=>by simp at h
theorem AllR.singles {φ:CM} {E:El α} (hz:E.z=1):∀ {L:Rws} {css:List (List Value)} {xs:List α},AllR φ E L css xs→∃ ds:List Value,css=ds.map fun d=>[d]
 | _,[],[],_=>⟨[],rfl⟩
 | _,c::cs,x::xs,⟨L1,L2,e,a,b⟩=>by
  obtain ⟨ds,rfl⟩:=AllR.singles hz b
  have hl:=E.len a
  rw [hz] at hl
  match c,hl with
  | [d],_=>exact ⟨d::ds,rfl⟩
 | _,[],_::_,h=>h.elim
 | _,_::_,[],h=>h.elim
theorem ZdE:∀ ds:List Value,(ds.map fun d=>[d]).flatten=ds
 | []=>rfl
 | d::ds=>by rw [List.map_cons,List.flatten_cons,ZdE ds];rfl
theorem Zol {β:Type} {l:List β} {i j n:Nat} {a b:β} (hi:l[i]?=some a) (hj:l[j]?=some b):
  ((l.set i b).set j a)[n]?=if n=j then some a else if n=i then some b else l[n]?:=by
 have li:=ZY hi
 have lj:=ZY hj
 by_cases c:n=j
 ·subst c;rw [if_pos rfl,List.getElem?_set_self (by rw [List.length_set];exact lj)]
 ·rw [if_neg c,List.getElem?_set_ne (Ne.symm c)]
  by_cases e:n=i
  ·subst e;rw [if_pos rfl,List.getElem?_set_self li]
  ·rw [if_neg e,List.getElem?_set_ne (Ne.symm e)]
theorem ZAU {β:Type} {l:List β} {i j:Nat} {a b:β} (hi:l[i]?=some a) (hj:l[j]?=some b):((l.set i b).set j a).Perm l:=by
 have li:=ZY hi
 have lj:=ZY hj
 rw [List.getElem?_eq_getElem li] at hi
 rw [List.getElem?_eq_getElem lj] at hj
 cases hi;cases hj
 exact List.set_set_perm li lj
theorem AllR.sw {φ:CM} {E:El α} {L:Rws} {css:List (List Value)} {xs:List α} {i j:Nat} {ci cj:List Value} {xi xj:α} (h:AllR φ E L css xs) (hi:css[i]?=some ci) (hj:css[j]?=some cj) (xhi:xs[i]?=some xi) (xhj:xs[j]?=some xj):
  ∃ L',L'.Perm L∧AllR φ E L' ((css.set i cj).set j ci) ((xs.set i xj).set j xi):=by
 obtain ⟨Ls,rfl,e,m,f⟩:=h.ix
 obtain ⟨li,hli⟩:∃ l,Ls[i]?=some l:=⟨_,List.getElem?_eq_getElem (by rw [e];exact ZY xhi)⟩
 obtain ⟨lj,hlj⟩:∃ l,Ls[j]?=some l:=⟨_,List.getElem?_eq_getElem (by rw [e];exact ZY xhj)⟩
 refine ⟨((Ls.set i lj).set j li).flatten,(ZAU hli hlj).flatten,AllR.of_ix (by simp [e]) (by simp [m]) fun n l c x a b d=>?_⟩
 rw [Zol hli hlj] at a
 rw [Zol hi hj] at b
 rw [Zol xhi xhj] at d
 by_cases g:n=j
 ·rw [if_pos g] at a b d;cases a;cases b;cases d;exact f i _ _ _ hli hi xhi
 ·rw [if_neg g] at a b d
  by_cases k:n=i
  ·rw [if_pos k] at a b d;cases a;cases b;cases d;exact f j _ _ _ hlj hj xhj
  ·rw [if_neg k] at a b d;exact f n _ _ _ a b d
theorem ZuM {pre ds rest:List Value} {n:Nat} {w:Value} (h:n<ds.length):(pre++ds++rest).set (pre.length+n) w=pre++ds.set n w++rest:=by
 rw [List.append_assoc,List.set_append,if_neg (by omega),List.set_append,if_pos (by omega)]
 simp
theorem ZqW {φ:CM} {M:Rws} {b n:Nat} {row:List Value} {v:Value} {K:Heap→Prop} (s:S0 ψ h0 h φ ((b,Row.cs (row))::M)) (a:n<row.length) (c:v.oneCell'=true)
  (hK:∀ h',S0 ψ h0 h' φ ((b,Row.cs (row.set n v))::M)→K h'):vStore1 h ⟨b,n,none⟩ v K:=by
 have e:row=row.take n++[row[n]]++row.drop (n+1):=by simp
 have f:row.set n v=row.take n++[v]++row.drop (n+1):=by
  rw [List.set_eq_take_append_cons_drop,if_pos a];simp
 have sm:Sta h0 h ((b,Row.cs (row.take n++[row[n]]++row.drop (n+1)))::M) fun x=>CLe φ (hcell x):=by rw [←e];exact s.sta
 have:=Zk4 [v] [row[n]] (row.take n) n 0 h K (by rw [List.length_take];omega) rfl (fun u hu=>by simp at hu;rw [hu];exact c) sm fun h' t=>hK h' (by rw [f];exact s.of_sta' t (by rfl))
 exact this
theorem ZFS {E:El α} {v u w:Value} {xs:List α} {i j:Int} {xi xj e:α} {p:Addr} {K:Heap→Prop} (st:S ψ h0 h os) (k:Nat) (ho:os[k]?=some (.it (El.ow E) [v] xs)) (hz:E.z=1) (hi:gIdx xs i=some xi) (hj:gIdx xs j=some xj)
  (hdi:Hd h v i u) (hdj:Hd h v j w) (hp:AddrOf v i 1 p) (_he:gIdx (xs.set i.toNat xj) j=some e)
  (hK:∀ h',S ψ h0 h' (os.set k (.it (El.ow E) [v] ((xs.set i.toNat xj).set j.toNat xi)))→K h'):vStore1 h p w fun f=>vIdx v j 1 fun q=>vStore1 f q u K:=by
 obtain ⟨i0,g⟩:=Zbf hi
 obtain ⟨o,l⟩:=Zbf hj
 obtain ⟨φ,L,s,r⟩:=st
 obtain ⟨L1,Lo,L2,t,x,_,y⟩:=r.at ho
 have s2:S0 ψ h0 h φ (Lo++(L1++L2)):=s.perm (by rw [t,←List.append_assoc];exact List.Perm.append_right _ List.perm_append_comm)
 rcases El.ow_to x with ⟨rfl,_⟩|⟨b,c,pre,css,rest,Lr,rfl,hc,hrest,rfl,hall⟩
 ·obtain ⟨a,n,c,e,_⟩:=hp;cases e
 obtain ⟨ds,rfl⟩:=hall.singles hz
 have hlen:=hall.length
 rw [List.length_map] at hlen
 rw [ZdE] at s2
 have li:=ZY g
 have lj:=ZY l
 have hrow:=s2.rows
 have cell:∀ (n:Nat) (hn:n<ds.length),hcell h ⟨b,pre.length+n,none⟩=some ds[n]:=fun n hn=>by
  refine hrow b _ (List.mem_cons_self ..) _ _ ?_
  rw [List.getElem?_append_left (by rw [List.length_append];omega),List.getElem?_append_right (by omega)]
  simp
 have hu:u=ds[i.toNat]:=by
  obtain ⟨a,n,c',e,hh⟩:=hdi;cases e
  rw [Zar,Nat.mul_one] at hh
  have:=cell i.toNat (by omega)
  rw [hh] at this;exact Option.some.inj this
 have hw:w=ds[j.toNat]:=by
  obtain ⟨a,n,c',e,hh⟩:=hdj;cases e
  rw [Zar,Nat.mul_one] at hh
  have:=cell j.toNat (by omega)
  rw [hh] at this;exact Option.some.inj this
 have diu:ds[i.toNat]?=some u:=by rw [hu];exact List.getElem?_eq_getElem (by omega)
 have djw:ds[j.toNat]?=some w:=by rw [hw];exact List.getElem?_eq_getElem (by omega)
 have hone:=hall.one
 rw [ZdE] at hone
 obtain ⟨a,n,c',e,rfl⟩:=hp
 cases e
 rw [Zar,Nat.mul_one]
 refine ZqW s2 (by simp;omega) (hone w (List.mem_of_getElem? djw)) fun f s3=>?_
 refine ⟨⟨o,by omega⟩,?_⟩
 rw [Zar,Nat.mul_one]
 refine ZqW s3 (by simp;omega) (hone u (List.mem_of_getElem? diu)) fun h2 m=>?_
 have erow:((pre++ds++rest).set (pre.length+i.toNat) w).set (pre.length+j.toNat) u=pre++(ds.set i.toNat w).set j.toNat u++rest:=by
  rw [ZuM (by omega),ZuM (by rw [List.length_set];omega)]
 rw [erow] at m
 obtain ⟨L',hperm,hall'⟩:=hall.sw (i:=i.toNat) (j:=j.toNat) (ci:=[u]) (cj:=[w]) (by rw [List.getElem?_map,diu];rfl) (by rw [List.getElem?_map,djw];rfl) g l
 refine hK h2 ⟨φ,L1++((b,Row.cs (pre++(ds.set i.toNat w).set j.toNat u++rest))::L')++L2,m.perm ?_,y φ (.it (El.ow E) _ _) _ (CLe.refl _) ⟨_,rfl,.inr ⟨b,c,pre,((ds.map fun d=>[d]).set i.toNat [w]).set j.toNat [u],rest,L',by simp,by simpa using hc,by simpa using hrest,?_,hall'⟩⟩⟩
 ·have p1:((b,Row.cs (pre++(ds.set i.toNat w).set j.toNat u++rest))::Lr).Perm ((b,Row.cs (pre++(ds.set i.toNat w).set j.toNat u++rest))::L'):=hperm.symm.cons _
  have p2:=(p1.append_right L1).trans List.perm_append_comm
  have p3:=p2.append_right L2
  simpa using p3
 ·rw [←List.map_set,←List.map_set,ZdE]
end
end Go.Vc
