import Derived.Test.YtcneolcmjjlmnaaGreatDoorVcS3
open List renaming getElem?_set_self->Xe,getElem?_set_ne->Xo,getElem?_eq_getElem->JF,perm_append_comm->JE,mem_of_getElem?->JH,getElem?_map->JP,map_set->Ya,length->Jk
open Nat renaming mul_one->JS
open Option renaming some->Jg
namespace Go.Vc
set_option linter.unusedVariables false
set_option linter.unusedSimpArgs false
open Go
section
variable {ψ:CM} {h0 h:Heap} {os:List Ob} {α:Type}
theorem AllR.ix {φ:CM} {E:El α}:∀{L:Rws} {css:List Jc} {xs:List α},AllR φ E L css xs ->
  ∃o:List Rws,L=o.flatten/\(Jk o)=Jk xs/\(Jk css)=Jk xs/\∀(n:Nat) l c x,o[n]?=Jg l->css[n]?=Jg c->xs[n]?=Jg x->E.R φ l c x
 | _,[],[],h=>⟨[],h,rfl,rfl,λn l c x h=>by simp at h⟩
 | _,c::cs,x::xs,⟨L1,L2,h1,j,e⟩=>by
  obtain ⟨o,f,g,i,k⟩:=AllR.ix e;refine ⟨L1::o,by rw [h1,f];simp,by simp [g],by simp [i],λn l u w a b d=>?_⟩;grind
 | _,[],_::_,h=>h.elim
 | _,_::_,[],h=>h.elim
theorem AllR.of_ix {φ:CM} {E:El α}:∀{g:List Rws} {css:List Jc} {xs:List α},Jk g=Jk xs->Jk css=Jk xs ->
  (∀(n:Nat) l c x,g[n]?=Jg l->css[n]?=Jg c->xs[n]?=Jg x->E.R φ l c x)->AllR φ E g.flatten css xs
 | [],[],[],_,_,_=>rfl
 | l::g,c::css,x::xs,h1,f,e=>⟨l,g.flatten,by simp,e 0 l c x rfl rfl rfl,AllR.of_ix (by simpa using h1) (by simpa using f) λn l' k j a b d=>e (n+1) l' k j (by simpa using a) (by simpa using b) (by simpa using d)⟩
 | [],_::_,[],_,h,_=>by simp at h
 | [],_,_::_,h,_,_=>by simp at h
 | _::_,_,[],h,_,_=>by simp at h
 | _::_,[],_::_,_,h,_=>by simp at h
theorem AllR.singles {φ:CM} {E:El α} (hz:E.z=1):∀{L:Rws} {css:List Jc} {xs:List α},AllR φ E L css xs->∃g:Jc,css=g.map λd=>[d]
 | _,[],[],_=>⟨[],rfl⟩
 | _,c::cs,x::xs,⟨L1,L2,h1,a,e⟩=>by
  obtain ⟨g,rfl⟩:=AllR.singles hz e;have j:=E.len a;rw [hz] at j
  match c,j with
  | [d],_=>exact ⟨d::g,rfl⟩
 | _,[],_::_,h=>h.elim
 | _,_::_,[],h=>h.elim
theorem ZbS:∀e:Jc,(e.map λd=>[d]).flatten=e
 | []=>rfl
 | d::e=>by rw [List.map_cons,List.flatten_cons,ZbS e];rfl
theorem ZsY {g:Type} {l:List g} {i j n:Nat} {a b:g} (hi:l[i]?=Jg a) (k:l[j]?=Jg b):
  ((l.set i b).set j a)[n]?=if n=j then Jg a else if n=i then Jg b else l[n]?:=by
 have u:=Zad hi;have o:=Zad k;by_cases h1:n=j
 .subst h1;rw [if_pos rfl,Xe (by rw [List.length_set];exact o)]
 .rw [if_neg h1,Xo (Ne.symm h1)];by_cases e:n=i
  .subst e;rw [if_pos rfl,Xe u]
  .rw [if_neg e,Xo (Ne.symm e)]
theorem ZKu {e:Type} {l:List e} {i j:Nat} {a b:e} (hi:l[i]?=Jg a) (g:l[j]?=Jg b):((l.set i b).set j a).Perm l:=by
 grind [Zad,JF,List.set_set_perm]
theorem AllR.sw {φ:CM} {E:El α} {L:Rws} {css:List Jc} {xs:List α} {i j:Nat} {ci cj:Jc} {xi xj:α} (h:AllR φ E L css xs) (hi:css[i]?=Jg ci) (hj:css[j]?=Jg cj) (u:xs[i]?=Jg xi) (o:xs[j]?=Jg xj):
  ∃L',L'.Perm L/\AllR φ E L' ((css.set i cj).set j ci) ((xs.set i xj).set j xi):=by
 obtain ⟨w,rfl,e,k,f⟩:=h.ix;obtain ⟨li,hli⟩:∃l,w[i]?=Jg l:=⟨_,JF (by rw [e];exact Zad u)⟩
 obtain ⟨lj,hlj⟩:∃l,w[j]?=Jg l:=⟨_,JF (by rw [e];exact Zad o)⟩
 refine ⟨((w.set i lj).set j li).flatten,(ZKu hli hlj).flatten,AllR.of_ix (by simp [e]) (by simp [k]) λn l c x a b d=>?_⟩;rw [ZsY hli hlj] at a;rw [ZsY hi hj] at b;rw [ZsY u o] at d;by_cases h1:n=j
 .rw [if_pos h1] at a b d;cases a;cases b;cases d;exact f i _ _ _ hli hi u
 .rw [if_neg h1] at a b d;by_cases g:n=i
  .rw [if_pos g] at a b d;cases a;cases b;cases d;exact f j _ _ _ hlj hj o
  .rw [if_neg g] at a b d;exact f n _ _ _ a b d
theorem ZLu {pre g e:Jc} {n:Nat} {w:Value} (h:n<Jk g):(pre++g++e).set (Jk pre+n) w=pre++g.set n w++e:=by
 grind
theorem ZsV {φ:CM} {M:Rws} {b n:Nat} {row:Jc} {v:Value} {K:Heap->Prop} (s:S0 ψ h0 h φ ((b,Row.cs (row))::M)) (a:n<Jk row) (h1:v.oneCell'=true)
  (k:∀g,S0 ψ h0 g φ ((b,Row.cs (row.set n v))::M)->K g):vStore1 h ⟨b,n,none⟩ v K:=by
 have e:row=row.take n++[row[n]]++row.drop (n+1):=by simp
 have f:row.set n v=row.take n++[v]++row.drop (n+1):=by
  rw [List.set_eq_take_append_cons_drop,if_pos a];simp
 have l:Sta h0 h ((b,Row.cs (row.take n++[row[n]]++row.drop (n+1)))::M) λx=>CLe φ (hcell x):=by rw [<-e];exact s.sta
 have:=ZiN [v] [row[n]] (row.take n) n 0 h K (by rw [List.length_take];omega) rfl (λu j=>by simp at j;rw [j];exact h1) l λg t=>k g (by rw [f];exact s.of_sta' t (by rfl));exact this
theorem ZIa {E:El α} {v u w:Value} {xs:List α} {i j:Int} {xi xj e:α} {p:Addr} {K:Heap->Addr->Heap->Prop} (st:S ψ h0 h os) (k:Nat) (ho:os[k]?=Jg (.it (El.ow E) [v] xs)) (hz:E.z=1) (hi:gIdx xs i=Jg xi) (hj:gIdx xs j=Jg xj)
  (ah:Hd h v i u) (ag:Hd h v j w) (hp:AddrOf v i 1 p) (_he:gIdx (xs.set i.toNat xj) j=Jg e)
  (hK:∀{h1 q} h',S ψ h0 h' (os.set k (.it (El.ow E) [v] ((xs.set i.toNat xj).set j.toNat xi)))->K h1 q h'):vStore1 h p w λh1=>vIdx v j 1 λq=>vStore1 h1 q u (K h1 q):=by
 obtain ⟨i0,f⟩:=ZaK hi;obtain ⟨o,g⟩:=ZaK hj;obtain ⟨φ,L,s,r⟩:=st;obtain ⟨L1,Lo,L2,x,y,_,e4⟩:=r.at ho;have s2:S0 ψ h0 h φ (Lo++(L1++L2)):=s.perm (by rw [x,<-List.append_assoc];exact List.Perm.append_right _ JE);rcases El.ow_to y with ⟨rfl,_⟩|⟨b,c,pre,css,rest,Lr,rfl,hc,hrest,rfl,hall⟩
 .obtain ⟨a,n,c,e,_⟩:=hp;cases e
 obtain ⟨ds,rfl⟩:=hall.singles hz;have ae:=hall.length;rw [List.length_map] at ae;rw [ZbS] at s2;have li:=Zad f;have lj:=Zad g;have ab:=s2.rows;have cell:∀(n:Nat) (hn:n<Jk ds),hcell h ⟨b,Jk pre+n,none⟩=Jg ds[n]:=λn hn=>by
  refine ab b _ (List.mem_cons_self ..) _ _ ?_;grind
 have hu:u=ds[i.toNat]:=by
  obtain ⟨a,n,c',e,hh⟩:=ah;cases e;rw [ZY,JS] at hh;grind
 have hw:w=ds[j.toNat]:=by
  obtain ⟨a,n,c',e,hh⟩:=ag;cases e;rw [ZY,JS] at hh;grind
 have a7:ds[i.toNat]?=Jg u:=by rw [hu];exact JF Z
 have a6:ds[j.toNat]?=Jg w:=by rw [hw];exact JF Z
 have a3:=hall.one;rw [ZbS] at a3;obtain ⟨a,n,c',e,rfl⟩:=hp;cases e;rw [ZY,JS];refine ZsV s2 (by simp;omega) (a3 w (JH a6)) λh1 s3=>?_;refine ⟨⟨o,by omega⟩,?_⟩;rw [ZY,JS];refine ZsV s3 (by simp;omega) (a3 u (JH a7)) λh2 l=>?_;have ad:((pre++ds++rest).set (Jk pre+i.toNat) w).set (Jk pre+j.toNat) u=pre++(ds.set i.toNat w).set j.toNat u++rest:=by
  grind
 rw [ad] at l;obtain ⟨L',a4,a5⟩:=hall.sw (i:=i.toNat) (j:=j.toNat) (ci:=[u]) (cj:=[w]) (by rw [JP,a7];rfl) (by rw [JP,a6];rfl) f g;refine hK h2 ⟨φ,L1++((b,Row.cs (pre++(ds.set i.toNat w).set j.toNat u++rest))::L')++L2,l.perm ?_,e4 φ (.it (El.ow E) _ _) _ (CLe.refl _) ⟨_,rfl,.inr ⟨b,c,pre,((ds.map λd=>[d]).set i.toNat [w]).set j.toNat [u],rest,L',by simp,by simpa using hc,by simpa using hrest,?_,a5⟩⟩⟩
 .have p1:((b,Row.cs (pre++(ds.set i.toNat w).set j.toNat u++rest))::Lr).Perm ((b,Row.cs (pre++(ds.set i.toNat w).set j.toNat u++rest))::L'):=a4.symm.cons _;have p2:=(p1.append_right L1).trans JE;have p3:=p2.append_right L2;simpa using p3
 .rw [<-Ya,<-Ya,ZbS]
end
end Go.Vc
