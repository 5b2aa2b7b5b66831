import Derived.Test.YtcneolcmjjlmnaaGreatDoorVcS2
open List renaming flatten_cons->JX,length_append->Jo,append_assoc->Js,perm_append_comm->JE,length_nil->Xn,getElem?_drop->XE,length_take->Jt,getElem?_take->YR,nil_sublist->Wt,take_append_drop->XU,length_drop->JO,map_append->Xd,filterMap_cons->Wu,range'->X8,getElem?_append_right->JR,flatten_append->Yb,length->Jk
open Nat renaming add_mul->JQ,beq->Jv,le_refl->JB,beq_refl->Yr,eq_of_beq_eq_true->JK,mul_one->JS,add_sub_cancel_left->XT
open Option renaming some->Jg,none->Jh
open Go renaming Value->Jl
namespace Go.Vc
set_option linter.unusedVariables false
set_option linter.unusedSimpArgs false
open Go
section
variable {ψ:CM} {h0 h:Heap} {os:List Ob} {α:Type}
theorem AllR.pre_flat {φ:CM} {E:El α} {d:Jc} {g:List Jc}:∀(q:List Jc) (y:List α) (M:Rws),AllR φ E M (q++d::g) y->Jk q.flatten=Jk q*E.z
 | [],_,_,_=>by simp
 | a::q,[],_,h=>h.elim
 | a::q,e::y,M,⟨_,_,_,k2,k3⟩=>by
  rw [JX,Jo,E.len k2,AllR.pre_flat q y _ k3,List.length_cons,JQ];omega
theorem Zn0 {E:El α} {φ:CM} {z:Nat} {rows M Ly:Rws} {v:Jl} {cs:Jc} {xs:List α} {k:Int} {y x0:α} {p:Addr} {K:Heap->Prop}
  (s:S0 ψ h0 h φ (rows++M)) (ho:OwnL φ E rows v xs) (hp:AddrOf v k z p) (hz:E.z=z) (hk:gIdx xs k=Jg x0) (hy:E.R φ Ly cs y)
  (hK:∀f g w,S0 ψ h0 w φ (f++g++M)->OwnL φ E (f++Ly++g) v (xs.set k.toNat y)->K w):vStoreN p cs 0 h K:=by
 subst hz;obtain ⟨l,i⟩:=ZaK hk;obtain ⟨a,n,c,rfl,rfl⟩:=hp;rcases ho with ⟨e,_⟩|⟨b,c,pre,css,rest,Lr,e,j,hrest,rfl,hall⟩
 .cases e
 cases e;obtain ⟨d,M1,Mo,M2,u,po,k1,k2,k3,k4,k5⟩:=hall.at i;have a5:=AllR.pre_flat u xs Lr (by rw [<-k2];exact hall);have o:=E.len k4;have ac:=E.len hy;rw [ZY];have sm:Sta h0 h ((b,.cs ((pre++u.flatten)++d++(po.flatten++rest)))::(Lr++M)) λx=>CLe φ (hcell x):=by
  have:=s.sta;grind
 refine ZiN cs d (pre++u.flatten) _ 0 h _ (by rw [Jo,a5,k3];rfl) Z (E.one hy) sm λw t=>?_;have s2:S0 ψ h0 w φ ((b,.cs ((pre++u.flatten)++cs++(po.flatten++rest)))::(Lr++M)):=s.of_sta' t rfl;refine hK ((b,.cs ((pre++u.flatten)++cs++(po.flatten++rest)))::M1) M2 w (s2.sub ?_) (.inr ⟨b,c,pre,u++cs::po,rest,M1++Ly++M2,?_,?_,?_,?_,k5 cs Ly y hy⟩)
 .rw [k1];simp only [List.cons_append,Js];refine List.Sublist.cons_cons _ (List.Sublist.append (List.Sublist.refl _) (List.sublist_append_of_sublist_right ?_));exact List.Sublist.refl _
 .simp
 .simpa using j
 .simpa using hrest
 .simp
theorem stN_S {E:El α} {z:Nat} {v:Jl} {cs:Jc} {xs:List α} {k:Int} {y x0:α} {p:Addr} {K:Heap->Prop} (st:S ψ h0 h os) (i:Nat) (ho:os[i]?=Jg (.it (El.ow E) [v] xs)) (hp:AddrOf v k z p) (hk:gIdx xs k=Jg x0) (hz:E.z=z) (hy:∀φ,E.R φ [] cs y)
  (hK:∀o,S ψ h0 o (os.set i (.it (El.ow E) [v] (xs.set k.toNat y)))->K o):vStoreN p cs 0 h K:=by
 obtain ⟨φ,L,s,r⟩:=st;obtain ⟨x,Lo,w,f,g,_,j⟩:=r.at ho;have s2:S0 ψ h0 h φ (Lo++(x++w)):=s.perm (by rw [f,<-Js];exact List.Perm.append_right _ JE);refine Zn0 s2 (El.ow_to g) hp hz hk (hy φ) λa e o l u=>hK o ⟨φ,x++(a++e)++w,l.perm ?_,j φ (.it (El.ow E) [v] (xs.set k.toNat y)) _ (CLe.refl _) ⟨v,rfl,by simpa using u⟩⟩;rw [<-Js];exact List.Perm.append_right _ JE
theorem st1_S {E:El α} {v c:Jl} {xs:List α} {k:Int} {y x0:α} {p:Addr} {K:Heap->Prop} (st:S ψ h0 h os) (i:Nat) (l:os[i]?=Jg (.it (El.ow E) [v] xs)) (hp:AddrOf v k 1 p) (g:gIdx xs k=Jg x0) (hz:E.z=1) (o:∀φ,E.R φ [] [c] y)
  (j:∀e,S ψ h0 e (os.set i (.it (El.ow E) [v] (xs.set k.toNat y)))->K e):vStore1 h p c K:=stN_S (cs:=[c]) st i l hp g hz o j
theorem ZLT {E:El α} {z:Nat} {v:Jl} {cs:Jc} {xs:List α} {k:Int} {y x0:α} {p:Addr} {K:Heap->Prop} (st:S ψ h0 h (.it E cs y::os)) (i:Nat) (ho:os[i]?=Jg (.it (El.ow E) [v] xs)) (hp:AddrOf v k z p) (hk:gIdx xs k=Jg x0) (hz:E.z=z)
  (hK:∀h',S ψ h0 h' (os.set i (.it (El.ow E) [v] (xs.set k.toNat y)))->K h'):vStoreN p cs 0 h K:=by
 obtain ⟨φ,L,s,u,L',rfl,hy,r⟩:=st;obtain ⟨w,Lo,x,rfl,j,_,l⟩:=r.at ho;have s2:S0 ψ h0 h φ (Lo++(u++(w++x))):=s.perm (by
  have f:(u++w++Lo).Perm (Lo++(u++w)):=JE;have g:=f.append_right x;grind)
 refine Zn0 s2 (El.ow_to j) hp hz hk hy λa e h' o a3=>hK h' ⟨φ,w++(a++u++e)++x,o.perm ?_,l φ (.it (El.ow E) [v] (xs.set k.toNat y)) _ (CLe.refl _) ⟨v,rfl,a3⟩⟩;have h1:(a++e++u).Perm (a++u++e):=by
  simp only [Js];exact List.perm_append_comm.append_left _
 have f:(a++e++u++w).Perm (w++(a++u++e)):=(h1.append_right w).trans JE;have g:=f.append_right x;simpa using g
theorem ZiG {E:El α} {v c:Jl} {xs:List α} {k:Int} {y x0:α} {p:Addr} {K:Heap->Prop} (st:S ψ h0 h (.it E [c] y::os)) (i:Nat) (j:os[i]?=Jg (.it (El.ow E) [v] xs)) (hp:AddrOf v k 1 p) (g:gIdx xs k=Jg x0) (hz:E.z=1)
  (l:∀e,S ψ h0 e (os.set i (.it (El.ow E) [v] (xs.set k.toNat y)))->K e):vStore1 h p c K:=ZLT (cs:=[c]) st i j hp g hz l
def loV (lo:Jm Int):Jm Value:=lo.map (Value.int .i64)
theorem Zfu {a:Jm Addr} {n c z:Nat} {lo hi:Jm Int} {K:Jl->Prop} (j:n<=c) (h1:0<=lo.getD 0) (e:lo.getD 0<=hi.getD n) (f:hi.getD n<=n)
  (g:K (.slice (bif Jv c (lo.getD 0).toNat then a else a.map (·.add ((lo.getD 0).toNat*z))) ((hi.getD n).toNat-(lo.getD 0).toNat) (c-(lo.getD 0).toNat))):vSliceS (.slice a n c) z (loV lo) (loV hi) Jh K:=by
 unfold vSliceS vBound loV;cases hi with
 | none=>
  cases lo with
  | none=>simpa using g
  | some l=>
   grind
 | some x=>
  cases lo with
  | none=>
   grind
  | some l=>
   grind
theorem Zey {φ:CM} {E:El α} {v:Jl} {xs ys:List α} {z:Nat} (lo hi:Jm Int) (ha:SlC φ E v xs) (hs:gSl xs (lo.getD 0) (hi.getD (Jk xs))=Jg ys) (hz:E.z=z) {K:Jl->Prop} (u:∀w,SlC φ E w ys->K w):vSliceS v z (loV lo) (loV hi) Jh K:=by
 obtain ⟨⟨h1,f,g⟩,rfl⟩:=Zi2 hs;subst hz;rcases ha with ⟨rfl,rfl⟩|⟨a,c,rfl,k,hel⟩
 .refine Zfu (JB _) h1 f g (u _ ?_);simp only [Xn] at g f;have l:(lo.getD 0).toNat=0:=Z;have o:(hi.getD ((0:Nat):Int)).toNat=0:=Z;rw [l,o];exact .inl ⟨by simp,by simp⟩
 .refine Zfu k h1 f g (u _ ?_);by_cases hm:c=(lo.getD 0).toNat
  .have j:Jv c (lo.getD 0).toNat=true:=by rw [<-hm];exact Yr c
   rw [j];have hl:((xs.take (hi.getD ↑xs.length).toNat).drop (lo.getD 0).toNat)=[]:=by
    grind
   rw [hl];exact .inr ⟨a,c-(lo.getD 0).toNat,by simp;omega,by simp,λi x e=>by simp at e⟩
  .have j:Jv c (lo.getD 0).toNat=false:=by
    grind [absurd,JK]
   rw [j];refine .inr ⟨a.add ((lo.getD 0).toNat*E.z),c-(lo.getD 0).toNat,?_,?_,λi x e=>?_⟩
   .grind
   .grind
   .rw [XE] at e;have a2:=Zad e;rw [Jt] at a2;rw [YR,if_pos Z] at e;grind [Zfw,JQ]
theorem ZFt {E:El α} {v:Jl} {xs j:List α} {z:Nat} (lo hi:Jm Int) (st:S ψ h0 h os) (i:Nat) (l:os[i]?=Jg (.it (El.sl E) [v] xs)) (hs:gSl xs (lo.getD 0) (hi.getD (Jk xs))=Jg j) (hz:E.z=z) {K:Jl->Prop}
  (k:∀g,S ψ h0 h (.it (El.sl E) [g] j::os)->K g):vSliceS v z (loV lo) (loV hi) Jh K:=by
 obtain ⟨φ,L,s,r⟩:=st;obtain ⟨u,w,o,f,a,_,_⟩:=r.at l;exact Zey lo hi (El.sl_to a) hs hz λg e=>k g ⟨φ,L,s,[],L,rfl,El.sl_of e,r⟩
theorem AllR.drop {φ:CM} {E:El α}:∀(l:Nat) {L:Rws} {css:List Jc} {xs:List α},AllR φ E L css xs->∃L',L'.Sublist L/\AllR φ E L' (css.drop l) (xs.drop l)
 | 0,L,_,_,h=>⟨L,List.Sublist.refl _,h⟩
 | l+1,L,[],[],h=>⟨L,List.Sublist.refl _,h⟩
 | l+1,L,_::_,_::_,⟨L1,L2,h1,_,a⟩=>by
  obtain ⟨L',e,f⟩:=AllR.drop l a;grind
 | _+1,_,[],_::_,h=>h.elim
 | _+1,_,_::_,[],h=>h.elim
theorem AllR.take {φ:CM} {E:El α}:∀(l:Nat) {L:Rws} {css:List Jc} {xs:List α},AllR φ E L css xs->∃L',L'.Sublist L/\AllR φ E L' (css.take l) (xs.take l)
 | 0,L,_,_,_=>⟨[],Wt _,rfl⟩
 | l+1,L,[],[],h=>⟨L,List.Sublist.refl _,h⟩
 | l+1,L,_::_,_::_,⟨L1,L2,h1,a,e⟩=>by
  obtain ⟨L',f,g⟩:=AllR.take l e;exact ⟨L1++L',by rw [h1];exact List.Sublist.append (List.Sublist.refl _) f,L1,L',rfl,a,g⟩
 | _+1,_,[],_::_,h=>h.elim
 | _+1,_,_::_,[],h=>h.elim
theorem ZeR {E:El α} {φ:CM} {L:Rws} {css:List Jc} {xs:List α} (h:AllR φ E L css xs) (l:Nat):(css.take l).flatten.length=(xs.take l).length*E.z:=by
 obtain ⟨L',_,g⟩:=h.take l;exact g.flat
theorem cut_S {E:El α} {v:Jl} {xs ys:List α} {z:Nat} (lo hi:Jm Int) (st:S ψ h0 h os) (i:Nat) (ho:os[i]?=Jg (.it (El.ow E) [v] xs)) (hs:gSl xs (lo.getD 0) (hi.getD (Jk xs))=Jg ys) (hz:E.z=z) {K:Jl->Prop}
  (hk:∀v',S ψ h0 h (os.set i (.it (El.ow E) [v'] ys))->K v'):vSliceS v z (loV lo) (loV hi) Jh K:=by
 obtain ⟨⟨h1,f,j⟩,rfl⟩:=Zi2 hs;subst hz;obtain ⟨φ,L,s,r⟩:=st;obtain ⟨L1,Lo,L2,a,e,_,o⟩:=r.at ho;have a3:∀v' a4,a4.Sublist Lo->OwnL φ E a4 v' ((xs.take (hi.getD ↑xs.length).toNat).drop (lo.getD 0).toNat)->K v':=λv' a4 a8 a6=>
  hk v' ⟨φ,L1++a4++L2,s.sub (by rw [a];exact List.Sublist.append (List.Sublist.append (List.Sublist.refl _) a8) (List.Sublist.refl _)),o φ (.it (El.ow E) [v'] _) a4 (CLe.refl _) ⟨v',rfl,a6⟩⟩
 rcases El.ow_to e with ⟨rfl,rfl,rfl⟩|⟨b,c,pre,css,rest,Lr,rfl,u,hrest,rfl,hall⟩
 .refine Zfu (JB _) h1 f j (a3 _ [] (List.Sublist.refl _) ?_);simp only [Xn] at j f;have a:(lo.getD 0).toNat=0:=Z;have e:(hi.getD ((0:Nat):Int)).toNat=0:=Z;rw [a,e];exact .inl ⟨by simp,by simp,rfl⟩
 .refine Zfu u h1 f j ?_;generalize hL:(lo.getD 0).toNat=l;generalize hH:(hi.getD ↑xs.length).toNat=m;rw [hL,hH] at a3;have am:l<=m:=Z;have ac:m<=Jk xs:=Z;by_cases hm:c=l
  .have k:Jv c l=true:=by rw [hm];exact Yr l
   rw [k];have hl:(xs.take m).drop l=[]:=by
    grind
   rw [hl] at a3;refine a3 _ [(b,Row.cs (pre++css.flatten++rest))] (List.Sublist.cons_cons _ (Wt _)) (.inr ⟨b,c-l,pre,[],css.flatten++rest,[],?_,by simp,?_,by simp,rfl⟩)
   .simp;omega
   .rw [hm];simp
  .have k:Jv c l=false:=by
    grind [absurd,JK]
   rw [k];obtain ⟨La,a1,w⟩:=hall.take m;obtain ⟨Lb,x,y⟩:=w.drop l;have a7:(css.take l).flatten.length=l*E.z:=by rw [ZeR hall l,Jt];congr 1;omega
   have a5:css.flatten=(css.take l).flatten++((css.take m).drop l).flatten++(css.drop m).flatten:=by
    have a:css=css.take m++css.drop m:=(XU m css).symm;have e:css.take m=(css.take m).take l++(css.take m).drop l:=(XU l _).symm;grind
   have a9:(css.drop m).flatten.length=(Jk xs-m)*E.z:=by
    obtain ⟨_,_,g⟩:=hall.drop m;rw [g.flat,JO]
   refine a3 _ ((b,.cs (pre++css.flatten++rest))::Lb) (List.Sublist.cons_cons _ (x.trans a1)) (.inr ⟨b,c-l,pre++(css.take l).flatten,(css.take m).drop l,(css.drop m).flatten++rest,Lb,?_,?_,?_,?_,y⟩)
   .have:(List.drop l (List.take m xs)).length=m-l:=by rw [JO,Jt];omega
    rw [this,Jo,a7];simp [ZY]
   .rw [JO,Jt];omega
   .rw [JO,Jt,Jo,a9,Nat.min_eq_left ac];have:(c-l-(m-l))*E.z=(c-Jk xs)*E.z+(Jk xs-m)*E.z:=by rw [<-JQ];congr 1;omega
    omega
   .rw [a5];simp
theorem joinS {φ:CM} {L:Rws} {k:Heap} {j:List Ob} (s:S0 ψ h0 h φ L) (r:Rel φ os L) (t:S φ h k j):S ψ h0 k (j++os):=by
 obtain ⟨g,M,a,e⟩:=t;exact ⟨g,M++L,s.call a,Rel.app (r.mono a.bas) e⟩
theorem join0 {φ:CM} {L:Rws} {e:Heap} (s:S0 ψ h0 h φ L) (r:Rel φ os L) (t:S φ h e []):S ψ h0 e os:=joinS s r t
theorem join1 {φ:CM} {L:Rws} {e:Heap} {a:Ob} (s:S0 ψ h0 h φ L) (r:Rel φ os L) (t:S φ h e [a]):S ψ h0 e (a::os):=joinS s r t
theorem join2 {φ:CM} {L:Rws} {e:Heap} {a b:Ob} (s:S0 ψ h0 h φ L) (r:Rel φ os L) (t:S φ h e [a,b]):S ψ h0 e (a::b::os):=joinS s r t
theorem join4 {φ:CM} {L:Rws} {g:Heap} {a0 a1 a e:Ob} (s:S0 ψ h0 h φ L) (r:Rel φ os L) (t:S φ h g [a0,a1,a,e]):S ψ h0 g (a0::a1::a::e::os):=joinS s r t
theorem frF {φ:CM} {L:Rws} {E:El α} {v:Jl} {xs:List α} (r:Rel φ os L) (i:Nat) (e:os[i]?=Jg (.it (El.sl E) [v] xs)):SlC φ E v xs:=by
 obtain ⟨_,g,_,_,a,_,_⟩:=r.at e;exact El.sl_to a
theorem S.arg {E:El α} {v:Jl} {xs:List α} (st:S ψ h0 h os) (a:SlC ψ E v xs):S ψ h0 h (.it (El.sl E) [v] xs::os):=by
 obtain ⟨φ,L,s,r⟩:=st;exact ⟨φ,L,s,[],L,rfl,El.sl_of (a.mono s.bas),r⟩
def El.pair {l:Type} (E:El α) (F:El l):El (α×l) where
 z:=E.z+F.z
 R:=λφ L cs x=>∃c1 c2 j k,cs=c1++c2/\L=j++k/\E.R φ j c1 x.1/\F.R φ k c2 x.2
 mono:=λo ⟨c1,c2,j,k,h1,f,a,e⟩=>⟨c1,c2,j,k,h1,f,E.mono o a,F.mono o e⟩
 len:=λ⟨c1,c2,j,k,h1,f,a,e⟩=>by rw [h1,Jo,E.len a,F.len e]
 one:=λ⟨c1,c2,j,k,h1,f,a,e⟩ v g=>by
  rw [h1] at g;rcases List.mem_append.1 g with h|h
  .exact E.one a v h
  .exact F.one e v h
 zc:=E.zc++F.zc
 zx:=(E.zx,F.zx)
 hz:=λφ=>⟨_,_,[],[],rfl,rfl,E.hz φ,F.hz φ⟩
def El.iso {e:Type} (E:El α) (f:e->α) (z:e) (hz:f z=E.zx):El e where
 z:=E.z
 R:=λφ L cs x=>E.R φ L cs (f x)
 mono:=λg h=>E.mono g h
 len:=λh=>E.len h
 one:=λh=>E.one h
 zc:=E.zc
 zx:=z
 hz:=λφ=>by rw [hz];exact E.hz φ
theorem ZB {l:Type} {E E':El α} {F j:El l} (h1:Frz E E') (a:Frz F j):Frz (El.pair E F) (El.pair E' j):=by
 refine ⟨by show E.z+F.z=E'.z+j.z;rw [h1.1,a.1],λφ L cs x ⟨c1,c2,u,o,e,f,g,i⟩ k=>?_⟩;subst f;exact ⟨c1,c2,[],[],e,rfl,h1.2 _ _ _ _ g k.left,a.2 _ _ _ _ i k.right⟩
theorem Zab {e:Type} {E E':El α} {f:e->α} {z:e} {hz:f z=E.zx} {g:f z=E'.zx} (h:Frz E E'):Frz (El.iso E f z hz) (El.iso E' f z g):=⟨h.1,λφ L cs x j k=>h.2 φ L cs (f x) j k⟩
theorem ZO5 {k:Type} {E:El α} {F:El k} (h1:Plain E) (e:Plain F):Plain (El.pair E F):=by
 intro φ ψ L cs x ⟨c1,c2,L1,L2,f,g,i,j⟩;have a:=h1 φ ψ _ _ _ i;have b:=e φ ψ _ _ _ j;exact ⟨by rw [g,a.1,b.1];rfl,c1,c2,[],[],f,rfl,a.2,b.2⟩
theorem ZEu {e:Type} {E:El α} {f:e->α} {z:e} {hz:f z=E.zx} (h:Plain E):Plain (El.iso E f z hz):=λφ ψ L cs x g=>h φ ψ L cs (f x) g
theorem S.weak {e:CM} (t:S e h0 h []) (j:CLe ψ (hcell h0)):S ψ h0 h []:=by
 have a:=t.ext;have st:S ψ h0 h0 []:=S.start j;obtain ⟨φ,L,s,r⟩:=st;exact ⟨φ,L,⟨a,λb c g=>(s.row b c g).ext a,s.low,s.nod,s.fle.trans (CLe.ext a),s.dis,s.bas,s.old⟩,r⟩
theorem bifP {ρ:Type} {c:Bool} {a b:Jm ρ} {r:ρ} {A B:Prop} (hp:(bif c then a else b)=Jg r) (g:c=true->a=Jg r->A) (e:c=false->b=Jg r->B):brn c A B:=by
 grind
theorem Rel.split {φ:CM}:∀{os:List Ob} {L:Rws},Rel φ os L->∃j:List Rws,L=j.flatten/\∀(i:Nat) o,os[i]?=Jg o->∃l,j[i]?=Jg l/\o.ok φ l
 | [],L,h=>⟨[],h,λi o k=>by simp at k⟩
 | o::os,L,⟨L1,L2,h1,f,a⟩=>by
  obtain ⟨j,e,g⟩:=Rel.split a;refine ⟨L1::j,by rw [h1,e];rfl,λi u k=>?_⟩;grind
theorem ZKq {g:List Rws} {i:Nat} {e:Rws} (h:g[i]?=Jg e) {x:Nat×Row} (a:x∈e):x∈g.flatten:=List.mem_flatten.2 ⟨e,List.mem_of_getElem? h,a⟩
theorem Zoo:∀{l:List Rws} {i j:Nat} {u o:Rws},(Rws.bs l.flatten).Nodup->l[i]?=Jg u->l[j]?=Jg o->i≠j->∀b,b∈u.bs->b∈o.bs->False
 | [],i,j,u,o,_,hi,_,_,_,_,_=>by simp at hi
 | L::l,i,j,u,o,a,hi,hj,hij,b,h1,e=>by
  have w:Rws.bs (L::l).flatten=L.bs++Rws.bs l.flatten:=by unfold Rws.bs;rw [JX,Xd]
  rw [w] at a;obtain ⟨n1,n2,f⟩:=List.nodup_append.1 a;have up:∀{k:Nat} {x:Rws},l[k]?=Jg x->b∈x.bs->b∈Rws.bs l.flatten:=λhk g=>by
   grind
  cases i with
  | zero=>
   grind
  | succ i=>
   cases j with
   | zero=>simp at hj;subst hj;exact f _ e _ (up (by simpa using hi) h1) rfl
   | succ j=>exact Zoo n2 (by simpa using hi) (by simpa using hj) Z b h1 e
theorem ZEx:∀{g:List Rws} {i:Nat} {e:Rws},(Rws.bs g.flatten).Nodup->g[i]?=Jg e->e.bs.Nodup
 | [],i,e,_,hi=>by simp at hi
 | L::g,i,e,a,hi=>by
  grind
theorem ZvT {φ:CM} {os:List Ob} {Ls:List Rws} (j:(Rws.bs Ls.flatten).Nodup) (hs:∀(i:Nat) o,os[i]?=Jg o->∃Li,Ls[i]?=Jg Li/\o.ok φ Li):∀(is:List Nat),is.Nodup ->
  ∃M:Rws,Rel φ (is.filterMap λi=>os[i]?) M/\M.bs.Nodup/\(∀x∈M,x∈Ls.flatten)/\∀b∈M.bs,∃i∈is,∃Li,Ls[i]?=Jg Li/\b∈Li.bs
 | [],_=>⟨[],rfl,by simp [Rws.bs],(λx f=>by cases f),λb g=>by simp [Rws.bs] at g⟩
 | i::is,hnd=>by
  obtain ⟨h1,l⟩:=List.nodup_cons.1 hnd;obtain ⟨M,r,s,u,w⟩:=ZvT j hs is l;cases ho:os[i]? with
  | none=>
   grind
  | some o=>
   obtain ⟨Li,k,v⟩:=hs i o ho;rw [Wu,ho];have a4:Rws.bs (Li++M)=Li.bs++M.bs:=by unfold Rws.bs;rw [Xd]
   refine ⟨Li++M,⟨Li,M,rfl,v,r⟩,?_,λx f=>?_,λb g=>?_⟩
   .rw [a4];refine List.nodup_append.2 ⟨ZEx j k,s,λa ha b g e=>?_⟩;grind [Zoo]
   .rcases List.mem_append.1 f with h|h
    .exact ZKq k h
    .exact u x h
   .grind
theorem S.pick (st:S ψ h0 h os) (is:List Nat) (k:is.Nodup):S ψ h0 h (is.filterMap λi=>os[i]?):=by
 obtain ⟨φ,L,s,r⟩:=st;obtain ⟨l,rfl,hs⟩:=r.split;obtain ⟨M,e,f,g,_⟩:=ZvT s.nod hs is k;have a:∀b,b∈M.bs->b∈Rws.bs l.flatten:=λb a=>by
  grind
 exact ⟨φ,M,⟨s.ext,λb cs j=>s.row b cs (g _ j),λb j=>s.low b (a b j),f,s.fle,λp u hp j=>s.dis p u hp (a _ j),s.bas,s.old⟩,e⟩
theorem S.clear (st:S ψ h0 h os):S ψ h0 h []:=st.pick [] (by simp)
theorem ZFL {b:Int} {u:Unit} (h:gNz b=Jg u):b≠0:=by unfold gNz at h;split at h<;>first|assumption|cases h
theorem Zz6 {b:Int} {u:Unit} (h:gNn b=Jg u):0<=b:=by unfold gNn at h;split at h<;>first|assumption|cases h
theorem ZEO {a b:Jd} {u:Unit} (h:gFit a b=Jg u):((a.size+b.size:Nat):Int)<=IntKind.i64.max:=by unfold gFit at h;split at h<;>first|assumption|cases h
theorem ZFh {s:Jd} {i:Int} {c:UInt8} (h:gSt s i=Jg c) {K:UInt8->Prop} (e:K c):vStrIdx s i K:=by
 obtain ⟨h1,a⟩:=ZMX h;exact ⟨c,h1,a,e⟩
theorem ZqT {s t:Jd} (lo hi:Jm Int) (h:gStSl s (lo.getD 0) (hi.getD s.size)=Jg t) {K:Jd->Prop} (g:K t):vSliceStr s (loV lo) (loV hi) K:=by
 obtain ⟨⟨h1,a,e⟩,rfl⟩:=ZGV h;unfold vSliceStr vBound loV;cases hi with
 | none=>
  cases lo with
  | none=>simpa using g
  | some l=>
   grind
 | some x=>
  cases lo with
  | none=>
   grind
  | some l=>
   grind
theorem S.nilO {E:El α} (st:S ψ h0 h os):S ψ h0 h (.it (El.ow E) [.slice Jh 0 0] []::os):=st.nil E
theorem S.copyF {E:El α} {cs:Jc} {x:List α} (st:S ψ h0 h os) (i:Nat) (j:os[i]?=Jg (.it (El.sl E) cs x)):S ψ h0 h (.it (El.sl E) cs x::os):=by
 obtain ⟨φ,L,s,r⟩:=st;obtain ⟨k,g,l,f,a,_,_⟩:=r.at j;have e:g=[]:=a.1;subst e;exact ⟨φ,L,s,[],L,rfl,a,r⟩
theorem CellsC.part {φ:CM} {p:Addr} {cs:Jc} (off n:Nat) (a:CellsC φ p cs):CellsC φ (p.add off) ((cs.drop off).take n):=by
 intro j u e;have g:=Zad e;rw [Jt] at g;rw [YR,if_pos Z,XE] at e;rw [Zfw];exact a _ _ e
theorem S.leF (st:S ψ h0 h os):CLe ψ (hcell h):=by obtain ⟨φ,L,s,_⟩:=st;exact s.bas.trans s.fle
theorem omap {e g:Type} {o:Jm e} {f:e->g} {y:g} (h:o.map f=Jg y):∃x,o=Jg x/\f x=y:=by
 simp_all
theorem ZcV {j:Type} {E:El α} {F:El j} {φ:CM} {e g:Rws} {c1 c2:Jc} {x:α} {y:j} (h1:E.R φ e c1 x) (a:F.R φ g c2 y):(El.pair E F).R φ (e++g) (c1++c2) (x,y):=⟨c1,c2,e,g,rfl,rfl,h1,a⟩
theorem Zko {φ:CM} {k:IntKind} {x:Int}:(El.int k).R φ [] [.int k x] x:=⟨rfl,rfl⟩
theorem Zk2 {φ:CM} {x:Jd}:El.str.R φ [] [.string x] x:=⟨rfl,rfl⟩
theorem ZAY {φ:CM} {E:El α} {v:Jl} {xs:List α} (g:SlC φ E v xs) {K:Bool->Prop} (h1:v=.slice Jh 0 0->xs=[]->K true) (e:K false):vNilS false v K:=by
 rcases g with ⟨rfl,rfl⟩|⟨a,c,rfl,_⟩
 .exact h1 rfl rfl
 .exact e
def UB (ψ:CM) (h0:Heap):CM:=λp=>match ψ p with
 | some u=>Jg u
 | none=>hcell h0 p
theorem ub_le {e:CM} (h1:CLe ψ e) (a:CLe (hcell h0) e):CLe (UB ψ h0) e:=λp u hp=>by
 unfold UB at hp;split at hp
 .rename_i w g;cases hp;exact h1 p _ g
 .exact a p u hp
theorem S.leU (st:S ψ h0 h os):CLe (UB ψ h0) (hcell h):=ub_le st.leF st.le
theorem S0.ubF {φ:CM} {L:Rws} (_s:S0 ψ h0 h φ L):CLe φ (UB φ h0):=λp u hp=>by unfold UB;rw [hp]
theorem S0.ubH {φ:CM} {L:Rws} (s:S0 ψ h0 h φ L):CLe (hcell h0) (UB φ h0):=λp u hp=>by
 unfold UB;cases a:φ p with
 | none=>exact hp
 | some w=>
  have h1:=s.fle p w a;have e:=Zgp s.ext hp;grind
theorem S0.ubU {φ:CM} {L:Rws} (s:S0 ψ h0 h φ L):CLe (UB ψ h0) (UB φ h0):=ub_le (s.bas.trans s.ubF) s.ubH
theorem S0.upS {φ:CM} {L:Rws} (s:S0 ψ h0 h φ L) (r:Rel φ os L):S φ h0 h os:=
 ⟨φ,L,⟨s.ext,s.row,s.low,s.nod,s.fle,s.dis,CLe.refl _,λ_ _ hp _=>hp⟩,r⟩
theorem S0.downS {φ:CM} {L:Rws} {l:Heap} {j:List Ob} (s:S0 ψ h0 h φ L) (t:S φ h0 l j):S ψ h0 l j:=by
 obtain ⟨g,M,a,e⟩:=t;exact ⟨g,M,⟨a.ext,a.row,a.low,a.nod,a.fle,a.dis,s.bas.trans a.bas,λp u hp k=>s.old p u (a.old p u hp k) k⟩,e⟩
theorem ZIl {g:Type 1} (l:List g):∀n,(X8 n (Jk l-n)).filterMap (λi=>l[i]?)=l.drop n:=by
 intro n;induction hk:Jk l-n generalizing n with
 | zero=>rw [List.drop_of_length_le Z];rfl
 | succ k j=>
  have e:n<Jk l:=Z;rw [List.range'_succ,Wu,List.drop_eq_getElem_cons e];grind
theorem S.pickT (st:S ψ h0 h os) (n:Nat) (is:List Nat) (e:is.Nodup) (a:∀i∈is,i<n):S ψ h0 h ((is.filterMap λi=>os[i]?)++os.drop n):=by
 have:=st.pick (is++X8 n (Jk os-n)) (by
  grind)
 grind [ZIl]
def Hd (h:Heap) (v:Jl) (i:Int) (u:Jl):Prop:=∃a n c,v=.slice (Jg a) n c/\hcell h (a.add (i.toNat*1))=Jg u
theorem Zsl {E:El α} {φ:CM} {Lo:Rws} {v:Jl} {k:List (List α)} {i:Int} {xs:List α} (a7:RowsC (hcell h) Lo) (ho:OwnL φ (El.ow E) Lo v k) (f:gIdx k i=Jg xs):
  ∃(b c:Nat) (pre:Jc) (l:List Jc) (u:Jl) (x:List Jc) (j:Jc) (M1 Mo M2:Rws),v=.slice (Jg ⟨b,Jk pre,Jh⟩) (Jk k) c/\(Jk k)<=c/\(c-Jk k)*1<=Jk j/\Lo=(b,.cs ((pre++l.flatten)++u::(x.flatten++j)))::(M1++Mo++M2)/\(Jk l.flatten)=i.toNat/\OwnL φ E Mo u xs/\hcell h ⟨b,Jk pre+i.toNat,Jh⟩=Jg u /\
   ∀o w,OwnL φ E o u w->OwnL φ (El.ow E) ((b,.cs ((pre++l.flatten)++u::(x.flatten++j)))::(M1++o++M2)) v (k.set i.toNat w):=by
 obtain ⟨g,a⟩:=ZaK f;rcases ho with ⟨_,rfl,_⟩|⟨b,c,pre,css,j,Lr,rfl,e,hrest,rfl,hall⟩
 .simp at a
 obtain ⟨d,M1,Mo,M2,l,x,rfl,k2,k3,⟨u,rfl,k4⟩,k5⟩:=hall.at a;have a9:=AllR.pre_flat l k _ (by rw [<-k2];exact hall);have a2:Jk l.flatten=i.toNat:=by rw [a9,k3];exact JS _
 have a6:pre++css.flatten++j=(pre++l.flatten)++u::(x.flatten++j):=by rw [k2];simp
 refine ⟨b,c,pre,l,u,x,j,M1,Mo,M2,rfl,e,hrest,by rw [a6],a2,k4,?_,λo w hm=>.inr ⟨b,c,pre,l++[u]::x,j,M1++o++M2,by simp,by simpa using e,by simpa using hrest,by simp,k5 [u] o w ⟨u,rfl,hm⟩⟩⟩;refine a7 b _ (List.mem_cons_self ..) _ _ ?_;rw [a6,JR (by rw [Jo];omega),Jo,a2];simp
theorem Za9 {E:El α} {v:Jl} {o:List (List α)} {i:Int} {xs:List α} {p:Addr} (st:S ψ h0 h os) (k:Nat) (ho:os[k]?=Jg (.it (El.ow (El.ow E)) [v] o)) (hp:AddrOf v i 1 p) (f:gIdx o i=Jg xs) {K:Jl->Prop} (x:∀u,Hd h v i u->K u):ldV h p K:=by
 obtain ⟨φ,L,s,r⟩:=st;obtain ⟨L1,Lo,L2,g,j,_,_⟩:=r.at ho;have w:=s.rows;rw [g] at w;obtain ⟨b,c,pre,pr,u,po,a2,M1,Mo,M2,rfl,_,_,_,_,_,l,_⟩:=Zsl w.left.right (El.ow_to j) f;obtain ⟨a,n,c',e,rfl⟩:=hp;cases e;refine ⟨u,?_,x u ⟨_,_,_,rfl,?_⟩⟩<;>(rw [ZY,JS];exact l)
theorem Hd.eq {v u k:Jl} {i:Int} {b n c off:Nat} (f:Hd h v i u) (g:v=.slice (Jg ⟨b,off,Jh⟩) n c) (j:hcell h ⟨b,off+i.toNat,Jh⟩=Jg k):u=k:=by
 obtain ⟨a,o,l,e,h1⟩:=f;rw [g] at e;cases e;rw [ZY,JS,j] at h1;grind
theorem S.rowC {E E':El α} {v u:Jl} {w:List (List α)} {i:Int} {xs:List α} (st:S ψ h0 h os) (k:Nat) (ho:os[k]?=Jg (.it (El.ow (El.ow E)) [v] w)) (e:Hd h v i u) (f:gIdx w i=Jg xs) (hf:Frz E E'):SlC (hcell h) E' u xs:=by
 obtain ⟨φ,L,s,r⟩:=st;obtain ⟨L1,Lo,L2,g,j,_,_⟩:=r.at ho;have hr:=s.rows;rw [g] at hr;have a:=hr.left.right;obtain ⟨b,c,pre,pr,u',po,a4,M1,Mo,M2,l,_,_,a3,_,hm,o,_⟩:=Zsl a (El.ow_to j) f;obtain rfl:=e.eq l o;refine El.sl_to ((ZO hf).2 (hcell h) Mo [u] xs ((El.ow E).mono s.fle ⟨u,rfl,hm⟩) ?_);rw [a3] at a;intro b' row x;exact a b' row (by simp [x])
theorem Zk1 {E:El α} {v u f:Jl} {a6:List (List α)} {i j:Int} {xs:List α} {x0 y:α} {q:Addr} {K:Heap->Prop} (st:S ψ h0 h os) (k:Nat) (ho:os[k]?=Jg (.it (El.ow (El.ow E)) [v] a6)) (o:Hd h v i u) (w:gIdx a6 i=Jg xs) (x:AddrOf u j 1 q) (hj:gIdx xs j=Jg x0) (hz:E.z=1) (hy:∀φ,E.R φ [] [f] y)
  (hK:∀h',S ψ h0 h' (os.set k (.it (El.ow (El.ow E)) [v] (a6.set i.toNat (xs.set j.toNat y))))->K h'):vStore1 h q f K:=by
 obtain ⟨φ,L,s,r⟩:=st;obtain ⟨L1,Lo,L2,g,e2,_,e4⟩:=r.at ho;have hr:=s.rows;rw [g] at hr;obtain ⟨b,c,pre,pr,u',po,ac,M1,Mo,M2,hv,_,_,aa,_,hm,hc,a3⟩:=Zsl hr.left.right (El.ow_to e2) w;obtain rfl:=o.eq hv hc;generalize (b,Row.cs ((pre++pr.flatten)++u::(po.flatten++ac)))=a2 at aa a3;have s2:S0 ψ h0 h φ (Mo++(L1++a2::M1++(M2++L2))):=s.perm (by
  rw [g,aa];have h1:(L1++a2::M1++Mo).Perm (Mo++(L1++a2::M1)):=JE;have l:=h1.append_right (M2++L2);grind)
 refine Zn0 (cs:=[f]) s2 hm x hz hj (hy φ) λa e h' s3 ab=>hK h' ⟨φ,L1++(a2::(M1++(a++[]++e)++M2))++L2,s3.perm ?_,e4 φ _ _ (CLe.refl _) ⟨v,rfl,a3 _ _ ab⟩⟩;have h1:((a++e)++(L1++a2::M1)).Perm ((L1++a2::M1)++(a++e)):=JE;have l:=h1.append_right (M2++L2);simpa using l
def IsView (v:Jl) (z l m:Nat) (e:Jl):Prop:=(v=.slice Jh 0 0/\e=.slice Jh 0 0)\/∃a n c,v=.slice (Jg a) n c/\l<=m/\m<=n/\n<=c/\e=.slice (Jg (bif Jv c l then a else a.add (l*z))) (m-l) (c-l)
theorem ZeB {φ:CM} {E:El α} {v:Jl} {xs o:List α} {z:Nat} (lo hi:Jm Int) (l:SlC φ E v xs) (hs:gSl xs (lo.getD 0) (hi.getD (Jk xs))=Jg o) {K:Jl->Prop} (j:∀k,IsView v z (lo.getD 0).toNat (hi.getD (Jk xs)).toNat k->K k):vSliceS v z (loV lo) (loV hi) Jh K:=by
 obtain ⟨⟨h1,e,f⟩,rfl⟩:=Zi2 hs;rcases l with ⟨rfl,rfl⟩|⟨a,c,rfl,g,hel⟩
 .refine Zfu (JB _) h1 e f (j _ (.inl ⟨rfl,?_⟩));grind
 .refine Zfu g h1 e f (j _ (.inr ⟨a,_,c,rfl,by omega,by omega,g,?_⟩));grind
theorem IsView.sl {τ φ:CM} {E:El α} {v u:Jl} {xs:List α} {l m:Nat} (g:IsView v E.z l m u) (hs:(v=.slice Jh 0 0/\xs=[])\/∃a c,v=.slice (Jg a) (Jk xs) c/\(Jk xs)<=c/\∀(i:Nat) x,xs[i]?=Jg x->∃cs,CellsC τ (a.add (i*E.z)) cs/\E.R φ [] cs x):
  (u=.slice Jh 0 0/\(xs.take m).drop l=[])\/∃a c,u=.slice (Jg a) ((xs.take m).drop l).length c/\((xs.take m).drop l).length<=c/\∀(i:Nat) x,((xs.take m).drop l)[i]?=Jg x->∃cs,CellsC τ (a.add (i*E.z)) cs/\E.R φ [] cs x:=by
 rcases hs with ⟨rfl,rfl⟩|⟨a,c,rfl,o,hel⟩
 .rcases g with ⟨_,rfl⟩|⟨a,n,c,e,_⟩
  .exact .inl ⟨rfl,by simp⟩
  .cases e
 .rcases g with ⟨e,_⟩|⟨a',n,c',e,h1,r,s,rfl⟩
  .cases e
  cases e;have w:((xs.take m).drop l).length=m-l:=by rw [JO,Jt];omega
  refine .inr ⟨_,c-l,by rw [w],by rw [w];omega,λi x f=>?_⟩;have a2:=Zad f;rw [w] at a2;have a3:Jv c l=false:=by
   grind [JK]
  rw [a3];rw [XE,YR,if_pos Z] at f;obtain ⟨cs,j,k⟩:=hel _ x f;refine ⟨cs,?_,k⟩;show CellsC τ ((a.add (l*E.z)).add (i*E.z)) cs;rw [Zfw,<-JQ];exact j
theorem IsView.C {φ:CM} {E:El α} {v e:Jl} {xs g:List α} {z:Nat} {lo hi:Int} (a:IsView v z lo.toNat hi.toNat e) (j:SlC φ E v xs) (hs:gSl xs lo hi=Jg g) (hz:E.z=z):SlC φ E e g:=by
 obtain ⟨_,rfl⟩:=Zi2 hs;subst hz;exact a.sl j
theorem Zni {E:El α} {v u:Jl} {xs ys:List α} {z:Nat} {lo hi:Int} (i:Nat) (ho:os[i]?=Jg (.it (El.ow E) [v] xs)) (f:IsView v z lo.toNat hi.toNat u) (hs:gSl xs lo hi=Jg ys) (hz:E.z=z) (hp:∀φ L cs x,E.R φ L cs x->L=[]):Src ψ h0 h os E u ys:=by
 obtain ⟨_,rfl⟩:=Zi2 hs;subst hz;intro φ L s r;obtain ⟨L1,Lo,L2,g,k,_,_⟩:=r.at ho
 suffices hs:_ by
  refine Zty ?_;rcases f.sl (τ:=hcell h) (φ:=φ) (xs:=xs) hs with h'|⟨a,c,l,_,o⟩
  .exact .inl h'
  .exact .inr ⟨a,c,l,o⟩
 rcases El.ow_to k with ⟨h1,y,_⟩|⟨b,c,pre,css,rest,Lr,f1,f2,f3,f4,e⟩
 .exact .inl ⟨h1,y⟩
 .refine .inr ⟨_,c,f1,f2,λj x hx=>?_⟩;obtain ⟨d,M1,Mo,M2,pr,po,k1,k2,k3,k4,_⟩:=e.at hx;have a5:=hp _ _ _ _ k4;subst a5;refine ⟨d,λq w hw=>?_,k4⟩;have a2:=AllR.pre_flat pr xs Lr (by rw [<-k2];exact e);rw [ZY,ZY];refine s.rows b (pre++css.flatten++rest) (by rw [g,f4];simp) _ _ ?_;rw [k2,Js,Nat.add_assoc,JR Z,XT,Yb,Js,JR (by rw [a2,k3];omega),a2,k3,XT,JX,Js,List.getElem?_append_left (Zad hw)];exact hw
theorem ZgT {E:El α}:∀(φ:CM) (L:Rws) (cs:Jc) (x:List α),(El.sl E).R φ L cs x->L=[]:=λ_ _ _ _ h=>h.1
theorem ZNN {E:El α} (hp:Plain E):∀(φ:CM) (L:Rws) (cs:Jc) (x:α),E.R φ L cs x->L=[]:=λφ _ _ _ h=>(hp φ φ _ _ _ h).1
theorem ZfW (st:S ψ h0 h os) {cs:Jc} {t:TypeId} {K:Addr->Heap->Prop} (g:∀b e,ExtH h e->S ψ h0 e (.box b cs::os)->K ⟨b,0,Jh⟩ e):vNew h (.cells cs.toArray t) K:=by
 refine vNew.mk ?_;obtain ⟨φ,L,s,r⟩:=st;exact g _ _ (ExtH.push h _) ⟨φ,_,s.new cs t,[(h.size,.cs cs)],L,rfl,rfl,r⟩
theorem Zzi {E:El α} {css:List Jc} {xs:List α} (st:S ψ h0 h os) {cs:Jc} {t:TypeId} {n:Nat} (k:∀φ,AllR φ E [] css xs) (a:css.flatten=cs) (e:Jk xs=n) {K:Jl->Heap->Prop}
  (j:∀v g,ExtH h g->S ψ h0 g (.it (El.ow E) [v] xs::os)->K v g):vNewS h (.cells cs.toArray t) n K:=by
 refine vNewS.mk ?_;subst a;subst e;have:=ZW (E:=E) (K:=λv g=>ExtH h g->K v g) (t:=t) st k rfl rfl λv g s f=>j v g f s;exact this _ _ rfl rfl (ExtH.push h _)
theorem Zpt {E:El α} {bytes:Nat} {zero:Jc} {el:TypeId} {n c:Int} {xs:List α} (st:S ψ h0 h os) (hz:zero=E.zc) (g:gMake bytes E.zx n c=Jg xs) {K:Jl->Heap->Prop}
  (j:∀v e,ExtH h e->S ψ h0 e (.it (El.ow E) [v] xs::os)->K v e):vMake bytes zero el n c h K:=by
 have:=Zwz (E:=E) (K:=λv e=>ExtH h e->K v e) (el:=el) st hz g λv e s a=>j v e a s;exact ⟨this.1,this.2 (ExtH.push h _)⟩
theorem AllR.frz {E E':El α} (g:Frz E E') {φ:CM}:∀{L:Rws} {css:List Jc} {xs:List α},AllR φ E L css xs->RowsC φ L->AllR φ E' [] css xs
 | _,[],[],_,_=>rfl
 | _,_::_,_::_,⟨L1,L2,h1,a,e⟩,hr=>by
  subst h1;exact ⟨[],[],rfl,g.2 _ _ _ _ a hr.left,AllR.frz g e hr.right⟩
 | _,[],_::_,h,_=>h.elim
 | _,_::_,[],h,_=>h.elim
theorem S.frzIn {E E':El α} {v:Jl} {xs:List α} (st:S ψ h0 h os) (i:Nat) (ho:os[i]?=Jg (.it (El.ow E) [v] xs)) (hf:Frz E E'):S ψ h0 h (os.set i (.it (El.ow E') [v] xs)):=by
 obtain ⟨φ,L,s,r⟩:=st;obtain ⟨L1,Lo,L2,a,j,_,e⟩:=r.at ho;rcases El.ow_to j with ⟨h1,f,k⟩|⟨b,c,pre,css,rest,Lr,l,o,u,w,x⟩
 .exact ⟨φ,L1++[]++L2,by rw [<-k,<-a];exact s,e φ (.it (El.ow E') [v] xs) [] (CLe.refl _) ⟨v,rfl,.inl ⟨h1,f,rfl⟩⟩⟩
 .have s2:S0 ψ h0 h φ (Lr++(L1++[(b,Row.cs (pre++css.flatten++rest))]++L2)):=s.perm (by
   rw [a,w];have h1:(L1++[(b,Row.cs (pre++css.flatten++rest))]++Lr).Perm (Lr++(L1++[(b,Row.cs (pre++css.flatten++rest))])):=JE;have f:=h1.append_right L2;grind)
  obtain ⟨a4,g,y,g3⟩:=s2.freeze;refine ⟨a4,L1++[(b,Row.cs (pre++css.flatten++rest))]++L2,g3,e a4 (.it (El.ow E') [v] xs) _ g ⟨v,rfl,.inr ⟨b,c,pre,css,rest,[],l,o,by rw [<-hf.1];exact u,rfl,(x.mono g).frz hf y⟩⟩⟩
def HoleL {α:Type} (φ:CM) (E:El α) (i:Nat) (u:Jl) (L:Rws) (v:Jl) (e:List (List α)):Prop:=
 (v=.slice Jh 0 0/\e=[]/\L=[])\/∃b c pre j w g l k,v=.slice (Jg ⟨b,Jk pre,Jh⟩) (Jk e) c/\(Jk e)<=c/\(c-Jk e)*1<=Jk g/\L=(b,.cs (pre++(j++[u]::w).flatten++g))::(l++k)/\(Jk j)=i /\
  ∀ψ o x,CLe φ ψ->OwnL ψ E o u x->AllR ψ (El.ow E) (l++o++k) (j++[u]::w) (e.set i x)
def El.hole {α:Type} (E:El α) (i:Nat) (u:Jl):El (List (List α)) where
 z:=1
 R:=λφ L cs w=>∃v,cs=[v]/\HoleL φ E i u L v w
 mono:=λhl ⟨v,h1,a⟩=>⟨v,h1,by
  rcases a with a|⟨b,c,pre,pr,po,rest,L1,L2,e,f,g,j,k,l⟩
  .exact .inl a
  .exact .inr ⟨b,c,pre,pr,po,rest,L1,L2,e,f,g,j,k,λψ Lo x a2 ho=>l ψ Lo x (hl.trans a2) ho⟩⟩
 len:=λ⟨v,h1,_⟩=>by rw [h1];rfl
 one:=λ⟨v,h1,a⟩ u o=>by
  rw [h1] at o;simp at o;rw [o];rcases a with ⟨rfl,_⟩|⟨b,c,pre,pr,po,rest,L1,L2,rfl,_⟩<;>rfl
 zc:=[.slice Jh 0 0]
 zx:=[]
 hz:=λ_=>⟨_,rfl,.inl ⟨rfl,rfl,rfl⟩⟩
theorem AllR.atU {E:El α} {φ:CM}:∀{L:Rws} {css:List Jc} {a4:List (List α)} {i:Nat} {x:List α},AllR φ (El.ow E) L css a4->a4[i]?=Jg x ->
  ∃u L1 Lo L2 pr po,L=L1++Lo++L2/\css=pr++[u]::po/\(Jk pr)=i/\OwnL φ E Lo u x/\∀ψ w x',CLe φ ψ->OwnL ψ E w u x'->AllR ψ (El.ow E) (L1++w++L2) (pr++[u]::po) (a4.set i x')
 | _,[],[],i,x,_,a=>by simp at a
 | _,c::cs,y::xs,i,x,⟨L1,L2,h1,e,f⟩,a=>by
  cases i with
  | zero=>
   simp at a;subst a;obtain ⟨u,rfl,g⟩:=e;exact ⟨u,[],L1,L2,[],cs,by simpa using h1,rfl,rfl,g,λψ w x' a2 hr=>⟨w,L2,by simp,⟨u,rfl,hr⟩,AllR.mono a2 f⟩⟩
  | succ i=>
   obtain ⟨u,M1,Mo,M2,pre,a9,j,k,l,o,r⟩:=AllR.atU f (by simpa using a);refine ⟨u,L1++M1,Mo,M2,c::pre,a9,by rw [h1,j];simp,by rw [k];rfl,by simp [l],o,λψ w x' a2 hr=>?_⟩;exact ⟨L1,M1++w++M2,by simp,(El.ow E).mono a2 e,r ψ w x' a2 hr⟩
 | _,[],_::_,_,_,h,_=>h.elim
 | _,_::_,[],_,_,h,_=>h.elim
theorem foc_S {E:El α} {v u:Jl} {a2:List (List α)} {i:Int} {xs:List α} (st:S ψ h0 h os) (k:Nat) (ho:os[k]?=Jg (.it (El.ow (El.ow E)) [v] a2)) (l:Hd h v i u) (o:gIdx a2 i=Jg xs):S ψ h0 h (.it (El.ow E) [u] xs::os.set k (.it (El.hole E i.toNat u) [v] a2)):=by
 obtain ⟨g1,a⟩:=ZaK o;obtain ⟨φ,L,s,r⟩:=st;obtain ⟨L1,Lo,L2,e,w,_,x⟩:=r.at ho;rcases El.ow_to w with ⟨_,rfl,_⟩|⟨b,c,pre,css,rest,Lr,f,y,f3,g,j⟩
 .simp at a
 obtain ⟨u',M1,Mo,M2,pr,po,k1,k2,k3,k4,k5⟩:=j.atU a;have ae:=AllR.pre_flat pr a2 Lr (by rw [<-k2];exact j);have hu:u=u':=by
  refine l.eq f ?_;refine s.rows b (pre++css.flatten++rest) (by rw [e,g];simp) _ _ ?_;simp_all [Js,JR,XT,Yb,k3,El.ow]
 subst hu;refine ⟨φ,Mo++(L1++((b,.cs (pre++(pr++[u]::po).flatten++rest))::(M1++M2))++L2),s.perm ?_,Mo,_,rfl,⟨u,rfl,k4⟩,x φ (.it (El.hole E i.toNat u) [v] a2) _ (CLe.refl _) ⟨v,rfl,.inr ⟨b,c,pre,pr,po,rest,M1,M2,f,y,f3,rfl,k3,k5⟩⟩⟩;rw [e,g,k1,<-k2];generalize (b,Row.cs (pre++css.flatten++rest))=a5;have h1:(L1++a5::M1++Mo).Perm (Mo++(L1++a5::M1)):=JE;have h2:=h1.append_right (M2++L2);grind
theorem unf_S {E:El α} {v u:Jl} {a2:List (List α)} {i:Nat} {ys:List α} (st:S ψ h0 h (.it (El.ow E) [u] ys::os)) (k:Nat) (ho:os[k]?=Jg (.it (El.hole E i u) [v] a2)):S ψ h0 h (os.set k (.it (El.ow (El.ow E)) [v] (a2.set i ys))):=by
 obtain ⟨φ,L,s,Ly,L',rfl,hy,r⟩:=st;obtain ⟨L1,Lo,L2,rfl,f,_,a⟩:=r.at ho;obtain ⟨v',h1,e⟩:=f;simp at h1;subst h1;rcases e with ⟨rfl,rfl,rfl⟩|⟨b,c,pre,pr,po,rest,M1,M2,g,j,l,o,x,w⟩
 .refine ⟨φ,L1++[]++L2,s.sub (List.sublist_append_right ..),?_⟩;have:=a φ (.it (El.ow (El.ow E)) [.slice Jh 0 0] []) [] (CLe.refl _) ⟨_,rfl,.inl ⟨rfl,rfl,rfl⟩⟩;grind
 .have a8:=w φ Ly ys (CLe.refl _) (El.ow_to hy);refine ⟨φ,L1++((b,.cs (pre++(pr++[u]::po).flatten++rest))::(M1++Ly++M2))++L2,s.perm ?_,a φ (.it (El.ow (El.ow E)) [v] (a2.set i ys)) _ (CLe.refl _) ⟨v,rfl,.inr ⟨b,c,pre,pr++[u]::po,rest,M1++Ly++M2,by simpa using g,by simpa using j,by rw [List.length_set];exact l,rfl,a8⟩⟩⟩;rw [o];generalize (b,Row.cs (pre++(pr++[u]::po).flatten++rest))=a6;have h1:(Ly++(L1++a6::M1)).Perm ((L1++a6::M1)++Ly):=JE;have e:=h1.append_right (M2++L2);grind
end
end Go.Vc
