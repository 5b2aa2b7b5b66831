import Derived.Test.YtccncimchmimdaaGreatDoorVcS2
namespace Go.Vc
set_option linter.unusedVariables false
set_option linter.unusedSimpArgs false
open Go
section
variable {ψ:CM} {h0 h:Heap} {os:List Ob} {α:Type}
theorem AllR.pre_flat {e:CM} {E:El α} {d:List Value} {g:List (List Value)}:∀ (q:List (List Value)) (y:List α) (M:Rws),AllR e E M (q++d::g) y->q.flatten.length=q.length*E.z
 | [],_,_,_=>by simp
 | a::q,[],_,h=>h.elim
 | a::q,c::y,M,⟨_,_,_,b,k3⟩=>by
  rw [List.flatten_cons,List.length_append,E.len b,AllR.pre_flat q y _ k3,List.length_cons,Nat.add_mul];omega
theorem Zl8 {E:El α} {φ:CM} {z:Nat} {rows M Ly:Rws} {v:Value} {cs:List Value} {xs:List α} {k:Int} {y j:α} {p:Addr} {K:Heap->Prop}
  (s:S0 ψ h0 h φ (rows++M)) (ho:OwnL φ E rows v xs) (hp:AddrOf v k z p) (hz:E.z=z) (hk:gIdx xs k=some j) (hy:E.R φ Ly cs y)
  (hK:∀ f g h',S0 ψ h0 h' φ (f++g++M)->OwnL φ E (f++Ly++g) v (xs.set k.toNat y)->K h'):vStoreN p cs 0 h K:=by
 subst hz
 obtain ⟨g1,l⟩:=ZaP hk
 obtain ⟨a,n,c,rfl,rfl⟩:=hp
 rcases ho with ⟨e,_⟩|⟨b,c,pre,css,rest,Lr,e,o,hrest,rfl,hall⟩
 ·cases e
 cases e
 obtain ⟨d,M1,Mo,M2,pr,po,k1,i,k3,r,u⟩:=hall.at l
 have a6:=AllR.pre_flat pr xs Lr (by rw [<-i];exact hall)
 have hd:=E.len r
 have ad:=E.len hy
 rw [Z7]
 have sm:Sta h0 h ((b,.cs ((pre++pr.flatten)++d++(po.flatten++rest)))::(Lr++M)) fun x=>CLe φ (hcell x):=by
  have:=s.sta
  rw [i] at this
  simpa using this
 refine Zhb cs d (pre++pr.flatten) _ 0 h _ (by rw [List.length_append,a6,k3];rfl) ω (E.one hy) sm fun h' t=>?_
 have w:S0 ψ h0 h' φ ((b,.cs ((pre++pr.flatten)++cs++(po.flatten++rest)))::(Lr++M)):=s.of_sta' t rfl
 refine hK ((b,.cs ((pre++pr.flatten)++cs++(po.flatten++rest)))::M1) M2 h' (w.sub ?_) (.inr ⟨b,c,pre,pr++cs::po,rest,M1++Ly++M2,?_,?_,?_,?_,u cs Ly y hy⟩)
 ·rw [k1]
  simp only [List.cons_append,List.append_assoc]
  refine List.Sublist.cons_cons _ (List.Sublist.append (List.Sublist.refl _) (List.sublist_append_of_sublist_right ?_))
  exact List.Sublist.refl _
 ·simp
 ·simpa using o
 ·simpa using hrest
 ·simp
theorem stN_S {E:El α} {z:Nat} {v:Value} {cs:List Value} {xs:List α} {k:Int} {y c:α} {p:Addr} {K:Heap->Prop} (st:S ψ h0 h os) (i:Nat) (ho:os[i]?=some (.it (El.ow E) [v] xs)) (hp:AddrOf v k z p) (hk:gIdx xs k=some c) (hz:E.z=z) (hy:∀ o,E.R o [] cs y)
  (hK:∀ u,S ψ h0 u (os.set i (.it (El.ow E) [v] (xs.set k.toNat y)))->K u):vStoreN p cs 0 h K:=by
 obtain ⟨o,L,s,r⟩:=st
 obtain ⟨x,Lo,L2,e,f,_,g⟩:=r.at ho
 have j:S0 ψ h0 h o (Lo++(x++L2)):=s.perm (by rw [e,<-List.append_assoc];exact List.Perm.append_right _ List.perm_append_comm)
 refine Zl8 j (El.ow_to f) hp hz hk (hy o) fun a b u l w=>hK u ⟨o,x++(a++b)++L2,l.perm ?_,g o (.it (El.ow E) [v] (xs.set k.toNat y)) _ (CLe.refl _) ⟨v,rfl,by simpa using w⟩⟩
 rw [<-List.append_assoc];exact List.Perm.append_right _ List.perm_append_comm
theorem st1_S {E:El α} {v c:Value} {xs:List α} {k:Int} {y a:α} {p:Addr} {K:Heap->Prop} (st:S ψ h0 h os) (i:Nat) (o:os[i]?=some (.it (El.ow E) [v] xs)) (hp:AddrOf v k 1 p) (r:gIdx xs k=some a) (hz:E.z=1) (l:∀ g,E.R g [] [c] y)
  (j:∀ e,S ψ h0 e (os.set i (.it (El.ow E) [v] (xs.set k.toNat y)))->K e):vStore1 h p c K:=stN_S (cs:=[c]) st i o hp r hz l j
theorem ZCQ {E:El α} {z:Nat} {v:Value} {cs:List Value} {xs:List α} {k:Int} {y f:α} {p:Addr} {K:Heap->Prop} (st:S ψ h0 h (.it E cs y::os)) (i:Nat) (ho:os[i]?=some (.it (El.ow E) [v] xs)) (hp:AddrOf v k z p) (hk:gIdx xs k=some f) (hz:E.z=z)
  (hK:∀ h',S ψ h0 h' (os.set i (.it (El.ow E) [v] (xs.set k.toNat y)))->K h'):vStoreN p cs 0 h K:=by
 obtain ⟨φ,L,s,u,L',rfl,hy,r⟩:=st
 obtain ⟨w,Lo,x,rfl,g,_,j⟩:=r.at ho
 have l:S0 ψ h0 h φ (Lo++(u++(w++x))):=s.perm (by
  have c:(u++w++Lo).Perm (Lo++(u++w)):=List.perm_append_comm
  have e:=c.append_right x
  simpa using e)
 refine Zl8 l (El.ow_to g) hp hz hk hy fun a b h' o a3=>hK h' ⟨φ,w++(a++u++b)++x,o.perm ?_,j φ (.it (El.ow E) [v] (xs.set k.toNat y)) _ (CLe.refl _) ⟨v,rfl,a3⟩⟩
 have t:(a++b++u).Perm (a++u++b):=by
  simp only [List.append_assoc];exact List.perm_append_comm.append_left _
 have c:(a++b++u++w).Perm (w++(a++u++b)):=(t.append_right w).trans List.perm_append_comm
 have e:=c.append_right x
 simpa using e
theorem Zf9 {E:El α} {v c:Value} {xs:List α} {k:Int} {y a:α} {p:Addr} {K:Heap->Prop} (st:S ψ h0 h (.it E [c] y::os)) (i:Nat) (j:os[i]?=some (.it (El.ow E) [v] xs)) (hp:AddrOf v k 1 p) (g:gIdx xs k=some a) (hz:E.z=1)
  (l:∀ e,S ψ h0 e (os.set i (.it (El.ow E) [v] (xs.set k.toNat y)))->K e):vStore1 h p c K:=ZCQ (cs:=[c]) st i j hp g hz l
def loV (lo:Option Int):Option Value:=lo.map (Value.int .i64)
theorem Zf1 {a:Option Addr} {n c z:Nat} {lo hi:Option Int} {K:Value->Prop} (j:n<=c) (b:0<=lo.getD 0) (e:lo.getD 0<=hi.getD n) (f:hi.getD n<=n)
  (g:K (.slice (bif Nat.beq c (lo.getD 0).toNat then a else a.map (·.add ((lo.getD 0).toNat*z))) ((hi.getD n).toNat-(lo.getD 0).toNat) (c-(lo.getD 0).toNat))):vSliceS (.slice a n c) z (loV lo) (loV hi) none K:=by
 unfold vSliceS vBound loV
 cases hi with
 | none=>
  cases lo with
  | none=>simpa using g
  | some l=>
   simp only [Option.map_none,Option.map_some,Option.getD_none,Option.getD_some] at *
   exact ⟨⟨b,by omega⟩,by simpa using g⟩
 | some x=>
  cases lo with
  | none=>
   simp only [Option.map_none,Option.map_some,Option.getD_none,Option.getD_some] at *
   exact ⟨⟨e,by omega⟩,g⟩
  | some l=>
   simp only [Option.map_some,Option.getD_some] at *
   exact ⟨⟨by omega,by omega⟩,⟨b,by omega⟩,g⟩
theorem Zjs {y:CM} {E:El α} {v:Value} {xs ys:List α} {z:Nat} (lo hi:Option Int) (ha:SlC y E v xs) (hs:gSl xs (lo.getD 0) (hi.getD xs.length)=some ys) (hz:E.z=z) {K:Value->Prop} (hk:∀ w,SlC y E w ys->K w):vSliceS v z (loV lo) (loV hi) none K:=by
 obtain ⟨⟨j,e,f⟩,rfl⟩:=Zkf hs
 subst hz
 rcases ha with ⟨rfl,rfl⟩|⟨a,c,rfl,k,hel⟩
 ·refine Zf1 (Nat.le_refl _) j e f (hk _ ?_)
  simp only [List.length_nil] at f e
  have l:(lo.getD 0).toNat=0:=ω
  have o:(hi.getD ((0:Nat):Int)).toNat=0:=ω
  rw [l,o]
  exact .inl ⟨by simp,by simp⟩
 ·refine Zf1 k j e f (hk _ ?_)
  by_cases hm:c=(lo.getD 0).toNat
  ·have g:Nat.beq c (lo.getD 0).toNat=true:=by rw [<-hm];exact Nat.beq_refl c
   rw [g]
   have hl:((xs.take (hi.getD ↑xs.length).toNat).drop (lo.getD 0).toNat)=[]:=by
    apply List.eq_nil_of_length_eq_zero
    rw [List.length_drop,List.length_take];omega
   rw [hl]
   exact .inr ⟨a,c-(lo.getD 0).toNat,by simp;omega,by simp,fun i x b=>by simp at b⟩
  ·have g:Nat.beq c (lo.getD 0).toNat=false:=by
    cases hh:Nat.beq c (lo.getD 0).toNat with
    | false=>rfl
    | true=>exact absurd (Nat.eq_of_beq_eq_true hh) hm
   rw [g]
   refine .inr ⟨a.add ((lo.getD 0).toNat*E.z),c-(lo.getD 0).toNat,?_,?_,fun i x b=>?_⟩
   ·have:(List.drop (lo.getD 0).toNat (List.take (hi.getD ↑xs.length).toNat xs)).length=(hi.getD ↑xs.length).toNat-(lo.getD 0).toNat:=by rw [List.length_drop,List.length_take];omega
    rw [this];rfl
   ·rw [List.length_drop,List.length_take];omega
   ·rw [List.getElem?_drop] at b
    have u:=Z1 b
    rw [List.length_take] at u
    rw [List.getElem?_take,if_pos ω] at b
    obtain ⟨cs,p,r⟩:=hel _ x b
    refine ⟨cs,?_,r⟩
    rw [ZfY]
    rwa [Nat.add_mul] at p
theorem Zxz {E:El α} {v:Value} {xs g:List α} {z:Nat} (lo hi:Option Int) (st:S ψ h0 h os) (i:Nat) (k:os[i]?=some (.it (El.sl E) [v] xs)) (hs:gSl xs (lo.getD 0) (hi.getD xs.length)=some g) (hz:E.z=z) {K:Value->Prop}
  (l:∀ e,S ψ h0 h (.it (El.sl E) [e] g::os)->K e):vSliceS v z (loV lo) (loV hi) none K:=by
 obtain ⟨j,L,s,r⟩:=st
 obtain ⟨o,w,u,c,a,_,_⟩:=r.at k
 exact Zjs lo hi (El.sl_to a) hs hz fun e b=>l e ⟨j,L,s,[],L,rfl,El.sl_of b,r⟩
theorem AllR.drop {g:CM} {E:El α}:∀ (l:Nat) {L:Rws} {css:List (List Value)} {xs:List α},AllR g E L css xs->∃ L',L'.Sublist L/\AllR g E L' (css.drop l) (xs.drop l)
 | 0,L,_,_,h=>⟨L,List.Sublist.refl _,h⟩
 | l+1,L,[],[],h=>⟨L,List.Sublist.refl _,h⟩
 | l+1,L,_::_,_::_,⟨L1,L2,a,_,b⟩=>by
  obtain ⟨L',c,e⟩:=AllR.drop l b
  exact ⟨L',by rw [a];exact c.trans (List.sublist_append_right ..),e⟩
 | _+1,_,[],_::_,h=>h.elim
 | _+1,_,_::_,[],h=>h.elim
theorem AllR.take {g:CM} {E:El α}:∀ (l:Nat) {L:Rws} {css:List (List Value)} {xs:List α},AllR g E L css xs->∃ L',L'.Sublist L/\AllR g E L' (css.take l) (xs.take l)
 | 0,L,_,_,_=>⟨[],List.nil_sublist _,rfl⟩
 | l+1,L,[],[],h=>⟨L,List.Sublist.refl _,h⟩
 | l+1,L,_::_,_::_,⟨L1,L2,a,b,c⟩=>by
  obtain ⟨L',e,f⟩:=AllR.take l c
  exact ⟨L1++L',by rw [a];exact List.Sublist.append (List.Sublist.refl _) e,L1,L',rfl,b,f⟩
 | _+1,_,[],_::_,h=>h.elim
 | _+1,_,_::_,[],h=>h.elim
theorem Zfy {E:El α} {a:CM} {L:Rws} {css:List (List Value)} {xs:List α} (h:AllR a E L css xs) (l:Nat):(css.take l).flatten.length=(xs.take l).length*E.z:=by
 obtain ⟨L',_,g⟩:=h.take l
 exact g.flat
theorem cut_S {E:El α} {v:Value} {xs ys:List α} {z:Nat} (lo hi:Option Int) (st:S ψ h0 h os) (i:Nat) (ho:os[i]?=some (.it (El.ow E) [v] xs)) (hs:gSl xs (lo.getD 0) (hi.getD xs.length)=some ys) (hz:E.z=z) {K:Value->Prop}
  (hk:∀ v',S ψ h0 h (os.set i (.it (El.ow E) [v'] ys))->K v'):vSliceS v z (loV lo) (loV hi) none K:=by
 obtain ⟨⟨o,f,j⟩,rfl⟩:=Zkf hs
 subst hz
 obtain ⟨φ,L,s,r⟩:=st
 obtain ⟨L1,Lo,L2,e,a,_,u⟩:=r.at ho
 have a1:∀ v' a2,a2.Sublist Lo->OwnL φ E a2 v' ((xs.take (hi.getD ↑xs.length).toNat).drop (lo.getD 0).toNat)->K v':=fun v' a2 a5 a8=>
  hk v' ⟨φ,L1++a2++L2,s.sub (by rw [e];exact List.Sublist.append (List.Sublist.append (List.Sublist.refl _) a5) (List.Sublist.refl _)),u φ (.it (El.ow E) [v'] _) a2 (CLe.refl _) ⟨v',rfl,a8⟩⟩
 rcases El.ow_to a with ⟨rfl,rfl,rfl⟩|⟨b,c,pre,css,rest,Lr,rfl,w,hrest,rfl,hall⟩
 ·refine Zf1 (Nat.le_refl _) o f j (a1 _ [] (List.Sublist.refl _) ?_)
  simp only [List.length_nil] at j f
  have e:(lo.getD 0).toNat=0:=ω
  have a:(hi.getD ((0:Nat):Int)).toNat=0:=ω
  rw [e,a]
  exact .inl ⟨by simp,by simp,rfl⟩
 ·refine Zf1 w o f j ?_
  generalize hL:(lo.getD 0).toNat=l
  generalize hH:(hi.getD ↑xs.length).toNat=m
  rw [hL,hH] at a1
  have ao:l<=m:=ω
  have ab:m<=xs.length:=ω
  by_cases hm:c=l
  ·have k:Nat.beq c l=true:=by rw [hm];exact Nat.beq_refl l
   rw [k]
   have hl:(xs.take m).drop l=[]:=by
    apply List.eq_nil_of_length_eq_zero
    rw [List.length_drop,List.length_take];omega
   rw [hl] at a1
   refine a1 _ [(b,Row.cs (pre++css.flatten++rest))] (List.Sublist.cons_cons _ (List.nil_sublist _)) (.inr ⟨b,c-l,pre,[],css.flatten++rest,[],?_,by simp,?_,by simp,rfl⟩)
   ·simp;omega
   ·rw [hm];simp
  ·have k:Nat.beq c l=false:=by
    cases hh:Nat.beq c l with
    | false=>rfl
    | true=>exact absurd (Nat.eq_of_beq_eq_true hh) hm
   rw [k]
   obtain ⟨La,x,y⟩:=hall.take m
   obtain ⟨Lb,b1,b2⟩:=y.drop l
   have a6:(css.take l).flatten.length=l*E.z:=by rw [Zfy hall l,List.length_take];congr 1;omega
   have a3:css.flatten=(css.take l).flatten++((css.take m).drop l).flatten++(css.drop m).flatten:=by
    have e:css=css.take m++css.drop m:=(List.take_append_drop m css).symm
    have a:css.take m=(css.take m).take l++(css.take m).drop l:=(List.take_append_drop l _).symm
    have e3:(css.take m).take l=css.take l:=by rw [List.take_take];congr 1;omega
    rw [e3] at a
    have p:=congrArg List.flatten e
    have t:=congrArg List.flatten a
    rw [List.flatten_append] at p t
    rw [p,t]
   have ac:(css.drop m).flatten.length=(xs.length-m)*E.z:=by
    obtain ⟨_,_,g⟩:=hall.drop m
    rw [g.flat,List.length_drop]
   refine a1 _ ((b,.cs (pre++css.flatten++rest))::Lb) (List.Sublist.cons_cons _ (b1.trans x)) (.inr ⟨b,c-l,pre++(css.take l).flatten,(css.take m).drop l,(css.drop m).flatten++rest,Lb,?_,?_,?_,?_,b2⟩)
   ·have:(List.drop l (List.take m xs)).length=m-l:=by rw [List.length_drop,List.length_take];omega
    rw [this,List.length_append,a6]
    simp [Z7]
   ·rw [List.length_drop,List.length_take];omega
   ·rw [List.length_drop,List.length_take,List.length_append,ac,Nat.min_eq_left ab]
    have:(c-l-(m-l))*E.z=(c-xs.length)*E.z+(xs.length-m)*E.z:=by rw [<-Nat.add_mul];congr 1;omega
    omega
   ·rw [a3];simp
theorem joinS {c:CM} {L:Rws} {e:Heap} {j:List Ob} (s:S0 ψ h0 h c L) (r:Rel c os L) (t:S c h e j):S ψ h0 e (j++os):=by
 obtain ⟨g,M,a,b⟩:=t
 exact ⟨g,M++L,s.call a,Rel.app (r.mono a.bas) b⟩
theorem join0 {a:CM} {L:Rws} {c:Heap} (s:S0 ψ h0 h a L) (r:Rel a os L) (t:S a h c []):S ψ h0 c os:=joinS s r t
theorem join1 {c:CM} {L:Rws} {e:Heap} {a:Ob} (s:S0 ψ h0 h c L) (r:Rel c os L) (t:S c h e [a]):S ψ h0 e (a::os):=joinS s r t
theorem join2 {c:CM} {L:Rws} {e:Heap} {a b:Ob} (s:S0 ψ h0 h c L) (r:Rel c os L) (t:S c h e [a,b]):S ψ h0 e (a::b::os):=joinS s r t
theorem join3 {e:CM} {L:Rws} {g:Heap} {a b c:Ob} (s:S0 ψ h0 h e L) (r:Rel e os L) (t:S e h g [a,b,c]):S ψ h0 g (a::b::c::os):=joinS s r t
theorem join4 {g:CM} {L:Rws} {j:Heap} {a b c e:Ob} (s:S0 ψ h0 h g L) (r:Rel g os L) (t:S g h j [a,b,c,e]):S ψ h0 j (a::b::c::e::os):=joinS s r t
theorem frF {c:CM} {L:Rws} {E:El α} {v:Value} {xs:List α} (r:Rel c os L) (i:Nat) (e:os[i]?=some (.it (El.sl E) [v] xs)):SlC c E v xs:=by
 obtain ⟨_,g,_,_,a,_,_⟩:=r.at e
 exact El.sl_to a
theorem S.arg {E:El α} {v:Value} {xs:List α} (st:S ψ h0 h os) (a:SlC ψ E v xs):S ψ h0 h (.it (El.sl E) [v] xs::os):=by
 obtain ⟨c,L,s,r⟩:=st
 exact ⟨c,L,s,[],L,rfl,El.sl_of (a.mono s.bas),r⟩
def El.pair {o:Type} (E:El α) (F:El o):El (α×o) where
 z:=E.z+F.z
 R:=fun k L cs x=>∃ c1 c2 g j,cs=c1++c2/\L=g++j/\E.R k g c1 x.1/\F.R k j c2 x.2
 mono:=fun l ⟨c1,c2,g,j,a,e,b,c⟩=>⟨c1,c2,g,j,a,e,E.mono l b,F.mono l c⟩
 len:=fun ⟨c1,c2,g,j,a,e,b,c⟩=>by rw [a,List.length_append,E.len b,F.len c]
 one:=fun ⟨c1,c2,g,j,a,e,b,c⟩ v f=>by
  rw [a] at f
  rcases List.mem_append.1 f with h|h
  ·exact E.one b v h
  ·exact F.one c v h
 zc:=E.zc++F.zc
 zx:=(E.zx,F.zx)
 hz:=fun k=>⟨_,_,[],[],rfl,rfl,E.hz k,F.hz k⟩
def El.iso {c:Type} (E:El α) (f:c->α) (z:c) (hz:f z=E.zx):El c where
 z:=E.z
 R:=fun a L cs x=>E.R a L cs (f x)
 mono:=fun e h=>E.mono e h
 len:=fun h=>E.len h
 one:=fun h=>E.one h
 zc:=E.zc
 zx:=z
 hz:=fun a=>by rw [hz];exact E.hz a
theorem ZED {o:Type} {E k:El α} {F j:El o} (a:Frz E k) (b:Frz F j):Frz (El.pair E F) (El.pair k j):=by
 refine ⟨by show E.z+F.z=k.z+j.z;rw [a.1,b.1],fun r L cs x ⟨c1,c2,u,w,c,e,f,g⟩ l=>?_⟩
 subst e
 exact ⟨c1,c2,[],[],c,rfl,a.2 _ _ _ _ f l.left,b.2 _ _ _ _ g l.right⟩
theorem Zx3 {e:Type} {E a:El α} {f:e->α} {z:e} {hz:f z=E.zx} {c:f z=a.zx} (h:Frz E a):Frz (El.iso E f z hz) (El.iso a f z c):=⟨h.1,fun g L cs x j k=>h.2 g L cs (f x) j k⟩
theorem ZwY {l:Type} {E:El α} {F:El l} (c:Plain E) (e:Plain F):Plain (El.pair E F):=by
 intro k ψ L cs x ⟨c1,c2,L1,L2,f,g,i,j⟩
 have a:=c k ψ _ _ _ i
 have b:=e k ψ _ _ _ j
 exact ⟨by rw [g,a.1,b.1];rfl,c1,c2,[],[],f,rfl,a.2,b.2⟩
theorem ZAQ {a:Type} {E:El α} {f:a->α} {z:a} {hz:f z=E.zx} (h:Plain E):Plain (El.iso E f z hz):=fun c ψ L cs x e=>h c ψ L cs (f x) e
theorem S.weak {e:CM} (t:S e h0 h []) (j:CLe ψ (hcell h0)):S ψ h0 h []:=by
 have a:=t.ext
 have st:S ψ h0 h0 []:=sZ j
 obtain ⟨g,L,s,r⟩:=st
 exact ⟨g,L,⟨a,fun b c k=>(s.row b c k).ext a,s.low,s.nod,s.fle.trans (CLe.ext a),s.dis,s.bas,s.old⟩,r⟩
theorem bifP {ρ:Type} {c:Bool} {a b:Option ρ} {r:ρ} {A B:Prop} (hp:(bif c then a else b)=some r) (g:c=true->a=some r->A) (e:c=false->b=some r->B):bif c then A else B:=by
 cases c with
 | true=>exact g rfl hp
 | false=>exact e rfl hp
theorem Rel.split {k:CM}:∀ {os:List Ob} {L:Rws},Rel k os L->∃ j:List Rws,L=j.flatten/\∀ (i:Nat) o,os[i]?=some o->∃ l,j[i]?=some l/\o.ok k l
 | [],L,h=>⟨[],h,fun i o g=>by simp at g⟩
 | o::os,L,⟨L1,L2,a,b,c⟩=>by
  obtain ⟨j,e,f⟩:=Rel.split c
  refine ⟨L1::j,by rw [a,e];rfl,fun i r g=>?_⟩
  cases i with
  | zero=>simp at g;subst g;exact ⟨L1,rfl,b⟩
  | succ i=>exact f i r (by simpa using g)
theorem Zsi {e:List Rws} {i:Nat} {c:Rws} (h:e[i]?=some c) {x:Nat×Row} (a:x∈c):x∈e.flatten:=List.mem_flatten.2 ⟨c,List.mem_of_getElem? h,a⟩
theorem Zk4:∀ {o:List Rws} {i j:Nat} {u r:Rws},(Rws.bs o.flatten).Nodup->o[i]?=some u->o[j]?=some r->i≠j->∀ b,b∈u.bs->b∈r.bs->False
 | [],i,j,u,r,_,hi,_,_,_,_,_=>by simp at hi
 | L::o,i,j,u,r,e,hi,hj,hij,b,a,c=>by
  have w:Rws.bs (L::o).flatten=L.bs++Rws.bs o.flatten:=by unfold Rws.bs;rw [List.flatten_cons,List.map_append]
  rw [w] at e
  obtain ⟨n1,n2,f⟩:=List.nodup_append.1 e
  have y:∀ {k:Nat} {Lk:Rws},o[k]?=some Lk->b∈Lk.bs->b∈Rws.bs o.flatten:=fun hk g=>by
   obtain ⟨x,l,rfl⟩:=List.mem_map.1 g
   exact List.mem_map.2 ⟨x,Zsi hk l,rfl⟩
  cases i with
  | zero=>
   simp at hi;subst hi
   cases j with
   | zero=>exact hij rfl
   | succ j=>exact f _ a _ (y (by simpa using hj) c) rfl
  | succ i=>
   cases j with
   | zero=>simp at hj;subst hj;exact f _ c _ (y (by simpa using hi) a) rfl
   | succ j=>exact Zk4 n2 (by simpa using hi) (by simpa using hj) ω b a c
theorem ZsB:∀ {c:List Rws} {i:Nat} {e:Rws},(Rws.bs c.flatten).Nodup->c[i]?=some e->e.bs.Nodup
 | [],i,e,_,hi=>by simp at hi
 | L::c,i,e,a,hi=>by
  have g:Rws.bs (L::c).flatten=L.bs++Rws.bs c.flatten:=by unfold Rws.bs;rw [List.flatten_cons,List.map_append]
  rw [g] at a
  obtain ⟨n1,n2,b⟩:=List.nodup_append.1 a
  cases i with
  | zero=>simp at hi;subst hi;exact n1
  | succ i=>exact ZsB n2 (by simpa using hi)
theorem ZrZ {φ:CM} {os:List Ob} {Ls:List Rws} (g:(Rws.bs Ls.flatten).Nodup) (hs:∀ (i:Nat) o,os[i]?=some o->∃ Li,Ls[i]?=some Li/\o.ok φ Li):∀ (is:List Nat),is.Nodup ->
  ∃ M:Rws,Rel φ (is.filterMap fun i=>os[i]?) M/\M.bs.Nodup/\(∀ x∈M,x∈Ls.flatten)/\∀ b∈M.bs,∃ i∈is,∃ Li,Ls[i]?=some Li/\b∈Li.bs
 | [],_=>⟨[],rfl,by simp [Rws.bs],(fun x j=>by cases j),fun b c=>by simp [Rws.bs] at c⟩
 | i::is,hnd=>by
  obtain ⟨u,v⟩:=List.nodup_cons.1 hnd
  obtain ⟨M,p,s,t,l⟩:=ZrZ g hs is v
  cases ho:os[i]? with
  | none=>
   rw [List.filterMap_cons,ho]
   exact ⟨M,p,s,t,fun b c=>by obtain ⟨k,hk,r⟩:=l b c;exact ⟨k,List.mem_cons_of_mem _ hk,r⟩⟩
  | some o=>
   obtain ⟨Li,f,w⟩:=hs i o ho
   rw [List.filterMap_cons,ho]
   have a3:Rws.bs (Li++M)=Li.bs++M.bs:=by unfold Rws.bs;rw [List.map_append]
   refine ⟨Li++M,⟨Li,M,rfl,w,p⟩,?_,fun x j=>?_,fun b c=>?_⟩
   ·rw [a3]
    refine List.nodup_append.2 ⟨ZsB g f,s,fun a ha b c e=>?_⟩
    subst e
    obtain ⟨k,hk,Lk,y,g2⟩:=l a c
    exact Zk4 g f y (fun e=>u (e▸hk)) a ha g2
   ·rcases List.mem_append.1 j with h|h
    ·exact Zsi f h
    ·exact t x h
   ·rw [a3] at c
    rcases List.mem_append.1 c with h|h
    ·exact ⟨i,List.mem_cons_self ..,Li,f,h⟩
    ·obtain ⟨k,hk,r⟩:=l b h;exact ⟨k,List.mem_cons_of_mem _ hk,r⟩
theorem S.pick (st:S ψ h0 h os) (is:List Nat) (k:is.Nodup):S ψ h0 h (is.filterMap fun i=>os[i]?):=by
 obtain ⟨l,L,s,r⟩:=st
 obtain ⟨o,rfl,hs⟩:=r.split
 obtain ⟨M,e,f,c,_⟩:=ZrZ s.nod hs is k
 have a:∀ b,b∈M.bs->b∈Rws.bs o.flatten:=fun b a=>by
  obtain ⟨x,g,rfl⟩:=List.mem_map.1 a
  exact List.mem_map.2 ⟨x,c x g,rfl⟩
 exact ⟨l,M,⟨s.ext,fun b cs j=>s.row b cs (c _ j),fun b j=>s.low b (a b j),f,s.fle,fun p u hp j=>s.dis p u hp (a _ j),s.bas,s.old⟩,e⟩
theorem S.clear (st:S ψ h0 h os):S ψ h0 h []:=st.pick [] (by simp)
theorem Zap {b:Int} {u:Unit} (h:gNz b=some u):b≠0:=by unfold gNz at h;split at h<;>first|assumption|cases h
theorem ZFR {b:Int} {u:Unit} (h:gNn b=some u):0<=b:=by unfold gNn at h;split at h<;>first|assumption|cases h
theorem Za0 {a b:ByteArray} {u:Unit} (h:gFit a b=some u):((a.size+b.size:Nat):Int)<=IntKind.i64.max:=by unfold gFit at h;split at h<;>first|assumption|cases h
theorem S.nilO {E:El α} (st:S ψ h0 h os):S ψ h0 h (.it (El.ow E) [.slice none 0 0] []::os):=st.nil E
theorem S.nilF {E:El α} (st:S ψ h0 h os):S ψ h0 h (.it (El.sl E) [.slice none 0 0] []::os):=st.put fun _=>El.sl_of SlC.nil
theorem S.copyF {E:El α} {cs:List Value} {x:List α} (st:S ψ h0 h os) (i:Nat) (j:os[i]?=some (.it (El.sl E) cs x)):S ψ h0 h (.it (El.sl E) cs x::os):=by
 obtain ⟨e,L,s,r⟩:=st
 obtain ⟨k,g,l,c,a,_,_⟩:=r.at j
 have b:g=[]:=a.1
 subst b
 exact ⟨e,L,s,[],L,rfl,a,r⟩
theorem CellsC.part {g:CM} {p:Addr} {cs:List Value} (off n:Nat) (a:CellsC g p cs):CellsC g (p.add off) ((cs.drop off).take n):=by
 intro j u c
 have e:=Z1 c
 rw [List.length_take] at e
 rw [List.getElem?_take,if_pos ω,List.getElem?_drop] at c
 rw [ZfY]
 exact a _ _ c
theorem S.leF (st:S ψ h0 h os):CLe ψ (hcell h):=by obtain ⟨a,L,s,_⟩:=st;exact s.bas.trans s.fle
theorem omap {c a:Type} {o:Option c} {f:c->a} {y:a} (h:o.map f=some y):∃ x,o=some x/\f x=y:=by
 cases o with
 | none=>cases h
 | some x=>exact ⟨x,rfl,Option.some.inj h⟩
theorem ZuO {g:CM} {E:El α} {v:Value} {xs:List α} (j:SlC g E v xs) {K:Bool->Prop} (b:v=.slice none 0 0->xs=[]->K true) (e:K false):vNilS false v K:=by
 rcases j with ⟨rfl,rfl⟩|⟨a,c,rfl,_⟩
 ·exact b rfl rfl
 ·exact e
def UB (ψ:CM) (h0:Heap):CM:=fun p=>match ψ p with
 | some u=>some u
 | none=>hcell h0 p
theorem ub_le {c:CM} (a:CLe ψ c) (b:CLe (hcell h0) c):CLe (UB ψ h0) c:=fun p u hp=>by
 unfold UB at hp
 split at hp
 ·rename_i w e;cases hp;exact a p _ e
 ·exact b p u hp
theorem S.leU (st:S ψ h0 h os):CLe (UB ψ h0) (hcell h):=ub_le st.leF st.le
theorem S0.ubF {a:CM} {L:Rws} (_s:S0 ψ h0 h a L):CLe a (UB a h0):=fun p u hp=>by unfold UB;rw [hp]
theorem S0.ubH {e:CM} {L:Rws} (s:S0 ψ h0 h e L):CLe (hcell h0) (UB e h0):=fun p u hp=>by
 unfold UB
 cases b:e p with
 | none=>exact hp
 | some w=>
  have c:=s.fle p w b
  have a:=Zg9 s.ext hp
  rw [c] at a;exact a
theorem S0.ubU {a:CM} {L:Rws} (s:S0 ψ h0 h a L):CLe (UB ψ h0) (UB a h0):=ub_le (s.bas.trans s.ubF) s.ubH
theorem S0.upS {a:CM} {L:Rws} (s:S0 ψ h0 h a L) (r:Rel a os L):S a h0 h os:=
 ⟨a,L,⟨s.ext,s.row,s.low,s.nod,s.fle,s.dis,CLe.refl _,fun _ _ hp _=>hp⟩,r⟩
theorem S0.downS {c:CM} {L:Rws} {e:Heap} {k:List Ob} (s:S0 ψ h0 h c L) (t:S c h0 e k):S ψ h0 e k:=by
 obtain ⟨j,M,a,b⟩:=t
 exact ⟨j,M,⟨a.ext,a.row,a.low,a.nod,a.fle,a.dis,s.bas.trans a.bas,fun p u hp g=>s.old p u (a.old p u hp g) g⟩,b⟩
theorem ZBi {e:Type 1} (l:List e):∀ n,(List.range' n (l.length-n)).filterMap (fun i=>l[i]?)=l.drop n:=by
 intro n
 induction hk:l.length-n generalizing n with
 | zero=>rw [List.drop_of_length_le ω];rfl
 | succ k c=>
  have a:n<l.length:=ω
  rw [List.range'_succ,List.filterMap_cons,List.drop_eq_getElem_cons a]
  have:l[n]?=some l[n]:=by simp [a]
  rw [this]
  have:=c (n+1) ω
  simp only
  rw [this]
theorem S.pickT (st:S ψ h0 h os) (n:Nat) (is:List Nat) (k:is.Nodup) (c:∀ i∈is,i<n):S ψ h0 h ((is.filterMap fun i=>os[i]?)++os.drop n):=by
 have:=st.pick (is++List.range' n (os.length-n)) (by
  refine List.nodup_append.2 ⟨k,List.nodup_range',fun a l b j e=>?_⟩
  subst e
  have f:=c a l
  have g:=List.mem_range'_1.1 j
  omega)
 rw [List.filterMap_append,ZBi] at this
 exact this
def Hd (h:Heap) (v:Value) (i:Int) (u:Value):Prop:=∃ a n c,v=.slice (some a) n c/\hcell h (a.add (i.toNat*1))=some u
theorem Zni {E:El α} {φ:CM} {Lo:Rws} {v:Value} {w:List (List α)} {i:Int} {xs:List α} (a8:RowsC (hcell h) Lo) (ho:OwnL φ (El.ow E) Lo v w) (g:gIdx w i=some xs):
  ∃ (b c:Nat) (r:List Value) (x:List (List Value)) (u:Value) (po:List (List Value)) (o:List Value) (M1 Mo M2:Rws),v=.slice (some ⟨b,r.length,none⟩) w.length c/\w.length<=c/\(c-w.length)*1<=o.length/\Lo=(b,.cs ((r++x.flatten)++u::(po.flatten++o)))::(M1++Mo++M2)/\x.flatten.length=i.toNat/\OwnL φ E Mo u xs/\hcell h ⟨b,r.length+i.toNat,none⟩=some u /\
   ∀ y a0,OwnL φ E y u a0->OwnL φ (El.ow E) ((b,.cs ((r++x.flatten)++u::(po.flatten++o)))::(M1++y++M2)) v (w.set i.toNat a0):=by
 obtain ⟨l,a⟩:=ZaP g
 rcases ho with ⟨_,rfl,_⟩|⟨b,c,r,css,o,Lr,rfl,e,hrest,rfl,hall⟩
 ·simp at a
 obtain ⟨d,M1,Mo,M2,x,po,rfl,f,k3,⟨u,rfl,j⟩,k⟩:=hall.at a
 have aa:=AllR.pre_flat x w _ (by rw [<-f];exact hall)
 have a2:x.flatten.length=i.toNat:=by rw [aa,k3];exact Nat.mul_one _
 have a7:r++css.flatten++o=(r++x.flatten)++u::(po.flatten++o):=by rw [f];simp
 refine ⟨b,c,r,x,u,po,o,M1,Mo,M2,rfl,e,hrest,by rw [a7],a2,j,?_,fun y a0 hm=>.inr ⟨b,c,r,x++[u]::po,o,M1++y++M2,by simp,by simpa using e,by simpa using hrest,by simp,k [u] y a0 ⟨u,rfl,hm⟩⟩⟩
 refine a8 b _ (List.mem_cons_self ..) _ _ ?_
 rw [a7,List.getElem?_append_right (by rw [List.length_append];omega),List.length_append,a2]
 simp
theorem Zbr {E:El α} {v:Value} {o:List (List α)} {i:Int} {xs:List α} {p:Addr} (st:S ψ h0 h os) (k:Nat) (y:os[k]?=some (.it (El.ow (El.ow E)) [v] o)) (hp:AddrOf v i 1 p) (f:gIdx o i=some xs) {K:Value->Prop} (hk:∀ u,Hd h v i u->K u):ldV h p K:=by
 obtain ⟨φ,L,s,r⟩:=st
 obtain ⟨L1,Lo,L2,g,j,_,_⟩:=r.at y
 have w:=s.rows
 rw [g] at w
 obtain ⟨b,c,a1,pr,u,po,x,M1,Mo,M2,rfl,_,_,_,_,_,l,_⟩:=Zni w.left.right (El.ow_to j) f
 obtain ⟨a,n,c',e,rfl⟩:=hp
 cases e
 refine ⟨u,?_,hk u ⟨_,_,_,rfl,?_⟩⟩<;>(rw [Z7,Nat.mul_one];exact l)
theorem Hd.eq {v u l:Value} {i:Int} {b n c off:Nat} (g:Hd h v i u) (j:v=.slice (some ⟨b,off,none⟩) n c) (k:hcell h ⟨b,off+i.toNat,none⟩=some l):u=l:=by
 obtain ⟨a,r,o,e,f⟩:=g
 rw [j] at e;cases e
 rw [Z7,Nat.mul_one,k] at f
 exact (Option.some.inj f).symm
theorem S.rowC {E y:El α} {v u:Value} {w:List (List α)} {i:Int} {xs:List α} (st:S ψ h0 h os) (k:Nat) (ho:os[k]?=some (.it (El.ow (El.ow E)) [v] w)) (e:Hd h v i u) (f:gIdx w i=some xs) (hf:Frz E y):SlC (hcell h) y u xs:=by
 obtain ⟨φ,L,s,r⟩:=st
 obtain ⟨L1,Lo,L2,g,j,_,_⟩:=r.at ho
 have hr:=s.rows
 rw [g] at hr
 have a:=hr.left.right
 obtain ⟨b,c,a8,pr,u',po,a2,M1,Mo,M2,l,_,_,a0,_,hm,o,_⟩:=Zni a (El.ow_to j) f
 obtain rfl:=e.eq l o
 refine El.sl_to ((Zg hf).2 (hcell h) Mo [u] xs ((El.ow E).mono s.fle ⟨u,rfl,hm⟩) ?_)
 rw [a0] at a
 intro b' row x
 exact a b' row (by simp [x])
theorem ZjO {E:El α} {v u f:Value} {a5:List (List α)} {i j:Int} {xs:List α} {p y:α} {q:Addr} {K:Heap->Prop} (st:S ψ h0 h os) (k:Nat) (ho:os[k]?=some (.it (El.ow (El.ow E)) [v] a5)) (t:Hd h v i u) (w:gIdx a5 i=some xs) (x:AddrOf u j 1 q) (hj:gIdx xs j=some p) (hz:E.z=1) (hy:∀ φ,E.R φ [] [f] y)
  (hK:∀ h',S ψ h0 h' (os.set k (.it (El.ow (El.ow E)) [v] (a5.set i.toNat (xs.set j.toNat y))))->K h'):vStore1 h q f K:=by
 obtain ⟨φ,L,s,r⟩:=st
 obtain ⟨L1,Lo,L2,o,e2,_,e4⟩:=r.at ho
 have hr:=s.rows
 rw [o] at hr
 obtain ⟨b,c,ad,pr,u',po,aa,M1,Mo,M2,hv,_,_,a9,_,hm,hc,a1⟩:=Zni hr.left.right (El.ow_to e2) w
 obtain rfl:=t.eq hv hc
 generalize (b,Row.cs ((ad++pr.flatten)++u::(po.flatten++aa)))=a0 at a9 a1
 have s2:S0 ψ h0 h φ (Mo++(L1++a0::M1++(M2++L2))):=s.perm (by
  rw [o,a9]
  have g:(L1++a0::M1++Mo).Perm (Mo++(L1++a0::M1)):=List.perm_append_comm
  have l:=g.append_right (M2++L2)
  simpa using l)
 refine Zl8 (cs:=[f]) s2 hm x hz hj (hy φ) fun a e h' s3 ac=>hK h' ⟨φ,L1++(a0::(M1++(a++[]++e)++M2))++L2,s3.perm ?_,e4 φ _ _ (CLe.refl _) ⟨v,rfl,a1 _ _ ac⟩⟩
 have g:((a++e)++(L1++a0::M1)).Perm ((L1++a0::M1)++(a++e)):=List.perm_append_comm
 have l:=g.append_right (M2++L2)
 simpa using l
def IsView (v:Value) (z l m:Nat) (e:Value):Prop:=(v=.slice none 0 0/\e=.slice none 0 0)\/∃ a n c,v=.slice (some a) n c/\l<=m/\m<=n/\n<=c/\e=.slice (some (bif Nat.beq c l then a else a.add (l*z))) (m-l) (c-l)
theorem Zm0 {o:CM} {E:El α} {v:Value} {xs r:List α} {z:Nat} (lo hi:Option Int) (u:SlC o E v xs) (hs:gSl xs (lo.getD 0) (hi.getD xs.length)=some r) {K:Value->Prop} (l:∀ k,IsView v z (lo.getD 0).toNat (hi.getD xs.length).toNat k->K k):vSliceS v z (loV lo) (loV hi) none K:=by
 obtain ⟨⟨f,b,e⟩,rfl⟩:=Zkf hs
 rcases u with ⟨rfl,rfl⟩|⟨a,c,rfl,g,hel⟩
 ·refine Zf1 (Nat.le_refl _) f b e (l _ (.inl ⟨rfl,?_⟩))
  simp only [List.length_nil] at e b
  have i:(lo.getD 0).toNat=0:=ω
  have j:(hi.getD ((0:Nat):Int)).toNat=0:=ω
  rw [i,j];simp
 ·refine Zf1 g f b e (l _ (.inr ⟨a,_,c,rfl,by omega,by omega,g,?_⟩))
  cases Nat.beq c (lo.getD 0).toNat<;>rfl
theorem IsView.sl {y φ:CM} {E:El α} {v u:Value} {xs:List α} {l m:Nat} (f:IsView v E.z l m u) (hs:(v=.slice none 0 0/\xs=[])\/∃ a c,v=.slice (some a) xs.length c/\xs.length<=c/\∀ (i:Nat) x,xs[i]?=some x->∃ cs,CellsC y (a.add (i*E.z)) cs/\E.R φ [] cs x):
  (u=.slice none 0 0/\(xs.take m).drop l=[])\/∃ a c,u=.slice (some a) ((xs.take m).drop l).length c/\((xs.take m).drop l).length<=c/\∀ (i:Nat) x,((xs.take m).drop l)[i]?=some x->∃ cs,CellsC y (a.add (i*E.z)) cs/\E.R φ [] cs x:=by
 rcases hs with ⟨rfl,rfl⟩|⟨a,c,rfl,k,hel⟩
 ·rcases f with ⟨_,rfl⟩|⟨a,n,c,e,_⟩
  ·exact .inl ⟨rfl,by simp⟩
  ·cases e
 ·rcases f with ⟨e,_⟩|⟨a',n,c',e,o,p,r,rfl⟩
  ·cases e
  cases e
  have w:((xs.take m).drop l).length=m-l:=by rw [List.length_drop,List.length_take];omega
  refine .inr ⟨_,c-l,by rw [w],by rw [w];omega,fun i x b=>?_⟩
  have a0:=Z1 b
  rw [w] at a0
  have a2:Nat.beq c l=false:=by
   cases hh:Nat.beq c l with
   | false=>rfl
   | true=>have:=Nat.eq_of_beq_eq_true hh;omega
  rw [a2]
  rw [List.getElem?_drop,List.getElem?_take,if_pos ω] at b
  obtain ⟨cs,g,j⟩:=hel _ x b
  refine ⟨cs,?_,j⟩
  show CellsC y ((a.add (l*E.z)).add (i*E.z)) cs
  rw [ZfY,<-Nat.add_mul]
  exact g
theorem IsView.C {e:CM} {E:El α} {v c:Value} {xs g:List α} {z:Nat} {lo hi:Int} (a:IsView v z lo.toNat hi.toNat c) (j:SlC e E v xs) (hs:gSl xs lo hi=some g) (hz:E.z=z):SlC e E c g:=by
 obtain ⟨_,rfl⟩:=Zkf hs
 subst hz
 exact a.sl j
theorem ZGi {E:El α}:∀ (a:CM) (L:Rws) (cs:List Value) (x:List α),(El.sl E).R a L cs x->L=[]:=fun _ _ _ _ h=>h.1
theorem ZnC (st:S ψ h0 h os) {cs:List Value} {t:TypeId} {K:Addr->Heap->Prop} (e:∀ b a,ExtH h a->S ψ h0 a (.box b cs::os)->K ⟨b,0,none⟩ a):vNew h (.cells cs.toArray t) K:=by
 obtain ⟨c,L,s,r⟩:=st
 exact e _ _ (ExtH.push h _) ⟨c,_,s.new cs t,[(h.size,.cs cs)],L,rfl,rfl,r⟩
theorem Ztm {E:El α} {css:List (List Value)} {xs:List α} (st:S ψ h0 h os) {cs:List Value} {t:TypeId} {n:Nat} (k:∀ g,AllR g E [] css xs) (a:css.flatten=cs) (b:xs.length=n) {K:Value->Heap->Prop}
  (j:∀ v e,ExtH h e->S ψ h0 e (.it (El.ow E) [v] xs::os)->K v e):vNewS h (.cells cs.toArray t) n K:=by
 subst a;subst b
 have:=ZR (E:=E) (K:=fun v e=>ExtH h e->K v e) (t:=t) st k rfl rfl fun v e s c=>j v e c s
 exact this (ExtH.push h _)
theorem ZaL {E:El α} {bytes:Nat} {zero:List Value} {el:TypeId} {n c:Int} {xs:List α} (st:S ψ h0 h os) (hz:zero=E.zc) (j:gMake bytes E.zx n c=some xs) {K:Value->Heap->Prop}
  (g:∀ v e,ExtH h e->S ψ h0 e (.it (El.ow E) [v] xs::os)->K v e):vMake bytes zero el n c h K:=by
 have:=Zaj (E:=E) (K:=fun v e=>ExtH h e->K v e) (el:=el) st hz j fun v e s a=>g v e a s
 exact ⟨this.1,this.2 (ExtH.push h _)⟩
theorem AllR.frz {E j:El α} (g:Frz E j) {e:CM}:∀ {L:Rws} {css:List (List Value)} {xs:List α},AllR e E L css xs->RowsC e L->AllR e j [] css xs
 | _,[],[],_,_=>rfl
 | _,_::_,_::_,⟨L1,L2,a,b,c⟩,hr=>by
  subst a
  exact ⟨[],[],rfl,g.2 _ _ _ _ b hr.left,AllR.frz g c hr.right⟩
 | _,[],_::_,h,_=>h.elim
 | _,_::_,[],h,_=>h.elim
theorem S.frzIn {E E':El α} {v:Value} {xs:List α} (st:S ψ h0 h os) (i:Nat) (ho:os[i]?=some (.it (El.ow E) [v] xs)) (hf:Frz E E'):S ψ h0 h (os.set i (.it (El.ow E') [v] xs)):=by
 obtain ⟨φ,L,s,r⟩:=st
 obtain ⟨L1,Lo,L2,f,k,_,g⟩:=r.at ho
 rcases El.ow_to k with ⟨a,e,l⟩|⟨b,c,pre,css,rest,Lr,o,p,t,u,w⟩
 ·exact ⟨φ,L1++[]++L2,by rw [<-l,<-f];exact s,g φ (.it (El.ow E') [v] xs) [] (CLe.refl _) ⟨v,rfl,.inl ⟨a,e,rfl⟩⟩⟩
 ·have x:S0 ψ h0 h φ (Lr++(L1++[(b,Row.cs (pre++css.flatten++rest))]++L2)):=s.perm (by
   rw [f,u]
   have a:(L1++[(b,Row.cs (pre++css.flatten++rest))]++Lr).Perm (Lr++(L1++[(b,Row.cs (pre++css.flatten++rest))])):=List.perm_append_comm
   have e:=a.append_right L2
   simpa using e)
  obtain ⟨a3,j,y,g3⟩:=x.freeze
  refine ⟨a3,L1++[(b,Row.cs (pre++css.flatten++rest))]++L2,g3,g a3 (.it (El.ow E') [v] xs) _ j ⟨v,rfl,.inr ⟨b,c,pre,css,rest,[],o,p,by rw [<-hf.1];exact t,rfl,(w.mono j).frz hf y⟩⟩⟩
theorem ZnT {a:Addr} {e:FuncId->Array Value->Array Value->Prop} {K:Addr->Prop} (c:K a):vNilQ (.pointer (some a)) e K:=c
def HoleL {α:Type} (w:CM) (E:El α) (i:Nat) (u:Value) (L:Rws) (v:Value) (a:List (List α)):Prop:=
 (v=.slice none 0 0/\a=[]/\L=[])\/∃ b c g j l e k o,v=.slice (some ⟨b,g.length,none⟩) a.length c/\a.length<=c/\(c-a.length)*1<=e.length/\L=(b,.cs (g++(j++[u]::l).flatten++e))::(k++o)/\j.length=i /\
  ∀ ψ r x,CLe w ψ->OwnL ψ E r u x->AllR ψ (El.ow E) (k++r++o) (j++[u]::l) (a.set i x)
def El.hole {α:Type} (E:El α) (i:Nat) (u:Value):El (List (List α)) where
 z:=1
 R:=fun φ L cs w=>∃ v,cs=[v]/\HoleL φ E i u L v w
 mono:=fun hl ⟨v,a,e⟩=>⟨v,a,by
  rcases e with e|⟨b,c,pre,pr,po,rest,L1,L2,f,g,j,k,l,o⟩
  ·exact .inl e
  ·exact .inr ⟨b,c,pre,pr,po,rest,L1,L2,f,g,j,k,l,fun ψ Lo x y ho=>o ψ Lo x (hl.trans y) ho⟩⟩
 len:=fun ⟨v,a,_⟩=>by rw [a];rfl
 one:=fun ⟨v,a,e⟩ u r=>by
  rw [a] at r;simp at r;rw [r]
  rcases e with ⟨rfl,_⟩|⟨b,c,pre,pr,po,rest,L1,L2,rfl,_⟩<;>rfl
 zc:=[.slice none 0 0]
 zx:=[]
 hz:=fun _=>⟨_,rfl,.inl ⟨rfl,rfl,rfl⟩⟩
theorem AllR.atU {E:El α} {φ:CM}:∀ {L:Rws} {css:List (List Value)} {a1:List (List α)} {i:Nat} {x:List α},AllR φ (El.ow E) L css a1->a1[i]?=some x ->
  ∃ u L1 Lo L2 pr po,L=L1++Lo++L2/\css=pr++[u]::po/\pr.length=i/\OwnL φ E Lo u x/\∀ ψ r x',CLe φ ψ->OwnL ψ E r u x'->AllR ψ (El.ow E) (L1++r++L2) (pr++[u]::po) (a1.set i x')
 | _,[],[],i,x,_,a=>by simp at a
 | _,c::cs,y::xs,i,x,⟨L1,L2,b,e,f⟩,a=>by
  cases i with
  | zero=>
   simp at a;subst a
   obtain ⟨u,rfl,g⟩:=e
   exact ⟨u,[],L1,L2,[],cs,by simpa using b,rfl,rfl,g,fun ψ r x' w hr=>⟨r,L2,by simp,⟨u,rfl,hr⟩,AllR.mono w f⟩⟩
  | succ i=>
   obtain ⟨u,M1,Mo,M2,aa,a5,j,k,l,o,p⟩:=AllR.atU f (by simpa using a)
   refine ⟨u,L1++M1,Mo,M2,c::aa,a5,by rw [b,j];simp,by rw [k];rfl,by simp [l],o,fun ψ r x' w hr=>?_⟩
   exact ⟨L1,M1++r++M2,by simp,(El.ow E).mono w e,p ψ r x' w hr⟩
 | _,[],_::_,_,_,h,_=>h.elim
 | _,_::_,[],_,_,h,_=>h.elim
theorem foc_S {E:El α} {v u:Value} {a0:List (List α)} {i:Int} {xs:List α} (st:S ψ h0 h os) (k:Nat) (ho:os[k]?=some (.it (El.ow (El.ow E)) [v] a0)) (o:Hd h v i u) (p:gIdx a0 i=some xs):S ψ h0 h (.it (El.ow E) [u] xs::os.set k (.it (El.hole E i.toNat u) [v] a0)):=by
 obtain ⟨g1,e⟩:=ZaP p
 obtain ⟨φ,L,s,r⟩:=st
 obtain ⟨L1,Lo,L2,f,t,_,w⟩:=r.at ho
 rcases El.ow_to t with ⟨_,rfl,_⟩|⟨b,c,pre,css,rest,Lr,g,x,y,j,l⟩
 ·simp at e
 obtain ⟨u',M1,Mo,M2,pr,po,k1,a,k3,k4,k5⟩:=l.atU e
 have a4:=AllR.pre_flat pr a0 Lr (by rw [<-a];exact l)
 have hu:u=u':=by
  refine o.eq g ?_
  refine s.rows b (pre++css.flatten++rest) (by rw [f,j];simp) _ _ ?_
  rw [a,List.append_assoc,List.getElem?_append_right ω,Nat.add_sub_cancel_left,List.flatten_append,List.append_assoc,List.getElem?_append_right (by rw [a4,k3];show i.toNat*1<=_;omega),a4,k3]
  rw [show i.toNat-i.toNat*(El.ow E).z=0 by show i.toNat-i.toNat*1=0;omega]
  rfl
 subst hu
 refine ⟨φ,Mo++(L1++((b,.cs (pre++(pr++[u]::po).flatten++rest))::(M1++M2))++L2),s.perm ?_,Mo,_,rfl,⟨u,rfl,k4⟩,w φ (.it (El.hole E i.toNat u) [v] a0) _ (CLe.refl _) ⟨v,rfl,.inr ⟨b,c,pre,pr,po,rest,M1,M2,g,x,y,rfl,k3,k5⟩⟩⟩
 rw [f,j,k1,<-a]
 generalize (b,Row.cs (pre++css.flatten++rest))=a3
 have h1:(L1++a3::M1++Mo).Perm (Mo++(L1++a3::M1)):=List.perm_append_comm
 have h2:=h1.append_right (M2++L2)
 simpa using h2
theorem unf_S {E:El α} {v u:Value} {y:List (List α)} {i:Nat} {ys:List α} (st:S ψ h0 h (.it (El.ow E) [u] ys::os)) (k:Nat) (ho:os[k]?=some (.it (El.hole E i u) [v] y)):S ψ h0 h (os.set k (.it (El.ow (El.ow E)) [v] (y.set i ys))):=by
 obtain ⟨x,L,s,Ly,L',rfl,hy,r⟩:=st
 obtain ⟨L1,Lo,L2,rfl,g,_,f⟩:=r.at ho
 obtain ⟨v',a,e⟩:=g
 simp at a;subst a
 rcases e with ⟨rfl,rfl,rfl⟩|⟨b,c,pre,pr,po,rest,M1,M2,j,l,o,p,w,t⟩
 ·refine ⟨x,L1++[]++L2,s.sub (List.sublist_append_right ..),?_⟩
  have:=f x (.it (El.ow (El.ow E)) [.slice none 0 0] []) [] (CLe.refl _) ⟨_,rfl,.inl ⟨rfl,rfl,rfl⟩⟩
  simpa using this
 ·have a4:=t x Ly ys (CLe.refl _) (El.ow_to hy)
  refine ⟨x,L1++((b,.cs (pre++(pr++[u]::po).flatten++rest))::(M1++Ly++M2))++L2,s.perm ?_,f x (.it (El.ow (El.ow E)) [v] (y.set i ys)) _ (CLe.refl _) ⟨v,rfl,.inr ⟨b,c,pre,pr++[u]::po,rest,M1++Ly++M2,by simpa using j,by simpa using l,by rw [List.length_set];exact o,rfl,a4⟩⟩⟩
  rw [p]
  generalize (b,Row.cs (pre++(pr++[u]::po).flatten++rest))=a3
  have a:(Ly++(L1++a3::M1)).Perm ((L1++a3::M1)++Ly):=List.perm_append_comm
  have e:=a.append_right (M2++L2)
  simpa using e
end
end Go.Vc
