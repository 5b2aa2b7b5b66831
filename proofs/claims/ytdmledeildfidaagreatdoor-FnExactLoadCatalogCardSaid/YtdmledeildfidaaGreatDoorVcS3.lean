import Derived.Test.YtdmledeildfidaaGreatDoorVcS2
namespace Go.Vc
set_option linter.unusedVariables false
set_option linter.unusedSimpArgs false
open Go
section
variable {ψ:CM} {h0 h:Heap} {os:List Ob} {α:Type}
theorem AllR.pre_flat {e:CM} {E:El α} {d:List Value} {g:List (List Value)}:∀ (q:List (List Value)) (y:List α) (M:Rws),AllR e E M (q++d::g) y->q.flatten.length=q.length*E.z
 | [],_,_,_=>by simp
 | a::q,[],_,h=>h.elim
 | a::q,c::y,M,⟨_,_,_,k2,k3⟩=>by
  rw [List.flatten_cons,List.length_append,E.len k2,AllR.pre_flat q y _ k3,List.length_cons,Nat.add_mul];omega
theorem ZkE {E:El α} {w:CM} {z:Nat} {rows M Ly:Rws} {v:Value} {cs:List Value} {xs:List α} {k:Int} {y x0:α} {p:Addr} {K:Heap->Prop}
  (s:S0 ψ h0 h w (rows++M)) (ho:OwnL w E rows v xs) (hp:AddrOf v k z p) (hz:E.z=z) (hk:gIdx xs k=some x0) (hy:E.R w Ly cs y)
  (hK:∀ f g h',S0 ψ h0 h' w (f++g++M)->OwnL w E (f++Ly++g) v (xs.set k.toNat y)->K h'):vStoreN p cs 0 h K:=by
 subst hz;obtain ⟨r,i⟩:=Zax hk;obtain ⟨a,n,c,rfl,rfl⟩:=hp;rcases ho with ⟨e,_⟩|⟨b,c,pre,css,rest,Lr,e,j,hrest,rfl,hall⟩
 ·cases e
 cases e;obtain ⟨d,M1,Mo,M2,pr,po,k1,k2,k3,l,o⟩:=hall.at i;have a7:=AllR.pre_flat pr xs Lr (by rw [<-k2];exact hall);have u:=E.len l;have ac:=E.len hy;rw [ZP];have sm:Sta h0 h ((b,.cs ((pre++pr.flatten)++d++(po.flatten++rest)))::(Lr++M)) fun x=>CLe w (hcell x):=by
  have:=s.sta;rw [k2] at this;simpa using this
 refine Ze8 cs d (pre++pr.flatten) _ 0 h _ (by rw [List.length_append,a7,k3];rfl) ω (E.one hy) sm fun h' t=>?_;have s2:S0 ψ h0 h' w ((b,.cs ((pre++pr.flatten)++cs++(po.flatten++rest)))::(Lr++M)):=s.of_sta' t rfl;refine hK ((b,.cs ((pre++pr.flatten)++cs++(po.flatten++rest)))::M1) M2 h' (s2.sub ?_) (.inr ⟨b,c,pre,pr++cs::po,rest,M1++Ly++M2,?_,?_,?_,?_,o cs Ly y hy⟩)
 ·rw [k1];simp only [List.cons_append,List.append_assoc];refine List.Sublist.cons_cons _ (List.Sublist.append (List.Sublist.refl _) (List.sublist_append_of_sublist_right ?_));exact List.Sublist.refl _
 ·simp
 ·simpa using j
 ·simpa using hrest
 ·simp
theorem stN_S {E:El α} {z:Nat} {v:Value} {cs:List Value} {xs:List α} {k:Int} {y x0:α} {p:Addr} {K:Heap->Prop} (st:S ψ h0 h os) (i:Nat) (ho:os[i]?=some (.it (El.ow E) [v] xs)) (hp:AddrOf v k z p) (hk:gIdx xs k=some x0) (hz:E.z=z) (hy:∀ l,E.R l [] cs y)
  (hK:∀ o,S ψ h0 o (os.set i (.it (El.ow E) [v] (xs.set k.toNat y)))->K o):vStoreN p cs 0 h K:=by
 obtain ⟨l,L,s,r⟩:=st;obtain ⟨x,Lo,w,e,f,_,g⟩:=r.at ho;have s2:S0 ψ h0 h l (Lo++(x++w)):=s.perm (by rw [e,<-List.append_assoc];exact List.Perm.append_right _ List.perm_append_comm);refine ZkE s2 (El.ow_to f) hp hz hk (hy l) fun a c o j u=>hK o ⟨l,x++(a++c)++w,j.perm ?_,g l (.it (El.ow E) [v] (xs.set k.toNat y)) _ (CLe.refl _) ⟨v,rfl,by simpa using u⟩⟩;rw [<-List.append_assoc];exact List.Perm.append_right _ List.perm_append_comm
theorem st1_S {E:El α} {v c:Value} {xs:List α} {k:Int} {y x0:α} {p:Addr} {K:Heap->Prop} (st:S ψ h0 h os) (i:Nat) (o:os[i]?=some (.it (El.ow E) [v] xs)) (hp:AddrOf v k 1 p) (g:gIdx xs k=some x0) (hz:E.z=1) (j:∀ l,E.R l [] [c] y)
  (e:∀ a,S ψ h0 a (os.set i (.it (El.ow E) [v] (xs.set k.toNat y)))->K a):vStore1 h p c K:=stN_S (cs:=[c]) st i o hp g hz j e
theorem ZyE {E:El α} {z:Nat} {v:Value} {cs:List Value} {xs:List α} {k:Int} {y x0:α} {p:Addr} {K:Heap->Prop} (st:S ψ h0 h (.it E cs y::os)) (i:Nat) (ho:os[i]?=some (.it (El.ow E) [v] xs)) (hp:AddrOf v k z p) (hk:gIdx xs k=some x0) (hz:E.z=z)
  (hK:∀ x,S ψ h0 x (os.set i (.it (El.ow E) [v] (xs.set k.toNat y)))->K x):vStoreN p cs 0 h K:=by
 obtain ⟨φ,L,s,o,L',rfl,hy,r⟩:=st;obtain ⟨u,Lo,w,rfl,g,_,j⟩:=r.at ho;have s2:S0 ψ h0 h φ (Lo++(o++(u++w))):=s.perm (by
  have e:(o++u++Lo).Perm (Lo++(o++u)):=List.perm_append_comm;have f:=e.append_right w;simpa using f)
 refine ZkE s2 (El.ow_to g) hp hz hk hy fun a c x l a0=>hK x ⟨φ,u++(a++o++c)++w,l.perm ?_,j φ (.it (El.ow E) [v] (xs.set k.toNat y)) _ (CLe.refl _) ⟨v,rfl,a0⟩⟩;have h1:(a++c++o).Perm (a++o++c):=by
  simp only [List.append_assoc];exact List.perm_append_comm.append_left _
 have e:(a++c++o++u).Perm (u++(a++o++c)):=(h1.append_right u).trans List.perm_append_comm;have f:=e.append_right w;simpa using f
theorem ZhZ {E:El α} {v c:Value} {xs:List α} {k:Int} {y x0:α} {p:Addr} {K:Heap->Prop} (st:S ψ h0 h (.it E [c] y::os)) (i:Nat) (g:os[i]?=some (.it (El.ow E) [v] xs)) (hp:AddrOf v k 1 p) (j:gIdx xs k=some x0) (hz:E.z=1)
  (e:∀ a,S ψ h0 a (os.set i (.it (El.ow E) [v] (xs.set k.toNat y)))->K a):vStore1 h p c K:=ZyE (cs:=[c]) st i g hp j hz e
def loV (lo:Option Int):Option Value:=lo.map (Value.int .i64)
theorem ZfD {a:Option Addr} {n c z:Nat} {lo hi:Option Int} {K:Value->Prop} (j:n<=c) (h1:0<=lo.getD 0) (e:lo.getD 0<=hi.getD n) (f:hi.getD n<=n)
  (g:K (.slice (bif Nat.beq c (lo.getD 0).toNat then a else a.map (·.add ((lo.getD 0).toNat*z))) ((hi.getD n).toNat-(lo.getD 0).toNat) (c-(lo.getD 0).toNat))):vSliceS (.slice a n c) z (loV lo) (loV hi) none K:=by
 unfold vSliceS vBound loV;cases hi with
 | none=>
  cases lo with
  | none=>simpa using g
  | some l=>
   simp only [Option.map_none,Option.map_some,Option.getD_none,Option.getD_some] at *;exact ⟨⟨h1,by omega⟩,by simpa using g⟩
 | some x=>
  cases lo with
  | none=>
   simp only [Option.map_none,Option.map_some,Option.getD_none,Option.getD_some] at *;exact ⟨⟨e,by omega⟩,g⟩
  | some l=>
   simp only [Option.map_some,Option.getD_some] at *;exact ⟨⟨by omega,by omega⟩,⟨h1,by omega⟩,g⟩
theorem ZgU {φ:CM} {E:El α} {v:Value} {xs ys:List α} {z:Nat} (lo hi:Option Int) (ha:SlC φ E v xs) (hs:gSl xs (lo.getD 0) (hi.getD xs.length)=some ys) (hz:E.z=z) {K:Value->Prop} (hk:∀ u,SlC φ E u ys->K u):vSliceS v z (loV lo) (loV hi) none K:=by
 obtain ⟨⟨h1,f,g⟩,rfl⟩:=ZkL hs;subst hz;rcases ha with ⟨rfl,rfl⟩|⟨a,c,rfl,k,hel⟩
 ·refine ZfD (Nat.le_refl _) h1 f g (hk _ ?_);simp only [List.length_nil] at g f;have l:(lo.getD 0).toNat=0:=ω;have o:(hi.getD ((0:Nat):Int)).toNat=0:=ω;rw [l,o];exact .inl ⟨by simp,by simp⟩
 ·refine ZfD k h1 f g (hk _ ?_);by_cases hm:c=(lo.getD 0).toNat
  ·have j:Nat.beq c (lo.getD 0).toNat=true:=by rw [<-hm];exact Nat.beq_refl c
   rw [j];have hl:((xs.take (hi.getD ↑xs.length).toNat).drop (lo.getD 0).toNat)=[]:=by
    apply List.eq_nil_of_length_eq_zero;rw [List.length_drop,List.length_take];omega
   rw [hl];exact .inr ⟨a,c-(lo.getD 0).toNat,by simp;omega,by simp,fun i x e=>by simp at e⟩
  ·have j:Nat.beq c (lo.getD 0).toNat=false:=by
    cases hh:Nat.beq c (lo.getD 0).toNat with
    | false=>rfl
    | true=>exact absurd (Nat.eq_of_beq_eq_true hh) hm
   rw [j];refine .inr ⟨a.add ((lo.getD 0).toNat*E.z),c-(lo.getD 0).toNat,?_,?_,fun i x e=>?_⟩
   ·have:(List.drop (lo.getD 0).toNat (List.take (hi.getD ↑xs.length).toNat xs)).length=(hi.getD ↑xs.length).toNat-(lo.getD 0).toNat:=by rw [List.length_drop,List.length_take];omega
    rw [this];rfl
   ·rw [List.length_drop,List.length_take];omega
   ·rw [List.getElem?_drop] at e;have w:=ZY e;rw [List.length_take] at w;rw [List.getElem?_take,if_pos ω] at e;obtain ⟨cs,r,s⟩:=hel _ x e;refine ⟨cs,?_,s⟩;rw [ZeL];rwa [Nat.add_mul] at r
theorem ZID {E:El α} {v:Value} {xs j:List α} {z:Nat} (lo hi:Option Int) (st:S ψ h0 h os) (i:Nat) (o:os[i]?=some (.it (El.sl E) [v] xs)) (hs:gSl xs (lo.getD 0) (hi.getD xs.length)=some j) (hz:E.z=z) {K:Value->Prop}
  (k:∀ g,S ψ h0 h (.it (El.sl E) [g] j::os)->K g):vSliceS v z (loV lo) (loV hi) none K:=by
 obtain ⟨l,L,s,r⟩:=st;obtain ⟨w,x,u,e,a,_,_⟩:=r.at o;exact ZgU lo hi (El.sl_to a) hs hz fun g c=>k g ⟨l,L,s,[],L,rfl,El.sl_of c,r⟩
theorem AllR.drop {g:CM} {E:El α}:∀ (l:Nat) {L:Rws} {css:List (List Value)} {xs:List α},AllR g E L css xs->∃ L',L'.Sublist L/\AllR g E L' (css.drop l) (xs.drop l)
 | 0,L,_,_,h=>⟨L,List.Sublist.refl _,h⟩
 | l+1,L,[],[],h=>⟨L,List.Sublist.refl _,h⟩
 | l+1,L,_::_,_::_,⟨L1,L2,h1,_,a⟩=>by
  obtain ⟨L',c,e⟩:=AllR.drop l a;exact ⟨L',by rw [h1];exact c.trans (List.sublist_append_right ..),e⟩
 | _+1,_,[],_::_,h=>h.elim
 | _+1,_,_::_,[],h=>h.elim
theorem AllR.take {g:CM} {E:El α}:∀ (l:Nat) {L:Rws} {css:List (List Value)} {xs:List α},AllR g E L css xs->∃ L',L'.Sublist L/\AllR g E L' (css.take l) (xs.take l)
 | 0,L,_,_,_=>⟨[],List.nil_sublist _,rfl⟩
 | l+1,L,[],[],h=>⟨L,List.Sublist.refl _,h⟩
 | l+1,L,_::_,_::_,⟨L1,L2,h1,a,c⟩=>by
  obtain ⟨L',e,f⟩:=AllR.take l c;exact ⟨L1++L',by rw [h1];exact List.Sublist.append (List.Sublist.refl _) e,L1,L',rfl,a,f⟩
 | _+1,_,[],_::_,h=>h.elim
 | _+1,_,_::_,[],h=>h.elim
theorem ZeE {E:El α} {a:CM} {L:Rws} {css:List (List Value)} {xs:List α} (h:AllR a E L css xs) (l:Nat):(css.take l).flatten.length=(xs.take l).length*E.z:=by
 obtain ⟨L',_,g⟩:=h.take l;exact g.flat
theorem cut_S {E:El α} {v:Value} {xs ys:List α} {z:Nat} (lo hi:Option Int) (st:S ψ h0 h os) (i:Nat) (ho:os[i]?=some (.it (El.ow E) [v] xs)) (hs:gSl xs (lo.getD 0) (hi.getD xs.length)=some ys) (hz:E.z=z) {K:Value->Prop}
  (hk:∀ v',S ψ h0 h (os.set i (.it (El.ow E) [v'] ys))->K v'):vSliceS v z (loV lo) (loV hi) none K:=by
 obtain ⟨⟨h1,f,j⟩,rfl⟩:=ZkL hs;subst hz;obtain ⟨φ,L,s,r⟩:=st;obtain ⟨L1,Lo,L2,e,a,_,w⟩:=r.at ho;have a3:∀ v' a1,a1.Sublist Lo->OwnL φ E a1 v' ((xs.take (hi.getD ↑xs.length).toNat).drop (lo.getD 0).toNat)->K v':=fun v' a1 a5 a6=>
  hk v' ⟨φ,L1++a1++L2,s.sub (by rw [e];exact List.Sublist.append (List.Sublist.append (List.Sublist.refl _) a5) (List.Sublist.refl _)),w φ (.it (El.ow E) [v'] _) a1 (CLe.refl _) ⟨v',rfl,a6⟩⟩
 rcases El.ow_to a with ⟨rfl,rfl,rfl⟩|⟨b,c,pre,css,rest,Lr,rfl,x,hrest,rfl,hall⟩
 ·refine ZfD (Nat.le_refl _) h1 f j (a3 _ [] (List.Sublist.refl _) ?_);simp only [List.length_nil] at j f;have e:(lo.getD 0).toNat=0:=ω;have a:(hi.getD ((0:Nat):Int)).toNat=0:=ω;rw [e,a];exact .inl ⟨by simp,by simp,rfl⟩
 ·refine ZfD x h1 f j ?_;generalize hL:(lo.getD 0).toNat=l;generalize hH:(hi.getD ↑xs.length).toNat=m;rw [hL,hH] at a3;have ar:l<=m:=ω;have ac:m<=xs.length:=ω;by_cases hm:c=l
  ·have k:Nat.beq c l=true:=by rw [hm];exact Nat.beq_refl l
   rw [k];have hl:(xs.take m).drop l=[]:=by
    apply List.eq_nil_of_length_eq_zero;rw [List.length_drop,List.length_take];omega
   rw [hl] at a3;refine a3 _ [(b,Row.cs (pre++css.flatten++rest))] (List.Sublist.cons_cons _ (List.nil_sublist _)) (.inr ⟨b,c-l,pre,[],css.flatten++rest,[],?_,by simp,?_,by simp,rfl⟩)
   ·simp;omega
   ·rw [hm];simp
  ·have k:Nat.beq c l=false:=by
    cases hh:Nat.beq c l with
    | false=>rfl
    | true=>exact absurd (Nat.eq_of_beq_eq_true hh) hm
   rw [k];obtain ⟨La,y,a2⟩:=hall.take m;obtain ⟨Lb,b1,b2⟩:=a2.drop l;have a7:(css.take l).flatten.length=l*E.z:=by rw [ZeE hall l,List.length_take];congr 1;omega
   have a4:css.flatten=(css.take l).flatten++((css.take m).drop l).flatten++(css.drop m).flatten:=by
    have e:css=css.take m++css.drop m:=(List.take_append_drop m css).symm;have a:css.take m=(css.take m).take l++(css.take m).drop l:=(List.take_append_drop l _).symm;have e3:(css.take m).take l=css.take l:=by rw [List.take_take];congr 1;omega
    rw [e3] at a;have o:=congrArg List.flatten e;have u:=congrArg List.flatten a;rw [List.flatten_append] at o u;rw [o,u]
   have aa:(css.drop m).flatten.length=(xs.length-m)*E.z:=by
    obtain ⟨_,_,g⟩:=hall.drop m;rw [g.flat,List.length_drop]
   refine a3 _ ((b,.cs (pre++css.flatten++rest))::Lb) (List.Sublist.cons_cons _ (b1.trans y)) (.inr ⟨b,c-l,pre++(css.take l).flatten,(css.take m).drop l,(css.drop m).flatten++rest,Lb,?_,?_,?_,?_,b2⟩)
   ·have:(List.drop l (List.take m xs)).length=m-l:=by rw [List.length_drop,List.length_take];omega
    rw [this,List.length_append,a7];simp [ZP]
   ·rw [List.length_drop,List.length_take];omega
   ·rw [List.length_drop,List.length_take,List.length_append,aa,Nat.min_eq_left ac];have:(c-l-(m-l))*E.z=(c-xs.length)*E.z+(xs.length-m)*E.z:=by rw [<-Nat.add_mul];congr 1;omega
    omega
   ·rw [a4];simp
theorem joinS {e:CM} {L:Rws} {k:Heap} {g:List Ob} (s:S0 ψ h0 h e L) (r:Rel e os L) (t:S e h k g):S ψ h0 k (g++os):=by
 obtain ⟨j,M,a,c⟩:=t;exact ⟨j,M++L,s.call a,Rel.app (r.mono a.bas) c⟩
theorem join0 {a:CM} {L:Rws} {e:Heap} (s:S0 ψ h0 h a L) (r:Rel a os L) (t:S a h e []):S ψ h0 e os:=joinS s r t
theorem join1 {e:CM} {L:Rws} {g:Heap} {a:Ob} (s:S0 ψ h0 h e L) (r:Rel e os L) (t:S e h g [a]):S ψ h0 g (a::os):=joinS s r t
theorem join2 {e:CM} {L:Rws} {g:Heap} {a b:Ob} (s:S0 ψ h0 h e L) (r:Rel e os L) (t:S e h g [a,b]):S ψ h0 g (a::b::os):=joinS s r t
theorem join3 {e:CM} {L:Rws} {g:Heap} {a b c:Ob} (s:S0 ψ h0 h e L) (r:Rel e os L) (t:S e h g [a,b,c]):S ψ h0 g (a::b::c::os):=joinS s r t
theorem join4 {g:CM} {L:Rws} {j:Heap} {a c e f:Ob} (s:S0 ψ h0 h g L) (r:Rel g os L) (t:S g h j [a,c,e,f]):S ψ h0 j (a::c::e::f::os):=joinS s r t
theorem frF {e:CM} {L:Rws} {E:El α} {v:Value} {xs:List α} (r:Rel e os L) (i:Nat) (g:os[i]?=some (.it (El.sl E) [v] xs)):SlC e E v xs:=by
 obtain ⟨_,j,_,_,a,_,_⟩:=r.at g;exact El.sl_to a
theorem S.arg {E:El α} {v:Value} {xs:List α} (st:S ψ h0 h os) (a:SlC ψ E v xs):S ψ h0 h (.it (El.sl E) [v] xs::os):=by
 obtain ⟨e,L,s,r⟩:=st;exact ⟨e,L,s,[],L,rfl,El.sl_of (a.mono s.bas),r⟩
def El.pair {o:Type} (E:El α) (F:El o):El (α×o) where
 z:=E.z+F.z
 R:=fun k L cs x=>∃ c1 c2 j g,cs=c1++c2/\L=j++g/\E.R k j c1 x.1/\F.R k g c2 x.2
 mono:=fun l ⟨c1,c2,j,g,h1,e,a,c⟩=>⟨c1,c2,j,g,h1,e,E.mono l a,F.mono l c⟩
 len:=fun ⟨c1,c2,j,g,h1,e,a,c⟩=>by rw [h1,List.length_append,E.len a,F.len c]
 one:=fun ⟨c1,c2,j,g,h1,e,a,c⟩ v f=>by
  rw [h1] at f;rcases List.mem_append.1 f with h|h
  ·exact E.one a v h
  ·exact F.one c v h
 zc:=E.zc++F.zc
 zx:=(E.zx,F.zx)
 hz:=fun k=>⟨_,_,[],[],rfl,rfl,E.hz k,F.hz k⟩
def El.iso {e:Type} (E:El α) (f:e->α) (z:e) (hz:f z=E.zx):El e where
 z:=E.z
 R:=fun a L cs x=>E.R a L cs (f x)
 mono:=fun g h=>E.mono g h
 len:=fun h=>E.len h
 one:=fun h=>E.one h
 zc:=E.zc
 zx:=z
 hz:=fun a=>by rw [hz];exact E.hz a
theorem Zp {o:Type} {E j:El α} {F k:El o} (h1:Frz E j) (a:Frz F k):Frz (El.pair E F) (El.pair j k):=by
 refine ⟨by show E.z+F.z=j.z+k.z;rw [h1.1,a.1],fun w L cs x ⟨c1,c2,u,r,c,e,f,g⟩ l=>?_⟩;subst e;exact ⟨c1,c2,[],[],c,rfl,h1.2 _ _ _ _ f l.left,a.2 _ _ _ _ g l.right⟩
theorem Z3 {e:Type} {E a:El α} {f:e->α} {z:e} {hz:f z=E.zx} {g:f z=a.zx} (h:Frz E a):Frz (El.iso E f z hz) (El.iso a f z g):=⟨h.1,fun k L cs x l j=>h.2 k L cs (f x) l j⟩
theorem ZEc {k:Type} {E:El α} {F:El k} (h1:Plain E) (c:Plain F):Plain (El.pair E F):=by
 intro j ψ L cs x ⟨c1,c2,L1,L2,e,f,g,i⟩;have a:=h1 j ψ _ _ _ g;have b:=c j ψ _ _ _ i;exact ⟨by rw [f,a.1,b.1];rfl,c1,c2,[],[],e,rfl,a.2,b.2⟩
theorem Zy7 {a:Type} {E:El α} {f:a->α} {z:a} {hz:f z=E.zx} (h:Plain E):Plain (El.iso E f z hz):=fun e ψ L cs x g=>h e ψ L cs (f x) g
theorem S.weak {e:CM} (t:S e h0 h []) (k:CLe ψ (hcell h0)):S ψ h0 h []:=by
 have a:=t.ext;have st:S ψ h0 h0 []:=sZ k;obtain ⟨j,L,s,r⟩:=st;exact ⟨j,L,⟨a,fun b c g=>(s.row b c g).ext a,s.low,s.nod,s.fle.trans (CLe.ext a),s.dis,s.bas,s.old⟩,r⟩
theorem bifP {ρ:Type} {c:Bool} {a b:Option ρ} {r:ρ} {A B:Prop} (hp:(bif c then a else b)=some r) (g:c=true->a=some r->A) (e:c=false->b=some r->B):brn c A B:=by
 cases c with
 | true=>exact g rfl hp
 | false=>exact e rfl hp
theorem Rel.split {l:CM}:∀ {os:List Ob} {L:Rws},Rel l os L->∃ j:List Rws,L=j.flatten/\∀ (i:Nat) o,os[i]?=some o->∃ k,j[i]?=some k/\o.ok l k
 | [],L,h=>⟨[],h,fun i o g=>by simp at g⟩
 | o::os,L,⟨L1,L2,h1,a,c⟩=>by
  obtain ⟨j,e,f⟩:=Rel.split c;refine ⟨L1::j,by rw [h1,e];rfl,fun i r g=>?_⟩;cases i with
  | zero=>simp at g;subst g;exact ⟨L1,rfl,a⟩
  | succ i=>exact f i r (by simpa using g)
theorem Zup {g:List Rws} {i:Nat} {e:Rws} (h:g[i]?=some e) {x:Nat×Row} (a:x∈e):x∈g.flatten:=List.mem_flatten.2 ⟨e,List.mem_of_getElem? h,a⟩
theorem ZjJ:∀ {l:List Rws} {i j:Nat} {r o:Rws},(Rws.bs l.flatten).Nodup->l[i]?=some r->l[j]?=some o->i≠j->∀ b,b∈r.bs->b∈o.bs->False
 | [],i,j,r,o,_,hi,_,_,_,_,_=>by simp at hi
 | L::l,i,j,r,o,c,hi,hj,hij,b,h1,a=>by
  have u:Rws.bs (L::l).flatten=L.bs++Rws.bs l.flatten:=by unfold Rws.bs;rw [List.flatten_cons,List.map_append]
  rw [u] at c;obtain ⟨n1,n2,e⟩:=List.nodup_append.1 c;have w:∀ {k:Nat} {Lk:Rws},l[k]?=some Lk->b∈Lk.bs->b∈Rws.bs l.flatten:=fun hk f=>by
   obtain ⟨x,g,rfl⟩:=List.mem_map.1 f;exact List.mem_map.2 ⟨x,Zup hk g,rfl⟩
  cases i with
  | zero=>
   simp at hi;subst hi;cases j with
   | zero=>exact hij rfl
   | succ j=>exact e _ h1 _ (w (by simpa using hj) a) rfl
  | succ i=>
   cases j with
   | zero=>simp at hj;subst hj;exact e _ a _ (w (by simpa using hi) h1) rfl
   | succ j=>exact ZjJ n2 (by simpa using hi) (by simpa using hj) ω b h1 a
theorem Zv3:∀ {e:List Rws} {i:Nat} {g:Rws},(Rws.bs e.flatten).Nodup->e[i]?=some g->g.bs.Nodup
 | [],i,g,_,hi=>by simp at hi
 | L::e,i,g,a,hi=>by
  have j:Rws.bs (L::e).flatten=L.bs++Rws.bs e.flatten:=by unfold Rws.bs;rw [List.flatten_cons,List.map_append]
  rw [j] at a;obtain ⟨n1,n2,c⟩:=List.nodup_append.1 a;cases i with
  | zero=>simp at hi;subst hi;exact n1
  | succ i=>exact Zv3 n2 (by simpa using hi)
theorem ZwE {φ:CM} {os:List Ob} {Ls:List Rws} (g:(Rws.bs Ls.flatten).Nodup) (hs:∀ (i:Nat) o,os[i]?=some o->∃ Li,Ls[i]?=some Li/\o.ok φ Li):∀ (is:List Nat),is.Nodup ->
  ∃ M:Rws,Rel φ (is.filterMap fun i=>os[i]?) M/\M.bs.Nodup/\(∀ x∈M,x∈Ls.flatten)/\∀ b∈M.bs,∃ i∈is,∃ Li,Ls[i]?=some Li/\b∈Li.bs
 | [],_=>⟨[],rfl,by simp [Rws.bs],(fun x j=>by cases j),fun b c=>by simp [Rws.bs] at c⟩
 | i::is,hnd=>by
  obtain ⟨h1,w⟩:=List.nodup_cons.1 hnd;obtain ⟨M,s,u,v,l⟩:=ZwE g hs is w;cases ho:os[i]? with
  | none=>
   rw [List.filterMap_cons,ho];exact ⟨M,s,u,v,fun b c=>by obtain ⟨k,hk,r⟩:=l b c;exact ⟨k,List.mem_cons_of_mem _ hk,r⟩⟩
  | some o=>
   obtain ⟨Li,f,y⟩:=hs i o ho;rw [List.filterMap_cons,ho];have a3:Rws.bs (Li++M)=Li.bs++M.bs:=by unfold Rws.bs;rw [List.map_append]
   refine ⟨Li++M,⟨Li,M,rfl,y,s⟩,?_,fun x j=>?_,fun b c=>?_⟩
   ·rw [a3];refine List.nodup_append.2 ⟨Zv3 g f,u,fun a ha b c e=>?_⟩;subst e;obtain ⟨k,hk,Lk,g1,g2⟩:=l a c;exact ZjJ g f g1 (fun e=>h1 (e▸hk)) a ha g2
   ·rcases List.mem_append.1 j with h|h
    ·exact Zup f h
    ·exact v x h
   ·rw [a3] at c;rcases List.mem_append.1 c with h|h
    ·exact ⟨i,List.mem_cons_self ..,Li,f,h⟩
    ·obtain ⟨k,hk,r⟩:=l b h;exact ⟨k,List.mem_cons_of_mem _ hk,r⟩
theorem S.pick (st:S ψ h0 h os) (is:List Nat) (k:is.Nodup):S ψ h0 h (is.filterMap fun i=>os[i]?):=by
 obtain ⟨o,L,s,r⟩:=st;obtain ⟨l,rfl,hs⟩:=r.split;obtain ⟨M,e,f,c,_⟩:=ZwE s.nod hs is k;have a:∀ b,b∈M.bs->b∈Rws.bs l.flatten:=fun b a=>by
  obtain ⟨x,g,rfl⟩:=List.mem_map.1 a;exact List.mem_map.2 ⟨x,c x g,rfl⟩
 exact ⟨o,M,⟨s.ext,fun b cs j=>s.row b cs (c _ j),fun b j=>s.low b (a b j),f,s.fle,fun p u hp j=>s.dis p u hp (a _ j),s.bas,s.old⟩,e⟩
theorem S.clear (st:S ψ h0 h os):S ψ h0 h []:=st.pick [] (by simp)
theorem ZAO {b:Int} {u:Unit} (h:gNz b=some u):b≠0:=by unfold gNz at h;split at h<;>first|assumption|cases h
theorem Zia {b:Int} {u:Unit} (h:gNn b=some u):0<=b:=by unfold gNn at h;split at h<;>first|assumption|cases h
theorem ZD1 {a b:ByteArray} {u:Unit} (h:gFit a b=some u):((a.size+b.size:Nat):Int)<=IntKind.i64.max:=by unfold gFit at h;split at h<;>first|assumption|cases h
theorem Zxn {s:ByteArray} {i:Int} {c:UInt8} (h:gSt s i=some c) {K:UInt8->Prop} (e:K c):vStrIdx s i K:=by
 obtain ⟨h1,a⟩:=ZAN h;exact ⟨c,h1,a,e⟩
theorem Zn8 {s t:ByteArray} (lo hi:Option Int) (h:gStSl s (lo.getD 0) (hi.getD s.size)=some t) {K:ByteArray->Prop} (e:K t):vSliceStr s (loV lo) (loV hi) K:=by
 obtain ⟨⟨h1,a,c⟩,rfl⟩:=ZEt h;unfold vSliceStr vBound loV;cases hi with
 | none=>
  cases lo with
  | none=>simpa using e
  | some l=>
   simp only [Option.map_none,Option.map_some,Option.getD_none,Option.getD_some] at *;exact ⟨⟨h1,by omega⟩,by simpa using e⟩
 | some x=>
  cases lo with
  | none=>
   simp only [Option.map_none,Option.map_some,Option.getD_none,Option.getD_some] at *;exact ⟨⟨a,by omega⟩,e⟩
  | some l=>
   simp only [Option.map_some,Option.getD_some] at *;exact ⟨⟨by omega,by omega⟩,⟨h1,by omega⟩,e⟩
theorem S.nilO {E:El α} (st:S ψ h0 h os):S ψ h0 h (.it (El.ow E) [.slice none 0 0] []::os):=st.nil E
theorem S.copyF {E:El α} {cs:List Value} {x:List α} (st:S ψ h0 h os) (i:Nat) (j:os[i]?=some (.it (El.sl E) cs x)):S ψ h0 h (.it (El.sl E) cs x::os):=by
 obtain ⟨g,L,s,r⟩:=st;obtain ⟨o,k,l,e,a,_,_⟩:=r.at j;have c:k=[]:=a.1;subst c;exact ⟨g,L,s,[],L,rfl,a,r⟩
theorem CellsC.part {g:CM} {p:Addr} {cs:List Value} (off n:Nat) (a:CellsC g p cs):CellsC g (p.add off) ((cs.drop off).take n):=by
 intro j u e;have k:=ZY e;rw [List.length_take] at k;rw [List.getElem?_take,if_pos ω,List.getElem?_drop] at e;rw [ZeL];exact a _ _ e
theorem S.leF (st:S ψ h0 h os):CLe ψ (hcell h):=by obtain ⟨a,L,s,_⟩:=st;exact s.bas.trans s.fle
theorem omap {a e:Type} {o:Option a} {f:a->e} {y:e} (h:o.map f=some y):∃ x,o=some x/\f x=y:=by
 cases o with
 | none=>cases h
 | some x=>exact ⟨x,rfl,Option.some.inj h⟩
theorem ZcM {k:Type} {E:El α} {F:El k} {g:CM} {j e:Rws} {c1 c2:List Value} {x:α} {y:k} (h1:E.R g j c1 x) (a:F.R g e c2 y):(El.pair E F).R g (j++e) (c1++c2) (x,y):=⟨c1,c2,j,e,rfl,rfl,h1,a⟩
theorem Zmk {a:CM} {k:IntKind} {x:Int}:(El.int k).R a [] [.int k x] x:=⟨rfl,rfl⟩
theorem ZjL {a:CM} {x:ByteArray}:El.str.R a [] [.string x] x:=⟨rfl,rfl⟩
theorem Zsh {g:CM} {E:El α} {v:Value} {xs:List α} (j:SlC g E v xs) {K:Bool->Prop} (h1:v=.slice none 0 0->xs=[]->K true) (e:K false):vNilS false v K:=by
 rcases j with ⟨rfl,rfl⟩|⟨a,c,rfl,_⟩
 ·exact h1 rfl rfl
 ·exact e
def UB (ψ:CM) (h0:Heap):CM:=fun p=>match ψ p with
 | some u=>some u
 | none=>hcell h0 p
theorem ub_le {e:CM} (h1:CLe ψ e) (a:CLe (hcell h0) e):CLe (UB ψ h0) e:=fun p u hp=>by
 unfold UB at hp;split at hp
 ·rename_i w g;cases hp;exact h1 p _ g
 ·exact a p u hp
theorem S.leU (st:S ψ h0 h os):CLe (UB ψ h0) (hcell h):=ub_le st.leF st.le
theorem S0.ubF {a:CM} {L:Rws} (_s:S0 ψ h0 h a L):CLe a (UB a h0):=fun p u hp=>by unfold UB;rw [hp]
theorem S0.ubH {e:CM} {L:Rws} (s:S0 ψ h0 h e L):CLe (hcell h0) (UB e h0):=fun p u hp=>by
 unfold UB;cases c:e p with
 | none=>exact hp
 | some w=>
  have h1:=s.fle p w c;have a:=Zf5 s.ext hp;rw [h1] at a;exact a
theorem S0.ubU {a:CM} {L:Rws} (s:S0 ψ h0 h a L):CLe (UB ψ h0) (UB a h0):=ub_le (s.bas.trans s.ubF) s.ubH
theorem S0.upS {a:CM} {L:Rws} (s:S0 ψ h0 h a L) (r:Rel a os L):S a h0 h os:=
 ⟨a,L,⟨s.ext,s.row,s.low,s.nod,s.fle,s.dis,CLe.refl _,fun _ _ hp _=>hp⟩,r⟩
theorem S0.downS {j:CM} {L:Rws} {k:Heap} {e:List Ob} (s:S0 ψ h0 h j L) (t:S j h0 k e):S ψ h0 k e:=by
 obtain ⟨g,M,a,c⟩:=t;exact ⟨g,M,⟨a.ext,a.row,a.low,a.nod,a.fle,a.dis,s.bas.trans a.bas,fun p u hp l=>s.old p u (a.old p u hp l) l⟩,c⟩
theorem ZxN {g:Type 1} (l:List g):∀ n,(List.range' n (l.length-n)).filterMap (fun i=>l[i]?)=l.drop n:=by
 intro n;induction hk:l.length-n generalizing n with
 | zero=>rw [List.drop_of_length_le ω];rfl
 | succ k e=>
  have a:n<l.length:=ω;rw [List.range'_succ,List.filterMap_cons,List.drop_eq_getElem_cons a];have:l[n]?=some l[n]:=by simp [a]
  rw [this];have:=e (n+1) ω;simp only;rw [this]
theorem S.pickT (st:S ψ h0 h os) (n:Nat) (is:List Nat) (g:is.Nodup) (c:∀ i∈is,i<n):S ψ h0 h ((is.filterMap fun i=>os[i]?)++os.drop n):=by
 have:=st.pick (is++List.range' n (os.length-n)) (by
  refine List.nodup_append.2 ⟨g,List.nodup_range',fun a k b j e=>?_⟩;subst e;have h1:=c a k;have f:=List.mem_range'_1.1 j;omega)
 rw [List.filterMap_append,ZxN] at this;exact this
def Hd (h:Heap) (v:Value) (i:Int) (u:Value):Prop:=∃ a n c,v=.slice (some a) n c/\hcell h (a.add (i.toNat*1))=some u
theorem ZpU {E:El α} {φ:CM} {Lo:Rws} {v:Value} {o:List (List α)} {i:Int} {xs:List α} (a7:RowsC (hcell h) Lo) (ho:OwnL φ (El.ow E) Lo v o) (f:gIdx o i=some xs):
  ∃ (b c:Nat) (pre:List Value) (r:List (List Value)) (u:Value) (po:List (List Value)) (l:List Value) (M1 Mo M2:Rws),v=.slice (some ⟨b,pre.length,none⟩) o.length c/\o.length<=c/\(c-o.length)*1<=l.length/\Lo=(b,.cs ((pre++r.flatten)++u::(po.flatten++l)))::(M1++Mo++M2)/\r.flatten.length=i.toNat/\OwnL φ E Mo u xs/\hcell h ⟨b,pre.length+i.toNat,none⟩=some u /\
   ∀ w x,OwnL φ E w u x->OwnL φ (El.ow E) ((b,.cs ((pre++r.flatten)++u::(po.flatten++l)))::(M1++w++M2)) v (o.set i.toNat x):=by
 obtain ⟨k,a⟩:=Zax f;rcases ho with ⟨_,rfl,_⟩|⟨b,c,pre,css,l,Lr,rfl,e,hrest,rfl,hall⟩
 ·simp at a
 obtain ⟨d,M1,Mo,M2,r,po,rfl,k2,k3,⟨u,rfl,g⟩,j⟩:=hall.at a;have a9:=AllR.pre_flat r o _ (by rw [<-k2];exact hall);have a1:r.flatten.length=i.toNat:=by rw [a9,k3];exact Nat.mul_one _
 have a6:pre++css.flatten++l=(pre++r.flatten)++u::(po.flatten++l):=by rw [k2];simp
 refine ⟨b,c,pre,r,u,po,l,M1,Mo,M2,rfl,e,hrest,by rw [a6],a1,g,?_,fun w x hm=>.inr ⟨b,c,pre,r++[u]::po,l,M1++w++M2,by simp,by simpa using e,by simpa using hrest,by simp,j [u] w x ⟨u,rfl,hm⟩⟩⟩;refine a7 b _ (List.mem_cons_self ..) _ _ ?_;rw [a6,List.getElem?_append_right (by rw [List.length_append];omega),List.length_append,a1];simp
theorem Za2 {E:El α} {v:Value} {o:List (List α)} {i:Int} {xs:List α} {p:Addr} (st:S ψ h0 h os) (k:Nat) (ho:os[k]?=some (.it (El.ow (El.ow E)) [v] o)) (hp:AddrOf v i 1 p) (f:gIdx o i=some xs) {K:Value->Prop} (x:∀ u,Hd h v i u->K u):ldV h p K:=by
 obtain ⟨φ,L,s,r⟩:=st;obtain ⟨L1,Lo,L2,g,j,_,_⟩:=r.at ho;have w:=s.rows;rw [g] at w;obtain ⟨b,c,pre,pr,u,po,a0,M1,Mo,M2,rfl,_,_,_,_,_,l,_⟩:=ZpU w.left.right (El.ow_to j) f;obtain ⟨a,n,c',e,rfl⟩:=hp;cases e;refine ⟨u,?_,x u ⟨_,_,_,rfl,?_⟩⟩<;>(rw [ZP,Nat.mul_one];exact l)
theorem Hd.eq {v u k:Value} {i:Int} {b n c off:Nat} (f:Hd h v i u) (g:v=.slice (some ⟨b,off,none⟩) n c) (j:hcell h ⟨b,off+i.toNat,none⟩=some k):u=k:=by
 obtain ⟨a,o,l,e,h1⟩:=f;rw [g] at e;cases e;rw [ZP,Nat.mul_one,j] at h1;exact (Option.some.inj h1).symm
theorem S.rowC {E E':El α} {v u:Value} {w:List (List α)} {i:Int} {xs:List α} (st:S ψ h0 h os) (k:Nat) (ho:os[k]?=some (.it (El.ow (El.ow E)) [v] w)) (e:Hd h v i u) (f:gIdx w i=some xs) (hf:Frz E E'):SlC (hcell h) E' u xs:=by
 obtain ⟨φ,L,s,r⟩:=st;obtain ⟨L1,Lo,L2,g,j,_,_⟩:=r.at ho;have hr:=s.rows;rw [g] at hr;have a:=hr.left.right;obtain ⟨b,c,pre,pr,u',po,a6,M1,Mo,M2,l,_,_,a0,_,hm,o,_⟩:=ZpU a (El.ow_to j) f;obtain rfl:=e.eq l o;refine El.sl_to ((ZL hf).2 (hcell h) Mo [u] xs ((El.ow E).mono s.fle ⟨u,rfl,hm⟩) ?_);rw [a0] at a;intro b' row x;exact a b' row (by simp [x])
theorem ZlG {E:El α} {v u f:Value} {a5:List (List α)} {i j:Int} {xs:List α} {x0 y:α} {q:Addr} {K:Heap->Prop} (st:S ψ h0 h os) (k:Nat) (ho:os[k]?=some (.it (El.ow (El.ow E)) [v] a5)) (o:Hd h v i u) (w:gIdx a5 i=some xs) (x:AddrOf u j 1 q) (hj:gIdx xs j=some x0) (hz:E.z=1) (hy:∀ φ,E.R φ [] [f] y)
  (hK:∀ h',S ψ h0 h' (os.set k (.it (El.ow (El.ow E)) [v] (a5.set i.toNat (xs.set j.toNat y))))->K h'):vStore1 h q f K:=by
 obtain ⟨φ,L,s,r⟩:=st;obtain ⟨L1,Lo,L2,l,e2,_,e4⟩:=r.at ho;have hr:=s.rows;rw [l] at hr;obtain ⟨b,c,pre,pr,u',po,ac,M1,Mo,M2,hv,_,_,a9,_,hm,hc,a1⟩:=ZpU hr.left.right (El.ow_to e2) w;obtain rfl:=o.eq hv hc;generalize (b,Row.cs ((pre++pr.flatten)++u::(po.flatten++ac)))=a0 at a9 a1;have s2:S0 ψ h0 h φ (Mo++(L1++a0::M1++(M2++L2))):=s.perm (by
  rw [l,a9];have h1:(L1++a0::M1++Mo).Perm (Mo++(L1++a0::M1)):=List.perm_append_comm;have g:=h1.append_right (M2++L2);simpa using g)
 refine ZkE (cs:=[f]) s2 hm x hz hj (hy φ) fun a e h' s3 aa=>hK h' ⟨φ,L1++(a0::(M1++(a++[]++e)++M2))++L2,s3.perm ?_,e4 φ _ _ (CLe.refl _) ⟨v,rfl,a1 _ _ aa⟩⟩;have h1:((a++e)++(L1++a0::M1)).Perm ((L1++a0::M1)++(a++e)):=List.perm_append_comm;have g:=h1.append_right (M2++L2);simpa using g
def IsView (v:Value) (z l m:Nat) (e:Value):Prop:=(v=.slice none 0 0/\e=.slice none 0 0)\/∃ a n c,v=.slice (some a) n c/\l<=m/\m<=n/\n<=c/\e=.slice (some (bif Nat.beq c l then a else a.add (l*z))) (m-l) (c-l)
theorem Zqe {r:CM} {E:El α} {v:Value} {xs u:List α} {z:Nat} (lo hi:Option Int) (o:SlC r E v xs) (hs:gSl xs (lo.getD 0) (hi.getD xs.length)=some u) {K:Value->Prop} (l:∀ k,IsView v z (lo.getD 0).toNat (hi.getD xs.length).toNat k->K k):vSliceS v z (loV lo) (loV hi) none K:=by
 obtain ⟨⟨h1,e,f⟩,rfl⟩:=ZkL hs;rcases o with ⟨rfl,rfl⟩|⟨a,c,rfl,g,hel⟩
 ·refine ZfD (Nat.le_refl _) h1 e f (l _ (.inl ⟨rfl,?_⟩));simp only [List.length_nil] at f e;have i:(lo.getD 0).toNat=0:=ω;have j:(hi.getD ((0:Nat):Int)).toNat=0:=ω;rw [i,j];simp
 ·refine ZfD g h1 e f (l _ (.inr ⟨a,_,c,rfl,by omega,by omega,g,?_⟩));cases Nat.beq c (lo.getD 0).toNat<;>rfl
theorem IsView.sl {w φ:CM} {E:El α} {v u:Value} {xs:List α} {l m:Nat} (g:IsView v E.z l m u) (hs:(v=.slice none 0 0/\xs=[])\/∃ a c,v=.slice (some a) xs.length c/\xs.length<=c/\∀ (i:Nat) x,xs[i]?=some x->∃ cs,CellsC w (a.add (i*E.z)) cs/\E.R φ [] cs x):
  (u=.slice none 0 0/\(xs.take m).drop l=[])\/∃ a c,u=.slice (some a) ((xs.take m).drop l).length c/\((xs.take m).drop l).length<=c/\∀ (i:Nat) x,((xs.take m).drop l)[i]?=some x->∃ cs,CellsC w (a.add (i*E.z)) cs/\E.R φ [] cs x:=by
 rcases hs with ⟨rfl,rfl⟩|⟨a,c,rfl,o,hel⟩
 ·rcases g with ⟨_,rfl⟩|⟨a,n,c,e,_⟩
  ·exact .inl ⟨rfl,by simp⟩
  ·cases e
 ·rcases g with ⟨e,_⟩|⟨a',n,c',e,h1,r,s,rfl⟩
  ·cases e
  cases e;have hl:((xs.take m).drop l).length=m-l:=by rw [List.length_drop,List.length_take];omega
  refine .inr ⟨_,c-l,by rw [hl],by rw [hl];omega,fun i x f=>?_⟩;have a2:=ZY f;rw [hl] at a2;have a1:Nat.beq c l=false:=by
   cases hh:Nat.beq c l with
   | false=>rfl
   | true=>have:=Nat.eq_of_beq_eq_true hh;omega
  rw [a1];rw [List.getElem?_drop,List.getElem?_take,if_pos ω] at f;obtain ⟨cs,j,k⟩:=hel _ x f;refine ⟨cs,?_,k⟩;show CellsC w ((a.add (l*E.z)).add (i*E.z)) cs;rw [ZeL,<-Nat.add_mul];exact j
theorem IsView.C {g:CM} {E:El α} {v e:Value} {xs j:List α} {z:Nat} {lo hi:Int} (a:IsView v z lo.toNat hi.toNat e) (k:SlC g E v xs) (hs:gSl xs lo hi=some j) (hz:E.z=z):SlC g E e j:=by
 obtain ⟨_,rfl⟩:=ZkL hs;subst hz;exact a.sl k
theorem Zyy {E:El α}:∀ (a:CM) (L:Rws) (cs:List Value) (x:List α),(El.sl E).R a L cs x->L=[]:=fun _ _ _ _ h=>h.1
theorem Zf2 (st:S ψ h0 h os) {cs:List Value} {t:TypeId} {K:Addr->Heap->Prop} (g:∀ b a,ExtH h a->S ψ h0 a (.box b cs::os)->K ⟨b,0,none⟩ a):vNew h (.cells cs.toArray t) K:=by
 refine vNew.mk ?_;obtain ⟨e,L,s,r⟩:=st;exact g _ _ (ExtH.push h _) ⟨e,_,s.new cs t,[(h.size,.cs cs)],L,rfl,rfl,r⟩
theorem Ztz {E:El α} {css:List (List Value)} {xs:List α} (st:S ψ h0 h os) {cs:List Value} {t:TypeId} {n:Nat} (j:∀ k,AllR k E [] css xs) (a:css.flatten=cs) (c:xs.length=n) {K:Value->Heap->Prop}
  (l:∀ v g,ExtH h g->S ψ h0 g (.it (El.ow E) [v] xs::os)->K v g):vNewS h (.cells cs.toArray t) n K:=by
 refine vNewS.mk ?_;subst a;subst c;have:=ZaJ (E:=E) (K:=fun v g=>ExtH h g->K v g) (t:=t) st j rfl rfl fun v g s e=>l v g e s;exact this _ _ rfl rfl (ExtH.push h _)
theorem ZqA {E:El α} {bytes:Nat} {zero:List Value} {el:TypeId} {n c:Int} {xs:List α} (st:S ψ h0 h os) (hz:zero=E.zc) (g:gMake bytes E.zx n c=some xs) {K:Value->Heap->Prop}
  (j:∀ v e,ExtH h e->S ψ h0 e (.it (El.ow E) [v] xs::os)->K v e):vMake bytes zero el n c h K:=by
 have:=Zq7 (E:=E) (K:=fun v e=>ExtH h e->K v e) (el:=el) st hz g fun v e s a=>j v e a s;exact ⟨this.1,this.2 (ExtH.push h _)⟩
theorem AllR.frz {E g:El α} (j:Frz E g) {e:CM}:∀ {L:Rws} {css:List (List Value)} {xs:List α},AllR e E L css xs->RowsC e L->AllR e g [] css xs
 | _,[],[],_,_=>rfl
 | _,_::_,_::_,⟨L1,L2,h1,a,c⟩,hr=>by
  subst h1;exact ⟨[],[],rfl,j.2 _ _ _ _ a hr.left,AllR.frz j c hr.right⟩
 | _,[],_::_,h,_=>h.elim
 | _,_::_,[],h,_=>h.elim
theorem S.frzIn {E E':El α} {v:Value} {xs:List α} (st:S ψ h0 h os) (i:Nat) (ho:os[i]?=some (.it (El.ow E) [v] xs)) (hf:Frz E E'):S ψ h0 h (os.set i (.it (El.ow E') [v] xs)):=by
 obtain ⟨φ,L,s,r⟩:=st;obtain ⟨L1,Lo,L2,e,j,_,f⟩:=r.at ho;rcases El.ow_to j with ⟨h1,a,k⟩|⟨b,c,pre,css,rest,Lr,l,o,u,w,x⟩
 ·exact ⟨φ,L1++[]++L2,by rw [<-k,<-e];exact s,f φ (.it (El.ow E') [v] xs) [] (CLe.refl _) ⟨v,rfl,.inl ⟨h1,a,rfl⟩⟩⟩
 ·have s2:S0 ψ h0 h φ (Lr++(L1++[(b,Row.cs (pre++css.flatten++rest))]++L2)):=s.perm (by
   rw [e,w];have h1:(L1++[(b,Row.cs (pre++css.flatten++rest))]++Lr).Perm (Lr++(L1++[(b,Row.cs (pre++css.flatten++rest))])):=List.perm_append_comm;have a:=h1.append_right L2;simpa using a)
  obtain ⟨a3,g,y,g3⟩:=s2.freeze;refine ⟨a3,L1++[(b,Row.cs (pre++css.flatten++rest))]++L2,g3,f a3 (.it (El.ow E') [v] xs) _ g ⟨v,rfl,.inr ⟨b,c,pre,css,rest,[],l,o,by rw [<-hf.1];exact u,rfl,(x.mono g).frz hf y⟩⟩⟩
def HoleL {α:Type} (r:CM) (E:El α) (i:Nat) (u:Value) (L:Rws) (v:Value) (a:List (List α)):Prop:=
 (v=.slice none 0 0/\a=[]/\L=[])\/∃ b c pre g j e l k,v=.slice (some ⟨b,pre.length,none⟩) a.length c/\a.length<=c/\(c-a.length)*1<=e.length/\L=(b,.cs (pre++(g++[u]::j).flatten++e))::(l++k)/\g.length=i /\
  ∀ ψ o x,CLe r ψ->OwnL ψ E o u x->AllR ψ (El.ow E) (l++o++k) (g++[u]::j) (a.set i x)
def El.hole {α:Type} (E:El α) (i:Nat) (u:Value):El (List (List α)) where
 z:=1
 R:=fun φ L cs w=>∃ v,cs=[v]/\HoleL φ E i u L v w
 mono:=fun hl ⟨v,h1,a⟩=>⟨v,h1,by
  rcases a with a|⟨b,c,pre,pr,po,rest,L1,L2,e,f,g,j,k,l⟩
  ·exact .inl a
  ·exact .inr ⟨b,c,pre,pr,po,rest,L1,L2,e,f,g,j,k,fun ψ Lo x r ho=>l ψ Lo x (hl.trans r) ho⟩⟩
 len:=fun ⟨v,h1,_⟩=>by rw [h1];rfl
 one:=fun ⟨v,h1,a⟩ u o=>by
  rw [h1] at o;simp at o;rw [o];rcases a with ⟨rfl,_⟩|⟨b,c,pre,pr,po,rest,L1,L2,rfl,_⟩<;>rfl
 zc:=[.slice none 0 0]
 zx:=[]
 hz:=fun _=>⟨_,rfl,.inl ⟨rfl,rfl,rfl⟩⟩
theorem AllR.atU {E:El α} {φ:CM}:∀ {L:Rws} {css:List (List Value)} {a3:List (List α)} {i:Nat} {x:List α},AllR φ (El.ow E) L css a3->a3[i]?=some x ->
  ∃ u L1 Lo L2 pr po,L=L1++Lo++L2/\css=pr++[u]::po/\pr.length=i/\OwnL φ E Lo u x/\∀ ψ w x',CLe φ ψ->OwnL ψ E w u x'->AllR ψ (El.ow E) (L1++w++L2) (pr++[u]::po) (a3.set i x')
 | _,[],[],i,x,_,a=>by simp at a
 | _,c::cs,y::xs,i,x,⟨L1,L2,h1,e,f⟩,a=>by
  cases i with
  | zero=>
   simp at a;subst a;obtain ⟨u,rfl,g⟩:=e;exact ⟨u,[],L1,L2,[],cs,by simpa using h1,rfl,rfl,g,fun ψ w x' a0 hr=>⟨w,L2,by simp,⟨u,rfl,hr⟩,AllR.mono a0 f⟩⟩
  | succ i=>
   obtain ⟨u,M1,Mo,M2,pre,a5,j,k,l,o,r⟩:=AllR.atU f (by simpa using a);refine ⟨u,L1++M1,Mo,M2,c::pre,a5,by rw [h1,j];simp,by rw [k];rfl,by simp [l],o,fun ψ w x' a0 hr=>?_⟩;exact ⟨L1,M1++w++M2,by simp,(El.ow E).mono a0 e,r ψ w x' a0 hr⟩
 | _,[],_::_,_,_,h,_=>h.elim
 | _,_::_,[],_,_,h,_=>h.elim
theorem foc_S {E:El α} {v u:Value} {a0:List (List α)} {i:Int} {xs:List α} (st:S ψ h0 h os) (k:Nat) (ho:os[k]?=some (.it (El.ow (El.ow E)) [v] a0)) (l:Hd h v i u) (o:gIdx a0 i=some xs):S ψ h0 h (.it (El.ow E) [u] xs::os.set k (.it (El.hole E i.toNat u) [v] a0)):=by
 obtain ⟨g1,a⟩:=Zax o;obtain ⟨φ,L,s,r⟩:=st;obtain ⟨L1,Lo,L2,e,w,_,x⟩:=r.at ho;rcases El.ow_to w with ⟨_,rfl,_⟩|⟨b,c,pre,css,rest,Lr,f,y,f3,g,j⟩
 ·simp at a
 obtain ⟨u',M1,Mo,M2,pr,po,k1,k2,k3,k4,k5⟩:=j.atU a;have a4:=AllR.pre_flat pr a0 Lr (by rw [<-k2];exact j);have hu:u=u':=by
  refine l.eq f ?_;refine s.rows b (pre++css.flatten++rest) (by rw [e,g];simp) _ _ ?_;rw [k2,List.append_assoc,List.getElem?_append_right ω,Nat.add_sub_cancel_left,List.flatten_append,List.append_assoc,List.getElem?_append_right (by rw [a4,k3];show i.toNat*1<=_;omega),a4,k3];rw [show i.toNat-i.toNat*(El.ow E).z=0 by show i.toNat-i.toNat*1=0;omega];rfl
 subst hu;refine ⟨φ,Mo++(L1++((b,.cs (pre++(pr++[u]::po).flatten++rest))::(M1++M2))++L2),s.perm ?_,Mo,_,rfl,⟨u,rfl,k4⟩,x φ (.it (El.hole E i.toNat u) [v] a0) _ (CLe.refl _) ⟨v,rfl,.inr ⟨b,c,pre,pr,po,rest,M1,M2,f,y,f3,rfl,k3,k5⟩⟩⟩;rw [e,g,k1,<-k2];generalize (b,Row.cs (pre++css.flatten++rest))=a3;have h1:(L1++a3::M1++Mo).Perm (Mo++(L1++a3::M1)):=List.perm_append_comm;have h2:=h1.append_right (M2++L2);simpa using h2
theorem unf_S {E:El α} {v u:Value} {a1:List (List α)} {i:Nat} {ys:List α} (st:S ψ h0 h (.it (El.ow E) [u] ys::os)) (k:Nat) (ho:os[k]?=some (.it (El.hole E i u) [v] a1)):S ψ h0 h (os.set k (.it (El.ow (El.ow E)) [v] (a1.set i ys))):=by
 obtain ⟨φ,L,s,Ly,L',rfl,hy,r⟩:=st;obtain ⟨L1,Lo,L2,rfl,f,_,e⟩:=r.at ho;obtain ⟨v',h1,a⟩:=f;simp at h1;subst h1;rcases a with ⟨rfl,rfl,rfl⟩|⟨b,c,pre,pr,po,rest,M1,M2,g,j,l,o,x,w⟩
 ·refine ⟨φ,L1++[]++L2,s.sub (List.sublist_append_right ..),?_⟩;have:=e φ (.it (El.ow (El.ow E)) [.slice none 0 0] []) [] (CLe.refl _) ⟨_,rfl,.inl ⟨rfl,rfl,rfl⟩⟩;simpa using this
 ·have a6:=w φ Ly ys (CLe.refl _) (El.ow_to hy);refine ⟨φ,L1++((b,.cs (pre++(pr++[u]::po).flatten++rest))::(M1++Ly++M2))++L2,s.perm ?_,e φ (.it (El.ow (El.ow E)) [v] (a1.set i ys)) _ (CLe.refl _) ⟨v,rfl,.inr ⟨b,c,pre,pr++[u]::po,rest,M1++Ly++M2,by simpa using g,by simpa using j,by rw [List.length_set];exact l,rfl,a6⟩⟩⟩;rw [o];generalize (b,Row.cs (pre++(pr++[u]::po).flatten++rest))=a5;have h1:(Ly++(L1++a5::M1)).Perm ((L1++a5::M1)++Ly):=List.perm_append_comm;have a:=h1.append_right (M2++L2);simpa using a
end
end Go.Vc
