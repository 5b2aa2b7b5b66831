import Derived.Test.YtahnjnfpjcfklaaGreatDoorVcS2
namespace Go.Vc
set_option linter.unusedVariables false
set_option linter.unusedSimpArgs false
open Go
section
variable {ψ:CM} {h0 h:Heap} {os:List Ob} {α:Type}
theorem AllR.pre_flat {φ:CM} {E:El α} {d:List Value} {g:List (List Value)}:∀ (q:List (List Value)) (y:List α) (M:Rws),AllR φ E M (q++d::g) y->q.flatten.length=q.length*E.z
 | [],_,_,_=>by simp
 | a::q,[],_,h=>h.elim
 | a::q,f::y,M,⟨_,_,_,e,k3⟩=>by
  rw [List.flatten_cons,List.length_append,E.len e,AllR.pre_flat q y _ k3,List.length_cons,Nat.add_mul];omega
theorem Zh1 {E:El α} {φ:CM} {z:Nat} {rows M Ly:Rws} {v:Value} {cs:List Value} {xs:List α} {k:Int} {y j:α} {p:Addr} {K:Heap->Prop}
  (s:S0 ψ h0 h φ (rows++M)) (ho:OwnL φ E rows v xs) (hp:AddrOf v k z p) (hz:E.z=z) (hk:gIdx xs k=some j) (hy:E.R φ Ly cs y)
  (hK:∀ f g h',S0 ψ h0 h' φ (f++g++M)->OwnL φ E (f++Ly++g) v (xs.set k.toNat y)->K h'):vStoreN p cs 0 h K:=by
 subst hz;obtain ⟨g1,l⟩:=ZaK hk;obtain ⟨a,n,c,rfl,rfl⟩:=hp;rcases ho with ⟨e,_⟩|⟨b,c,pre,css,rest,Lr,e,o,hrest,rfl,hall⟩
 ·cases e
 cases e;obtain ⟨d,M1,Mo,M2,pr,po,k1,i,k3,r,u⟩:=hall.at l;have a8:=AllR.pre_flat pr xs Lr (by rw [<-i];exact hall);have hd:=E.len r;have ae:=E.len hy;rw [Z5];have sm:Sta h0 h ((b,.cs ((pre++pr.flatten)++d++(po.flatten++rest)))::(Lr++M)) fun x=>CLe φ (hcell x):=by
  have:=s.sta;rw [i] at this;simpa using this
 refine ZgS cs d (pre++pr.flatten) _ 0 h _ (by rw [List.length_append,a8,k3];rfl) ω (E.one hy) sm fun h' t=>?_;have w:S0 ψ h0 h' φ ((b,.cs ((pre++pr.flatten)++cs++(po.flatten++rest)))::(Lr++M)):=s.of_sta' t rfl;refine hK ((b,.cs ((pre++pr.flatten)++cs++(po.flatten++rest)))::M1) M2 h' (w.sub ?_) (.inr ⟨b,c,pre,pr++cs::po,rest,M1++Ly++M2,?_,?_,?_,?_,u cs Ly y hy⟩)
 ·rw [k1];simp only [List.cons_append,List.append_assoc];refine List.Sublist.cons_cons _ (List.Sublist.append (List.Sublist.refl _) (List.sublist_append_of_sublist_right ?_));exact List.Sublist.refl _
 ·simp
 ·simpa using o
 ·simpa using hrest
 ·simp
theorem stN_S {E:El α} {z:Nat} {v:Value} {cs:List Value} {xs:List α} {k:Int} {y f:α} {p:Addr} {K:Heap->Prop} (st:S ψ h0 h os) (i:Nat) (ho:os[i]?=some (.it (El.ow E) [v] xs)) (hp:AddrOf v k z p) (hk:gIdx xs k=some f) (hz:E.z=z) (hy:∀ φ,E.R φ [] cs y)
  (hK:∀ w,S ψ h0 w (os.set i (.it (El.ow E) [v] (xs.set k.toNat y)))->K w):vStoreN p cs 0 h K:=by
 obtain ⟨φ,L,s,r⟩:=st;obtain ⟨L1,Lo,L2,g,j,_,l⟩:=r.at ho;have o:S0 ψ h0 h φ (Lo++(L1++L2)):=s.perm (by rw [g,<-List.append_assoc];exact List.Perm.append_right _ List.perm_append_comm);refine Zh1 o (El.ow_to j) hp hz hk (hy φ) fun a e w u x=>hK w ⟨φ,L1++(a++e)++L2,u.perm ?_,l φ (.it (El.ow E) [v] (xs.set k.toNat y)) _ (CLe.refl _) ⟨v,rfl,by simpa using x⟩⟩;rw [<-List.append_assoc];exact List.Perm.append_right _ List.perm_append_comm
theorem st1_S {E:El α} {v c:Value} {xs:List α} {k:Int} {y a:α} {p:Addr} {K:Heap->Prop} (st:S ψ h0 h os) (i:Nat) (l:os[i]?=some (.it (El.ow E) [v] xs)) (hp:AddrOf v k 1 p) (o:gIdx xs k=some a) (hz:E.z=1) (j:∀ φ,E.R φ [] [c] y)
  (g:∀ e,S ψ h0 e (os.set i (.it (El.ow E) [v] (xs.set k.toNat y)))->K e):vStore1 h p c K:=stN_S (cs:=[c]) st i l hp o hz j g
theorem Zxv {E:El α} {z:Nat} {v:Value} {cs:List Value} {xs:List α} {k:Int} {y j:α} {p:Addr} {K:Heap->Prop} (st:S ψ h0 h (.it E cs y::os)) (i:Nat) (ho:os[i]?=some (.it (El.ow E) [v] xs)) (hp:AddrOf v k z p) (hk:gIdx xs k=some j) (hz:E.z=z)
  (hK:∀ h',S ψ h0 h' (os.set i (.it (El.ow E) [v] (xs.set k.toNat y)))->K h'):vStoreN p cs 0 h K:=by
 obtain ⟨φ,L,s,x,L',rfl,hy,r⟩:=st;obtain ⟨L1,Lo,L2,rfl,l,_,o⟩:=r.at ho;have u:S0 ψ h0 h φ (Lo++(x++(L1++L2))):=s.perm (by
  have f:(x++L1++Lo).Perm (Lo++(x++L1)):=List.perm_append_comm;have g:=f.append_right L2;simpa using g)
 refine Zh1 u (El.ow_to l) hp hz hk hy fun a e h' w a5=>hK h' ⟨φ,L1++(a++x++e)++L2,w.perm ?_,o φ (.it (El.ow E) [v] (xs.set k.toNat y)) _ (CLe.refl _) ⟨v,rfl,a5⟩⟩;have h1:(a++e++x).Perm (a++x++e):=by
  simp only [List.append_assoc];exact List.perm_append_comm.append_left _
 have f:(a++e++x++L1).Perm (L1++(a++x++e)):=(h1.append_right L1).trans List.perm_append_comm;have g:=f.append_right L2;simpa using g
theorem ZfE {E:El α} {v c:Value} {xs:List α} {k:Int} {y a:α} {p:Addr} {K:Heap->Prop} (st:S ψ h0 h (.it E [c] y::os)) (i:Nat) (l:os[i]?=some (.it (El.ow E) [v] xs)) (hp:AddrOf v k 1 p) (g:gIdx xs k=some a) (hz:E.z=1)
  (j:∀ e,S ψ h0 e (os.set i (.it (El.ow E) [v] (xs.set k.toNat y)))->K e):vStore1 h p c K:=Zxv (cs:=[c]) st i l hp g hz j
def loV (lo:Option Int):Option Value:=lo.map (Value.int .i64)
theorem Ze6 {a:Option Addr} {n c z:Nat} {lo hi:Option Int} {K:Value->Prop} (j:n<=c) (h1:0<=lo.getD 0) (e:lo.getD 0<=hi.getD n) (f:hi.getD n<=n)
  (g:K (.slice (bif Nat.beq c (lo.getD 0).toNat then a else a.map (·.add ((lo.getD 0).toNat*z))) ((hi.getD n).toNat-(lo.getD 0).toNat) (c-(lo.getD 0).toNat))):vSliceS (.slice a n c) z (loV lo) (loV hi) none K:=by
 unfold vSliceS vBound loV;cases hi with
 | none=>
  cases lo with
  | none=>simpa using g
  | some l=>
   simp only [Option.map_none,Option.map_some,Option.getD_none,Option.getD_some] at *;exact ⟨⟨h1,by omega⟩,by simpa using g⟩
 | some x=>
  cases lo with
  | none=>
   simp only [Option.map_none,Option.map_some,Option.getD_none,Option.getD_some] at *;exact ⟨⟨e,by omega⟩,g⟩
  | some l=>
   simp only [Option.map_some,Option.getD_some] at *;exact ⟨⟨by omega,by omega⟩,⟨h1,by omega⟩,g⟩
theorem Zg4 {φ:CM} {E:El α} {v:Value} {xs u:List α} {z:Nat} (lo hi:Option Int) (ha:SlC φ E v xs) (hs:gSl xs (lo.getD 0) (hi.getD xs.length)=some u) (hz:E.z=z) {K:Value->Prop} (hk:∀ v',SlC φ E v' u->K v'):vSliceS v z (loV lo) (loV hi) none K:=by
 obtain ⟨⟨h1,f,g⟩,rfl⟩:=Zg1 hs;subst hz;rcases ha with ⟨rfl,rfl⟩|⟨a,c,rfl,k,hel⟩
 ·refine Ze6 (Nat.le_refl _) h1 f g (hk _ ?_);simp only [List.length_nil] at g f;have l:(lo.getD 0).toNat=0:=ω;have o:(hi.getD ((0:Nat):Int)).toNat=0:=ω;rw [l,o];exact .inl ⟨by simp,by simp⟩
 ·refine Ze6 k h1 f g (hk _ ?_);by_cases w:c=(lo.getD 0).toNat
  ·have j:Nat.beq c (lo.getD 0).toNat=true:=by rw [<-w];exact Nat.beq_refl c
   rw [j];have hl:((xs.take (hi.getD ↑xs.length).toNat).drop (lo.getD 0).toNat)=[]:=by
    apply List.eq_nil_of_length_eq_zero;rw [List.length_drop,List.length_take];omega
   rw [hl];exact .inr ⟨a,c-(lo.getD 0).toNat,by simp;omega,by simp,fun i x e=>by simp at e⟩
  ·have j:Nat.beq c (lo.getD 0).toNat=false:=by
    cases hh:Nat.beq c (lo.getD 0).toNat with
    | false=>rfl
    | true=>exact absurd (Nat.eq_of_beq_eq_true hh) w
   rw [j];refine .inr ⟨a.add ((lo.getD 0).toNat*E.z),c-(lo.getD 0).toNat,?_,?_,fun i x e=>?_⟩
   ·have:(List.drop (lo.getD 0).toNat (List.take (hi.getD ↑xs.length).toNat xs)).length=(hi.getD ↑xs.length).toNat-(lo.getD 0).toNat:=by rw [List.length_drop,List.length_take];omega
    rw [this];rfl
   ·rw [List.length_drop,List.length_take];omega
   ·rw [List.getElem?_drop] at e;have a4:=Z0 e;rw [List.length_take] at a4;rw [List.getElem?_take,if_pos ω] at e;obtain ⟨cs,r,s⟩:=hel _ x e;refine ⟨cs,?_,s⟩;rw [Zel];rwa [Nat.add_mul] at r
theorem ZBh {E:El α} {v:Value} {xs j:List α} {z:Nat} (lo hi:Option Int) (st:S ψ h0 h os) (i:Nat) (k:os[i]?=some (.it (El.sl E) [v] xs)) (hs:gSl xs (lo.getD 0) (hi.getD xs.length)=some j) (hz:E.z=z) {K:Value->Prop}
  (l:∀ g,S ψ h0 h (.it (El.sl E) [g] j::os)->K g):vSliceS v z (loV lo) (loV hi) none K:=by
 obtain ⟨φ,L,s,r⟩:=st;obtain ⟨o,u,w,f,a,_,_⟩:=r.at k;exact Zg4 lo hi (El.sl_to a) hs hz fun g e=>l g ⟨φ,L,s,[],L,rfl,El.sl_of e,r⟩
theorem AllR.drop {φ:CM} {E:El α}:∀ (l:Nat) {L:Rws} {css:List (List Value)} {xs:List α},AllR φ E L css xs->∃ L',L'.Sublist L/\AllR φ E L' (css.drop l) (xs.drop l)
 | 0,L,_,_,h=>⟨L,List.Sublist.refl _,h⟩
 | l+1,L,[],[],h=>⟨L,List.Sublist.refl _,h⟩
 | l+1,L,_::_,_::_,⟨L1,L2,h1,_,a⟩=>by
  obtain ⟨L',e,f⟩:=AllR.drop l a;exact ⟨L',by rw [h1];exact e.trans (List.sublist_append_right ..),f⟩
 | _+1,_,[],_::_,h=>h.elim
 | _+1,_,_::_,[],h=>h.elim
theorem AllR.take {φ:CM} {E:El α}:∀ (l:Nat) {L:Rws} {css:List (List Value)} {xs:List α},AllR φ E L css xs->∃ L',L'.Sublist L/\AllR φ E L' (css.take l) (xs.take l)
 | 0,L,_,_,_=>⟨[],List.nil_sublist _,rfl⟩
 | l+1,L,[],[],h=>⟨L,List.Sublist.refl _,h⟩
 | l+1,L,_::_,_::_,⟨L1,L2,h1,a,e⟩=>by
  obtain ⟨L',f,g⟩:=AllR.take l e;exact ⟨L1++L',by rw [h1];exact List.Sublist.append (List.Sublist.refl _) f,L1,L',rfl,a,g⟩
 | _+1,_,[],_::_,h=>h.elim
 | _+1,_,_::_,[],h=>h.elim
theorem ZjA {E:El α} {φ:CM} {L:Rws} {css:List (List Value)} {xs:List α} (h:AllR φ E L css xs) (l:Nat):(css.take l).flatten.length=(xs.take l).length*E.z:=by
 obtain ⟨L',_,g⟩:=h.take l;exact g.flat
theorem cut_S {E:El α} {v:Value} {xs ys:List α} {z:Nat} (lo hi:Option Int) (st:S ψ h0 h os) (i:Nat) (ho:os[i]?=some (.it (El.ow E) [v] xs)) (hs:gSl xs (lo.getD 0) (hi.getD xs.length)=some ys) (hz:E.z=z) {K:Value->Prop}
  (hk:∀ v',S ψ h0 h (os.set i (.it (El.ow E) [v'] ys))->K v'):vSliceS v z (loV lo) (loV hi) none K:=by
 obtain ⟨⟨h1,f,j⟩,rfl⟩:=Zg1 hs;subst hz;obtain ⟨φ,L,s,r⟩:=st;obtain ⟨L1,Lo,L2,e,a,_,w⟩:=r.at ho;have a4:∀ v' a3,a3.Sublist Lo->OwnL φ E a3 v' ((xs.take (hi.getD ↑xs.length).toNat).drop (lo.getD 0).toNat)->K v':=fun v' a3 a9 a7=>
  hk v' ⟨φ,L1++a3++L2,s.sub (by rw [e];exact List.Sublist.append (List.Sublist.append (List.Sublist.refl _) a9) (List.Sublist.refl _)),w φ (.it (El.ow E) [v'] _) a3 (CLe.refl _) ⟨v',rfl,a7⟩⟩
 rcases El.ow_to a with ⟨rfl,rfl,rfl⟩|⟨b,c,pre,css,rest,Lr,rfl,x,hrest,rfl,hall⟩
 ·refine Ze6 (Nat.le_refl _) h1 f j (a4 _ [] (List.Sublist.refl _) ?_);simp only [List.length_nil] at j f;have e:(lo.getD 0).toNat=0:=ω;have a:(hi.getD ((0:Nat):Int)).toNat=0:=ω;rw [e,a];exact .inl ⟨by simp,by simp,rfl⟩
 ·refine Ze6 x h1 f j ?_;generalize hL:(lo.getD 0).toNat=l;generalize hH:(hi.getD ↑xs.length).toNat=m;rw [hL,hH] at a4;have aq:l<=m:=ω;have aa:m<=xs.length:=ω;by_cases hm:c=l
  ·have k:Nat.beq c l=true:=by rw [hm];exact Nat.beq_refl l
   rw [k];have hl:(xs.take m).drop l=[]:=by
    apply List.eq_nil_of_length_eq_zero;rw [List.length_drop,List.length_take];omega
   rw [hl] at a4;refine a4 _ [(b,Row.cs (pre++css.flatten++rest))] (List.Sublist.cons_cons _ (List.nil_sublist _)) (.inr ⟨b,c-l,pre,[],css.flatten++rest,[],?_,by simp,?_,by simp,rfl⟩)
   ·simp;omega
   ·rw [hm];simp
  ·have k:Nat.beq c l=false:=by
    cases hh:Nat.beq c l with
    | false=>rfl
    | true=>exact absurd (Nat.eq_of_beq_eq_true hh) hm
   rw [k];obtain ⟨La,a1,y⟩:=hall.take m;obtain ⟨Lb,b1,b2⟩:=y.drop l;have a6:(css.take l).flatten.length=l*E.z:=by rw [ZjA hall l,List.length_take];congr 1;omega
   have a5:css.flatten=(css.take l).flatten++((css.take m).drop l).flatten++(css.drop m).flatten:=by
    have e:css=css.take m++css.drop m:=(List.take_append_drop m css).symm;have a:css.take m=(css.take m).take l++(css.take m).drop l:=(List.take_append_drop l _).symm;have e3:(css.take m).take l=css.take l:=by rw [List.take_take];congr 1;omega
    rw [e3] at a;have o:=congrArg List.flatten e;have u:=congrArg List.flatten a;rw [List.flatten_append] at o u;rw [o,u]
   have ad:(css.drop m).flatten.length=(xs.length-m)*E.z:=by
    obtain ⟨_,_,g⟩:=hall.drop m;rw [g.flat,List.length_drop]
   refine a4 _ ((b,.cs (pre++css.flatten++rest))::Lb) (List.Sublist.cons_cons _ (b1.trans a1)) (.inr ⟨b,c-l,pre++(css.take l).flatten,(css.take m).drop l,(css.drop m).flatten++rest,Lb,?_,?_,?_,?_,b2⟩)
   ·have:(List.drop l (List.take m xs)).length=m-l:=by rw [List.length_drop,List.length_take];omega
    rw [this,List.length_append,a6];simp [Z5]
   ·rw [List.length_drop,List.length_take];omega
   ·rw [List.length_drop,List.length_take,List.length_append,ad,Nat.min_eq_left aa];have:(c-l-(m-l))*E.z=(c-xs.length)*E.z+(xs.length-m)*E.z:=by rw [<-Nat.add_mul];congr 1;omega
    omega
   ·rw [a5];simp
theorem joinS {φ:CM} {L:Rws} {k:Heap} {j:List Ob} (s:S0 ψ h0 h φ L) (r:Rel φ os L) (t:S φ h k j):S ψ h0 k (j++os):=by
 obtain ⟨g,M,a,e⟩:=t;exact ⟨g,M++L,s.call a,Rel.app (r.mono a.bas) e⟩
theorem join0 {φ:CM} {L:Rws} {a:Heap} (s:S0 ψ h0 h φ L) (r:Rel φ os L) (t:S φ h a []):S ψ h0 a os:=joinS s r t
theorem join1 {φ:CM} {L:Rws} {e:Heap} {a:Ob} (s:S0 ψ h0 h φ L) (r:Rel φ os L) (t:S φ h e [a]):S ψ h0 e (a::os):=joinS s r t
theorem join2 {φ:CM} {L:Rws} {e:Heap} {a b:Ob} (s:S0 ψ h0 h φ L) (r:Rel φ os L) (t:S φ h e [a,b]):S ψ h0 e (a::b::os):=joinS s r t
theorem join3 {φ:CM} {L:Rws} {e:Heap} {a b c:Ob} (s:S0 ψ h0 h φ L) (r:Rel φ os L) (t:S φ h e [a,b,c]):S ψ h0 e (a::b::c::os):=joinS s r t
theorem join4 {φ:CM} {L:Rws} {g:Heap} {a0 a1 a e:Ob} (s:S0 ψ h0 h φ L) (r:Rel φ os L) (t:S φ h g [a0,a1,a,e]):S ψ h0 g (a0::a1::a::e::os):=joinS s r t
theorem frF {φ:CM} {L:Rws} {E:El α} {v:Value} {xs:List α} (r:Rel φ os L) (i:Nat) (e:os[i]?=some (.it (El.sl E) [v] xs)):SlC φ E v xs:=by
 obtain ⟨_,g,_,_,a,_,_⟩:=r.at e;exact El.sl_to a
theorem S.arg {E:El α} {v:Value} {xs:List α} (st:S ψ h0 h os) (a:SlC ψ E v xs):S ψ h0 h (.it (El.sl E) [v] xs::os):=by
 obtain ⟨φ,L,s,r⟩:=st;exact ⟨φ,L,s,[],L,rfl,El.sl_of (a.mono s.bas),r⟩
def El.pair {o:Type} (E:El α) (F:El o):El (α×o) where
 z:=E.z+F.z
 R:=fun φ L cs x=>∃ c1 c2 k j,cs=c1++c2/\L=k++j/\E.R φ k c1 x.1/\F.R φ j c2 x.2
 mono:=fun l ⟨c1,c2,k,j,h1,f,a,e⟩=>⟨c1,c2,k,j,h1,f,E.mono l a,F.mono l e⟩
 len:=fun ⟨c1,c2,k,j,h1,f,a,e⟩=>by rw [h1,List.length_append,E.len a,F.len e]
 one:=fun ⟨c1,c2,k,j,h1,f,a,e⟩ v g=>by
  rw [h1] at g;rcases List.mem_append.1 g with h|h
  ·exact E.one a v h
  ·exact F.one e v h
 zc:=E.zc++F.zc
 zx:=(E.zx,F.zx)
 hz:=fun φ=>⟨_,_,[],[],rfl,rfl,E.hz φ,F.hz φ⟩
def El.iso {a:Type} (E:El α) (f:a->α) (z:a) (hz:f z=E.zx):El a where
 z:=E.z
 R:=fun φ L cs x=>E.R φ L cs (f x)
 mono:=fun e h=>E.mono e h
 len:=fun h=>E.len h
 one:=fun h=>E.one h
 zc:=E.zc
 zx:=z
 hz:=fun φ=>by rw [hz];exact E.hz φ
theorem ZK {o:Type} {E k:El α} {F j:El o} (h1:Frz E k) (a:Frz F j):Frz (El.pair E F) (El.pair k j):=by
 refine ⟨by show E.z+F.z=k.z+j.z;rw [h1.1,a.1],fun φ L cs x ⟨c1,c2,r,u,e,f,g,i⟩ l=>?_⟩;subst f;exact ⟨c1,c2,[],[],e,rfl,h1.2 _ _ _ _ g l.left,a.2 _ _ _ _ i l.right⟩
theorem Zah {g:Type} {E a:El α} {f:g->α} {z:g} {hz:f z=E.zx} {e:f z=a.zx} (h:Frz E a):Frz (El.iso E f z hz) (El.iso a f z e):=⟨h.1,fun φ L cs x k j=>h.2 φ L cs (f x) k j⟩
theorem Zye {k:Type} {E:El α} {F:El k} (h1:Plain E) (e:Plain F):Plain (El.pair E F):=by
 intro φ ψ L cs x ⟨c1,c2,L1,L2,f,g,i,j⟩;have a:=h1 φ ψ _ _ _ i;have b:=e φ ψ _ _ _ j;exact ⟨by rw [g,a.1,b.1];rfl,c1,c2,[],[],f,rfl,a.2,b.2⟩
theorem ZGd {a:Type} {E:El α} {f:a->α} {z:a} {hz:f z=E.zx} (h:Plain E):Plain (El.iso E f z hz):=fun φ ψ L cs x e=>h φ ψ L cs (f x) e
theorem S.weak {e:CM} (t:S e h0 h []) (g:CLe ψ (hcell h0)):S ψ h0 h []:=by
 have a:=t.ext;have st:S ψ h0 h0 []:=S.start g;obtain ⟨φ,L,s,r⟩:=st;exact ⟨φ,L,⟨a,fun b c j=>(s.row b c j).ext a,s.low,s.nod,s.fle.trans (CLe.ext a),s.dis,s.bas,s.old⟩,r⟩
theorem bifP {ρ:Type} {c:Bool} {a b:Option ρ} {r:ρ} {A B:Prop} (hp:(bif c then a else b)=some r) (g:c=true->a=some r->A) (e:c=false->b=some r->B):brn c A B:=by
 cases c with
 | true=>exact g rfl hp
 | false=>exact e rfl hp
theorem Rel.split {φ:CM}:∀ {os:List Ob} {L:Rws},Rel φ os L->∃ k:List Rws,L=k.flatten/\∀ (i:Nat) o,os[i]?=some o->∃ l,k[i]?=some l/\o.ok φ l
 | [],L,h=>⟨[],h,fun i o j=>by simp at j⟩
 | o::os,L,⟨L1,L2,h1,a,e⟩=>by
  obtain ⟨k,f,g⟩:=Rel.split e;refine ⟨L1::k,by rw [h1,f];rfl,fun i r j=>?_⟩;cases i with
  | zero=>simp at j;subst j;exact ⟨L1,rfl,a⟩
  | succ i=>exact g i r (by simpa using j)
theorem ZqJ {g:List Rws} {i:Nat} {e:Rws} (h:g[i]?=some e) {x:Nat×Row} (a:x∈e):x∈g.flatten:=List.mem_flatten.2 ⟨e,List.mem_of_getElem? h,a⟩
theorem ZjE:∀ {o:List Rws} {i j:Nat} {u r:Rws},(Rws.bs o.flatten).Nodup->o[i]?=some u->o[j]?=some r->i≠j->∀ b,b∈u.bs->b∈r.bs->False
 | [],i,j,u,r,_,hi,_,_,_,_,_=>by simp at hi
 | L::o,i,j,u,r,e,hi,hj,hij,b,h1,a=>by
  have w:Rws.bs (L::o).flatten=L.bs++Rws.bs o.flatten:=by unfold Rws.bs;rw [List.flatten_cons,List.map_append]
  rw [w] at e;obtain ⟨n1,n2,f⟩:=List.nodup_append.1 e;have up:∀ {k:Nat} {Lk:Rws},o[k]?=some Lk->b∈Lk.bs->b∈Rws.bs o.flatten:=fun hk g=>by
   obtain ⟨x,l,rfl⟩:=List.mem_map.1 g;exact List.mem_map.2 ⟨x,ZqJ hk l,rfl⟩
  cases i with
  | zero=>
   simp at hi;subst hi;cases j with
   | zero=>exact hij rfl
   | succ j=>exact f _ h1 _ (up (by simpa using hj) a) rfl
  | succ i=>
   cases j with
   | zero=>simp at hj;subst hj;exact f _ a _ (up (by simpa using hi) h1) rfl
   | succ j=>exact ZjE n2 (by simpa using hi) (by simpa using hj) ω b h1 a
theorem Ztm:∀ {g:List Rws} {i:Nat} {j:Rws},(Rws.bs g.flatten).Nodup->g[i]?=some j->j.bs.Nodup
 | [],i,j,_,hi=>by simp at hi
 | L::g,i,j,a,hi=>by
  have k:Rws.bs (L::g).flatten=L.bs++Rws.bs g.flatten:=by unfold Rws.bs;rw [List.flatten_cons,List.map_append]
  rw [k] at a;obtain ⟨n1,n2,e⟩:=List.nodup_append.1 a;cases i with
  | zero=>simp at hi;subst hi;exact n1
  | succ i=>exact Ztm n2 (by simpa using hi)
theorem Zq0 {φ:CM} {os:List Ob} {Ls:List Rws} (j:(Rws.bs Ls.flatten).Nodup) (hs:∀ (i:Nat) o,os[i]?=some o->∃ Li,Ls[i]?=some Li/\o.ok φ Li):∀ (is:List Nat),is.Nodup ->
  ∃ M:Rws,Rel φ (is.filterMap fun i=>os[i]?) M/\M.bs.Nodup/\(∀ x∈M,x∈Ls.flatten)/\∀ b∈M.bs,∃ i∈is,∃ Li,Ls[i]?=some Li/\b∈Li.bs
 | [],_=>⟨[],rfl,by simp [Rws.bs],(fun x l=>by cases l),fun b f=>by simp [Rws.bs] at f⟩
 | i::is,hnd=>by
  obtain ⟨h1,y⟩:=List.nodup_cons.1 hnd;obtain ⟨M,u,v,w,s⟩:=Zq0 j hs is y;cases ho:os[i]? with
  | none=>
   rw [List.filterMap_cons,ho];exact ⟨M,u,v,w,fun b f=>by obtain ⟨k,hk,r⟩:=s b f;exact ⟨k,List.mem_cons_of_mem _ hk,r⟩⟩
  | some o=>
   obtain ⟨Li,g,e2⟩:=hs i o ho;rw [List.filterMap_cons,ho];have a5:Rws.bs (Li++M)=Li.bs++M.bs:=by unfold Rws.bs;rw [List.map_append]
   refine ⟨Li++M,⟨Li,M,rfl,e2,u⟩,?_,fun x l=>?_,fun b f=>?_⟩
   ·rw [a5];refine List.nodup_append.2 ⟨Ztm j g,v,fun a ha b f e=>?_⟩;subst e;obtain ⟨k,hk,Lk,g1,g2⟩:=s a f;exact ZjE j g g1 (fun e=>h1 (e▸hk)) a ha g2
   ·rcases List.mem_append.1 l with h|h
    ·exact ZqJ g h
    ·exact w x h
   ·rw [a5] at f;rcases List.mem_append.1 f with h|h
    ·exact ⟨i,List.mem_cons_self ..,Li,g,h⟩
    ·obtain ⟨k,hk,r⟩:=s b h;exact ⟨k,List.mem_cons_of_mem _ hk,r⟩
theorem S.pick (st:S ψ h0 h os) (is:List Nat) (l:is.Nodup):S ψ h0 h (is.filterMap fun i=>os[i]?):=by
 obtain ⟨φ,L,s,r⟩:=st;obtain ⟨o,rfl,hs⟩:=r.split;obtain ⟨M,f,g,e,_⟩:=Zq0 s.nod hs is l;have a:∀ b,b∈M.bs->b∈Rws.bs o.flatten:=fun b a=>by
  obtain ⟨x,j,rfl⟩:=List.mem_map.1 a;exact List.mem_map.2 ⟨x,e x j,rfl⟩
 exact ⟨φ,M,⟨s.ext,fun b cs k=>s.row b cs (e _ k),fun b k=>s.low b (a b k),g,s.fle,fun p u hp k=>s.dis p u hp (a _ k),s.bas,s.old⟩,f⟩
theorem S.clear (st:S ψ h0 h os):S ψ h0 h []:=st.pick [] (by simp)
theorem ZIf {b:Int} {u:Unit} (h:gNz b=some u):b≠0:=by unfold gNz at h;split at h<;>first|assumption|cases h
theorem Zup {b:Int} {u:Unit} (h:gNn b=some u):0<=b:=by unfold gNn at h;split at h<;>first|assumption|cases h
theorem ZFx {a b:ByteArray} {u:Unit} (h:gFit a b=some u):((a.size+b.size:Nat):Int)<=IntKind.i64.max:=by unfold gFit at h;split at h<;>first|assumption|cases h
theorem ZtD {s t:ByteArray} (lo hi:Option Int) (h:gStSl s (lo.getD 0) (hi.getD s.size)=some t) {K:ByteArray->Prop} (g:K t):vSliceStr s (loV lo) (loV hi) K:=by
 obtain ⟨⟨h1,a,e⟩,rfl⟩:=ZHO h;unfold vSliceStr vBound loV;cases hi with
 | none=>
  cases lo with
  | none=>simpa using g
  | some l=>
   simp only [Option.map_none,Option.map_some,Option.getD_none,Option.getD_some] at *;exact ⟨⟨h1,by omega⟩,by simpa using g⟩
 | some x=>
  cases lo with
  | none=>
   simp only [Option.map_none,Option.map_some,Option.getD_none,Option.getD_some] at *;exact ⟨⟨a,by omega⟩,g⟩
  | some l=>
   simp only [Option.map_some,Option.getD_some] at *;exact ⟨⟨by omega,by omega⟩,⟨h1,by omega⟩,g⟩
theorem S.nilO {E:El α} (st:S ψ h0 h os):S ψ h0 h (.it (El.ow E) [.slice none 0 0] []::os):=st.nil E
theorem S.copyF {E:El α} {cs:List Value} {x:List α} (st:S ψ h0 h os) (i:Nat) (j:os[i]?=some (.it (El.sl E) cs x)):S ψ h0 h (.it (El.sl E) cs x::os):=by
 obtain ⟨φ,L,s,r⟩:=st;obtain ⟨l,g,k,f,a,_,_⟩:=r.at j;have e:g=[]:=a.1;subst e;exact ⟨φ,L,s,[],L,rfl,a,r⟩
theorem CellsC.part {φ:CM} {p:Addr} {cs:List Value} (off n:Nat) (a:CellsC φ p cs):CellsC φ (p.add off) ((cs.drop off).take n):=by
 intro j u e;have g:=Z0 e;rw [List.length_take] at g;rw [List.getElem?_take,if_pos ω,List.getElem?_drop] at e;rw [Zel];exact a _ _ e
theorem S.leF (st:S ψ h0 h os):CLe ψ (hcell h):=by obtain ⟨φ,L,s,_⟩:=st;exact s.bas.trans s.fle
theorem omap {e a:Type} {o:Option e} {f:e->a} {y:a} (h:o.map f=some y):∃ x,o=some x/\f x=y:=by
 cases o with
 | none=>cases h
 | some x=>exact ⟨x,rfl,Option.some.inj h⟩
theorem Zua {φ:CM} {E:El α} {v:Value} {xs:List α} (g:SlC φ E v xs) {K:Bool->Prop} (h1:v=.slice none 0 0->xs=[]->K true) (e:K false):vNilS false v K:=by
 rcases g with ⟨rfl,rfl⟩|⟨a,c,rfl,_⟩
 ·exact h1 rfl rfl
 ·exact e
def UB (ψ:CM) (h0:Heap):CM:=fun p=>match ψ p with
 | some u=>some u
 | none=>hcell h0 p
theorem ub_le {e:CM} (h1:CLe ψ e) (a:CLe (hcell h0) e):CLe (UB ψ h0) e:=fun p u hp=>by
 unfold UB at hp;split at hp
 ·rename_i w g;cases hp;exact h1 p _ g
 ·exact a p u hp
theorem S.leU (st:S ψ h0 h os):CLe (UB ψ h0) (hcell h):=ub_le st.leF st.le
theorem S0.ubF {φ:CM} {L:Rws} (_s:S0 ψ h0 h φ L):CLe φ (UB φ h0):=fun p u hp=>by unfold UB;rw [hp]
theorem S0.ubH {φ:CM} {L:Rws} (s:S0 ψ h0 h φ L):CLe (hcell h0) (UB φ h0):=fun p u hp=>by
 unfold UB;cases e:φ p with
 | none=>exact hp
 | some w=>
  have h1:=s.fle p w e;have a:=Zfr s.ext hp;rw [h1] at a;exact a
theorem S0.ubU {φ:CM} {L:Rws} (s:S0 ψ h0 h φ L):CLe (UB ψ h0) (UB φ h0):=ub_le (s.bas.trans s.ubF) s.ubH
theorem S0.upS {φ:CM} {L:Rws} (s:S0 ψ h0 h φ L) (r:Rel φ os L):S φ h0 h os:=
 ⟨φ,L,⟨s.ext,s.row,s.low,s.nod,s.fle,s.dis,CLe.refl _,fun _ _ hp _=>hp⟩,r⟩
theorem S0.downS {φ:CM} {L:Rws} {l:Heap} {k:List Ob} (s:S0 ψ h0 h φ L) (t:S φ h0 l k):S ψ h0 l k:=by
 obtain ⟨j,M,a,e⟩:=t;exact ⟨j,M,⟨a.ext,a.row,a.low,a.nod,a.fle,a.dis,s.bas.trans a.bas,fun p u hp g=>s.old p u (a.old p u hp g) g⟩,e⟩
theorem ZCJ {g:Type 1} (l:List g):∀ n,(List.range' n (l.length-n)).filterMap (fun i=>l[i]?)=l.drop n:=by
 intro n;induction hk:l.length-n generalizing n with
 | zero=>rw [List.drop_of_length_le ω];rfl
 | succ k e=>
  have a:n<l.length:=ω;rw [List.range'_succ,List.filterMap_cons,List.drop_eq_getElem_cons a];have:l[n]?=some l[n]:=by simp [a]
  rw [this];have:=e (n+1) ω;simp only;rw [this]
theorem S.pickT (st:S ψ h0 h os) (n:Nat) (is:List Nat) (k:is.Nodup) (f:∀ i∈is,i<n):S ψ h0 h ((is.filterMap fun i=>os[i]?)++os.drop n):=by
 have:=st.pick (is++List.range' n (os.length-n)) (by
  refine List.nodup_append.2 ⟨k,List.nodup_range',fun a l b j e=>?_⟩;subst e;have h1:=f a l;have g:=List.mem_range'_1.1 j;omega)
 rw [List.filterMap_append,ZCJ] at this;exact this
def Hd (h:Heap) (v:Value) (i:Int) (u:Value):Prop:=∃ a n c,v=.slice (some a) n c/\hcell h (a.add (i.toNat*1))=some u
theorem ZlC {E:El α} {φ:CM} {Lo:Rws} {v:Value} {r:List (List α)} {i:Int} {xs:List α} (aa:RowsC (hcell h) Lo) (ho:OwnL φ (El.ow E) Lo v r) (g:gIdx r i=some xs):
  ∃ (b c:Nat) (pre:List Value) (w:List (List Value)) (u:Value) (po:List (List Value)) (o:List Value) (M1 Mo M2:Rws),v=.slice (some ⟨b,pre.length,none⟩) r.length c/\r.length<=c/\(c-r.length)*1<=o.length/\Lo=(b,.cs ((pre++w.flatten)++u::(po.flatten++o)))::(M1++Mo++M2)/\w.flatten.length=i.toNat/\OwnL φ E Mo u xs/\hcell h ⟨b,pre.length+i.toNat,none⟩=some u /\
   ∀ x a2,OwnL φ E x u a2->OwnL φ (El.ow E) ((b,.cs ((pre++w.flatten)++u::(po.flatten++o)))::(M1++x++M2)) v (r.set i.toNat a2):=by
 obtain ⟨l,a⟩:=ZaK g;rcases ho with ⟨_,rfl,_⟩|⟨b,c,pre,css,o,Lr,rfl,e,hrest,rfl,hall⟩
 ·simp at a
 obtain ⟨d,M1,Mo,M2,w,po,rfl,f,k3,⟨u,rfl,j⟩,k⟩:=hall.at a;have ab:=AllR.pre_flat w r _ (by rw [<-f];exact hall);have a5:w.flatten.length=i.toNat:=by rw [ab,k3];exact Nat.mul_one _
 have a8:pre++css.flatten++o=(pre++w.flatten)++u::(po.flatten++o):=by rw [f];simp
 refine ⟨b,c,pre,w,u,po,o,M1,Mo,M2,rfl,e,hrest,by rw [a8],a5,j,?_,fun x a2 hm=>.inr ⟨b,c,pre,w++[u]::po,o,M1++x++M2,by simp,by simpa using e,by simpa using hrest,by simp,k [u] x a2 ⟨u,rfl,hm⟩⟩⟩;refine aa b _ (List.mem_cons_self ..) _ _ ?_;rw [a8,List.getElem?_append_right (by rw [List.length_append];omega),List.length_append,a5];simp
theorem Zaq {E:El α} {v:Value} {o:List (List α)} {i:Int} {xs:List α} {p:Addr} (st:S ψ h0 h os) (k:Nat) (ho:os[k]?=some (.it (El.ow (El.ow E)) [v] o)) (hp:AddrOf v i 1 p) (f:gIdx o i=some xs) {K:Value->Prop} (hk:∀ u,Hd h v i u->K u):ldV h p K:=by
 obtain ⟨φ,L,s,r⟩:=st;obtain ⟨L1,Lo,L2,g,j,_,_⟩:=r.at ho;have w:=s.rows;rw [g] at w;obtain ⟨b,c,pre,pr,u,po,x,M1,Mo,M2,rfl,_,_,_,_,_,l,_⟩:=ZlC w.left.right (El.ow_to j) f;obtain ⟨a,n,c',e,rfl⟩:=hp;cases e;refine ⟨u,?_,hk u ⟨_,_,_,rfl,?_⟩⟩<;>(rw [Z5,Nat.mul_one];exact l)
theorem Hd.eq {v u k:Value} {i:Int} {b n c off:Nat} (f:Hd h v i u) (g:v=.slice (some ⟨b,off,none⟩) n c) (j:hcell h ⟨b,off+i.toNat,none⟩=some k):u=k:=by
 obtain ⟨a,o,l,e,h1⟩:=f;rw [g] at e;cases e;rw [Z5,Nat.mul_one,j] at h1;exact (Option.some.inj h1).symm
theorem S.rowC {E E':El α} {v u:Value} {w:List (List α)} {i:Int} {xs:List α} (st:S ψ h0 h os) (k:Nat) (ho:os[k]?=some (.it (El.ow (El.ow E)) [v] w)) (e:Hd h v i u) (f:gIdx w i=some xs) (hf:Frz E E'):SlC (hcell h) E' u xs:=by
 obtain ⟨φ,L,s,r⟩:=st;obtain ⟨L1,Lo,L2,g,j,_,_⟩:=r.at ho;have hr:=s.rows;rw [g] at hr;have a:=hr.left.right;obtain ⟨b,c,pre,pr,u',po,a7,M1,Mo,M2,l,_,_,a4,_,hm,o,_⟩:=ZlC a (El.ow_to j) f;obtain rfl:=e.eq l o;refine El.sl_to ((ZR hf).2 (hcell h) Mo [u] xs ((El.ow E).mono s.fle ⟨u,rfl,hm⟩) ?_);rw [a4] at a;intro b' row x;exact a b' row (by simp [x])
theorem ZbV {E:El α} {v u f:Value} {a6:List (List α)} {i j:Int} {xs:List α} {o y:α} {q:Addr} {K:Heap->Prop} (st:S ψ h0 h os) (k:Nat) (ho:os[k]?=some (.it (El.ow (El.ow E)) [v] a6)) (w:Hd h v i u) (x:gIdx a6 i=some xs) (ad:AddrOf u j 1 q) (hj:gIdx xs j=some o) (hz:E.z=1) (hy:∀ φ,E.R φ [] [f] y)
  (hK:∀ h',S ψ h0 h' (os.set k (.it (El.ow (El.ow E)) [v] (a6.set i.toNat (xs.set j.toNat y))))->K h'):vStore1 h q f K:=by
 obtain ⟨φ,L,s,r⟩:=st;obtain ⟨L1,Lo,L2,l,e2,_,e4⟩:=r.at ho;have hr:=s.rows;rw [l] at hr;obtain ⟨b,c,pre,pr,u',po,ae,M1,Mo,M2,hv,_,_,aa,_,hm,hc,a3⟩:=ZlC hr.left.right (El.ow_to e2) x;obtain rfl:=w.eq hv hc;generalize (b,Row.cs ((pre++pr.flatten)++u::(po.flatten++ae)))=a2 at aa a3;have s2:S0 ψ h0 h φ (Mo++(L1++a2::M1++(M2++L2))):=s.perm (by
  rw [l,aa];have h1:(L1++a2::M1++Mo).Perm (Mo++(L1++a2::M1)):=List.perm_append_comm;have g:=h1.append_right (M2++L2);simpa using g)
 refine Zh1 (cs:=[f]) s2 hm ad hz hj (hy φ) fun a e h' s3 ac=>hK h' ⟨φ,L1++(a2::(M1++(a++[]++e)++M2))++L2,s3.perm ?_,e4 φ _ _ (CLe.refl _) ⟨v,rfl,a3 _ _ ac⟩⟩;have h1:((a++e)++(L1++a2::M1)).Perm ((L1++a2::M1)++(a++e)):=List.perm_append_comm;have g:=h1.append_right (M2++L2);simpa using g
def IsView (v:Value) (z l m:Nat) (e:Value):Prop:=(v=.slice none 0 0/\e=.slice none 0 0)\/∃ a n c,v=.slice (some a) n c/\l<=m/\m<=n/\n<=c/\e=.slice (some (bif Nat.beq c l then a else a.add (l*z))) (m-l) (c-l)
theorem Zc1 {φ:CM} {E:El α} {v:Value} {xs o:List α} {z:Nat} (lo hi:Option Int) (r:SlC φ E v xs) (hs:gSl xs (lo.getD 0) (hi.getD xs.length)=some o) {K:Value->Prop} (l:∀ k,IsView v z (lo.getD 0).toNat (hi.getD xs.length).toNat k->K k):vSliceS v z (loV lo) (loV hi) none K:=by
 obtain ⟨⟨h1,e,f⟩,rfl⟩:=Zg1 hs;rcases r with ⟨rfl,rfl⟩|⟨a,c,rfl,g,hel⟩
 ·refine Ze6 (Nat.le_refl _) h1 e f (l _ (.inl ⟨rfl,?_⟩));simp only [List.length_nil] at f e;have i:(lo.getD 0).toNat=0:=ω;have j:(hi.getD ((0:Nat):Int)).toNat=0:=ω;rw [i,j];simp
 ·refine Ze6 g h1 e f (l _ (.inr ⟨a,_,c,rfl,by omega,by omega,g,?_⟩));cases Nat.beq c (lo.getD 0).toNat<;>rfl
theorem IsView.sl {τ φ:CM} {E:El α} {v w:Value} {xs:List α} {l m:Nat} (g:IsView v E.z l m w) (hs:(v=.slice none 0 0/\xs=[])\/∃ a c,v=.slice (some a) xs.length c/\xs.length<=c/\∀ (i:Nat) x,xs[i]?=some x->∃ cs,CellsC τ (a.add (i*E.z)) cs/\E.R φ [] cs x):
  (w=.slice none 0 0/\(xs.take m).drop l=[])\/∃ a c,w=.slice (some a) ((xs.take m).drop l).length c/\((xs.take m).drop l).length<=c/\∀ (i:Nat) x,((xs.take m).drop l)[i]?=some x->∃ cs,CellsC τ (a.add (i*E.z)) cs/\E.R φ [] cs x:=by
 rcases hs with ⟨rfl,rfl⟩|⟨a,c,rfl,o,hel⟩
 ·rcases g with ⟨_,rfl⟩|⟨a,n,c,e,_⟩
  ·exact .inl ⟨rfl,by simp⟩
  ·cases e
 ·rcases g with ⟨e,_⟩|⟨a',n,c',e,h1,r,s,rfl⟩
  ·cases e
  cases e;have u:((xs.take m).drop l).length=m-l:=by rw [List.length_drop,List.length_take];omega
  refine .inr ⟨_,c-l,by rw [u],by rw [u];omega,fun i x f=>?_⟩;have a3:=Z0 f;rw [u] at a3;have a2:Nat.beq c l=false:=by
   cases hh:Nat.beq c l with
   | false=>rfl
   | true=>have:=Nat.eq_of_beq_eq_true hh;omega
  rw [a2];rw [List.getElem?_drop,List.getElem?_take,if_pos ω] at f;obtain ⟨cs,j,k⟩:=hel _ x f;refine ⟨cs,?_,k⟩;show CellsC τ ((a.add (l*E.z)).add (i*E.z)) cs;rw [Zel,<-Nat.add_mul];exact j
theorem IsView.C {φ:CM} {E:El α} {v g:Value} {xs e:List α} {z:Nat} {lo hi:Int} (a:IsView v z lo.toNat hi.toNat g) (j:SlC φ E v xs) (hs:gSl xs lo hi=some e) (hz:E.z=z):SlC φ E g e:=by
 obtain ⟨_,rfl⟩:=Zg1 hs;subst hz;exact a.sl j
theorem ZiM {E:El α} {v u:Value} {xs ys:List α} {z:Nat} {lo hi:Int} (i:Nat) (ho:os[i]?=some (.it (El.ow E) [v] xs)) (k:IsView v z lo.toNat hi.toNat u) (hs:gSl xs lo hi=some ys) (hz:E.z=z) (hp:∀ φ L cs x,E.R φ L cs x->L=[]):Src ψ h0 h os E u ys:=by
 obtain ⟨_,rfl⟩:=Zg1 hs;subst hz;intro φ L s r;obtain ⟨L1,Lo,L2,l,o,_,_⟩:=r.at ho
 suffices hs:_ by
  refine ZnK ?_;rcases k.sl (τ:=hcell h) (φ:=φ) (xs:=xs) hs with h'|⟨a,c,y,_,g3⟩
  ·exact .inl h'
  ·exact .inr ⟨a,c,y,g3⟩
 rcases El.ow_to o with ⟨h1,h2,_⟩|⟨b,c,pre,css,rest,Lr,f1,f2,f3,f4,e⟩
 ·exact .inl ⟨h1,h2⟩
 ·refine .inr ⟨_,c,f1,f2,fun j x hx=>?_⟩;obtain ⟨d,M1,Mo,M2,pr,po,k1,f,k3,g,_⟩:=e.at hx;have a5:=hp _ _ _ _ g;subst a5;refine ⟨d,fun q w hw=>?_,g⟩;have a2:=AllR.pre_flat pr xs Lr (by rw [<-f];exact e);rw [Z5,Z5];refine s.rows b (pre++css.flatten++rest) (by rw [l,f4];simp) _ _ ?_;rw [f,List.append_assoc,Nat.add_assoc,List.getElem?_append_right ω,Nat.add_sub_cancel_left,List.flatten_append,List.append_assoc,List.getElem?_append_right (by rw [a2,k3];omega),a2,k3,Nat.add_sub_cancel_left,List.flatten_cons,List.append_assoc,List.getElem?_append_left (Z0 hw)];exact hw
theorem Zfh {E:El α}:∀ (φ:CM) (L:Rws) (cs:List Value) (x:List α),(El.sl E).R φ L cs x->L=[]:=fun _ _ _ _ h=>h.1
theorem Zmv (st:S ψ h0 h os) {cs:List Value} {t:TypeId} {K:Addr->Heap->Prop} (e:∀ b a,ExtH h a->S ψ h0 a (.box b cs::os)->K ⟨b,0,none⟩ a):vNew h (.cells cs.toArray t) K:=by
 refine vNew.mk ?_;obtain ⟨φ,L,s,r⟩:=st;exact e _ _ (ExtH.push h _) ⟨φ,_,s.new cs t,[(h.size,.cs cs)],L,rfl,rfl,r⟩
theorem Zn7 {E:El α} {bytes:Nat} {zero:List Value} {el:TypeId} {n c:Int} {xs:List α} (st:S ψ h0 h os) (hz:zero=E.zc) (j:gMake bytes E.zx n c=some xs) {K:Value->Heap->Prop}
  (g:∀ v e,ExtH h e->S ψ h0 e (.it (El.ow E) [v] xs::os)->K v e):vMake bytes zero el n c h K:=by
 have:=ZqN (E:=E) (K:=fun v e=>ExtH h e->K v e) (el:=el) st hz j fun v e s a=>g v e a s;exact ⟨this.1,this.2 (ExtH.push h _)⟩
theorem AllR.frz {E j:El α} (g:Frz E j) {φ:CM}:∀ {L:Rws} {css:List (List Value)} {xs:List α},AllR φ E L css xs->RowsC φ L->AllR φ j [] css xs
 | _,[],[],_,_=>rfl
 | _,_::_,_::_,⟨L1,L2,h1,a,e⟩,hr=>by
  subst h1;exact ⟨[],[],rfl,g.2 _ _ _ _ a hr.left,AllR.frz g e hr.right⟩
 | _,[],_::_,h,_=>h.elim
 | _,_::_,[],h,_=>h.elim
theorem S.frzIn {E E':El α} {v:Value} {xs:List α} (st:S ψ h0 h os) (i:Nat) (ho:os[i]?=some (.it (El.ow E) [v] xs)) (hf:Frz E E'):S ψ h0 h (os.set i (.it (El.ow E') [v] xs)):=by
 obtain ⟨φ,L,s,r⟩:=st;obtain ⟨L1,Lo,L2,e,j,_,f⟩:=r.at ho;rcases El.ow_to j with ⟨h1,a,k⟩|⟨b,c,pre,css,rest,Lr,l,o,u,w,x⟩
 ·exact ⟨φ,L1++[]++L2,by rw [<-k,<-e];exact s,f φ (.it (El.ow E') [v] xs) [] (CLe.refl _) ⟨v,rfl,.inl ⟨h1,a,rfl⟩⟩⟩
 ·have y:S0 ψ h0 h φ (Lr++(L1++[(b,Row.cs (pre++css.flatten++rest))]++L2)):=s.perm (by
   rw [e,w];have h1:(L1++[(b,Row.cs (pre++css.flatten++rest))]++Lr).Perm (Lr++(L1++[(b,Row.cs (pre++css.flatten++rest))])):=List.perm_append_comm;have a:=h1.append_right L2;simpa using a)
  obtain ⟨a5,g,g2,g3⟩:=y.freeze;refine ⟨a5,L1++[(b,Row.cs (pre++css.flatten++rest))]++L2,g3,f a5 (.it (El.ow E') [v] xs) _ g ⟨v,rfl,.inr ⟨b,c,pre,css,rest,[],l,o,by rw [<-hf.1];exact u,rfl,(x.mono g).frz hf g2⟩⟩⟩
def HoleL {α:Type} (φ:CM) (E:El α) (i:Nat) (u:Value) (L:Rws) (v:Value) (a:List (List α)):Prop:=
 (v=.slice none 0 0/\a=[]/\L=[])\/∃ b c pre g o e j l,v=.slice (some ⟨b,pre.length,none⟩) a.length c/\a.length<=c/\(c-a.length)*1<=e.length/\L=(b,.cs (pre++(g++[u]::o).flatten++e))::(j++l)/\g.length=i /\
  ∀ ψ k x,CLe φ ψ->OwnL ψ E k u x->AllR ψ (El.ow E) (j++k++l) (g++[u]::o) (a.set i x)
def El.hole {α:Type} (E:El α) (i:Nat) (u:Value):El (List (List α)) where
 z:=1
 R:=fun φ L cs r=>∃ v,cs=[v]/\HoleL φ E i u L v r
 mono:=fun hl ⟨v,h1,a⟩=>⟨v,h1,by
  rcases a with a|⟨b,c,pre,pr,po,rest,L1,L2,e,f,g,j,k,l⟩
  ·exact .inl a
  ·exact .inr ⟨b,c,pre,pr,po,rest,L1,L2,e,f,g,j,k,fun ψ Lo x w ho=>l ψ Lo x (hl.trans w) ho⟩⟩
 len:=fun ⟨v,h1,_⟩=>by rw [h1];rfl
 one:=fun ⟨v,h1,a⟩ u o=>by
  rw [h1] at o;simp at o;rw [o];rcases a with ⟨rfl,_⟩|⟨b,c,pre,pr,po,rest,L1,L2,rfl,_⟩<;>rfl
 zc:=[.slice none 0 0]
 zx:=[]
 hz:=fun _=>⟨_,rfl,.inl ⟨rfl,rfl,rfl⟩⟩
theorem AllR.atU {E:El α} {φ:CM}:∀ {L:Rws} {css:List (List Value)} {a5:List (List α)} {i:Nat} {x:List α},AllR φ (El.ow E) L css a5->a5[i]?=some x ->
  ∃ u L1 Lo L2 pr po,L=L1++Lo++L2/\css=pr++[u]::po/\pr.length=i/\OwnL φ E Lo u x/\∀ ψ w x',CLe φ ψ->OwnL ψ E w u x'->AllR ψ (El.ow E) (L1++w++L2) (pr++[u]::po) (a5.set i x')
 | _,[],[],i,x,_,a=>by simp at a
 | _,c::cs,y::xs,i,x,⟨L1,L2,h1,e,f⟩,a=>by
  cases i with
  | zero=>
   simp at a;subst a;obtain ⟨u,rfl,g⟩:=e;exact ⟨u,[],L1,L2,[],cs,by simpa using h1,rfl,rfl,g,fun ψ w x' a2 hr=>⟨w,L2,by simp,⟨u,rfl,hr⟩,AllR.mono a2 f⟩⟩
  | succ i=>
   obtain ⟨u,M1,Mo,M2,pre,a7,j,k,l,o,r⟩:=AllR.atU f (by simpa using a);refine ⟨u,L1++M1,Mo,M2,c::pre,a7,by rw [h1,j];simp,by rw [k];rfl,by simp [l],o,fun ψ w x' a2 hr=>?_⟩;exact ⟨L1,M1++w++M2,by simp,(El.ow E).mono a2 e,r ψ w x' a2 hr⟩
 | _,[],_::_,_,_,h,_=>h.elim
 | _,_::_,[],_,_,h,_=>h.elim
theorem foc_S {E:El α} {v u:Value} {a2:List (List α)} {i:Int} {xs:List α} (st:S ψ h0 h os) (k:Nat) (ho:os[k]?=some (.it (El.ow (El.ow E)) [v] a2)) (o:Hd h v i u) (w:gIdx a2 i=some xs):S ψ h0 h (.it (El.ow E) [u] xs::os.set k (.it (El.hole E i.toNat u) [v] a2)):=by
 obtain ⟨g1,e⟩:=ZaK w;obtain ⟨φ,L,s,r⟩:=st;obtain ⟨L1,Lo,L2,f,x,_,y⟩:=r.at ho;rcases El.ow_to x with ⟨_,rfl,_⟩|⟨b,c,pre,css,rest,Lr,g,f2,f3,j,l⟩
 ·simp at e
 obtain ⟨u',M1,Mo,M2,pr,po,k1,a,k3,k4,k5⟩:=l.atU e;have a5:=AllR.pre_flat pr a2 Lr (by rw [<-a];exact l);have hu:u=u':=by
  refine o.eq g ?_;refine s.rows b (pre++css.flatten++rest) (by rw [f,j];simp) _ _ ?_;rw [a,List.append_assoc,List.getElem?_append_right ω,Nat.add_sub_cancel_left,List.flatten_append,List.append_assoc,List.getElem?_append_right (by rw [a5,k3];show i.toNat*1<=_;omega),a5,k3];rw [show i.toNat-i.toNat*(El.ow E).z=0 by show i.toNat-i.toNat*1=0;omega];rfl
 subst hu;refine ⟨φ,Mo++(L1++((b,.cs (pre++(pr++[u]::po).flatten++rest))::(M1++M2))++L2),s.perm ?_,Mo,_,rfl,⟨u,rfl,k4⟩,y φ (.it (El.hole E i.toNat u) [v] a2) _ (CLe.refl _) ⟨v,rfl,.inr ⟨b,c,pre,pr,po,rest,M1,M2,g,f2,f3,rfl,k3,k5⟩⟩⟩;rw [f,j,k1,<-a];generalize (b,Row.cs (pre++css.flatten++rest))=a6;have h1:(L1++a6::M1++Mo).Perm (Mo++(L1++a6::M1)):=List.perm_append_comm;have h2:=h1.append_right (M2++L2);simpa using h2
theorem unf_S {E:El α} {v u:Value} {a3:List (List α)} {i:Nat} {ys:List α} (st:S ψ h0 h (.it (El.ow E) [u] ys::os)) (k:Nat) (ho:os[k]?=some (.it (El.hole E i u) [v] a3)):S ψ h0 h (os.set k (.it (El.ow (El.ow E)) [v] (a3.set i ys))):=by
 obtain ⟨φ,L,s,Ly,L',rfl,hy,r⟩:=st;obtain ⟨L1,Lo,L2,rfl,f,_,e⟩:=r.at ho;obtain ⟨v',h1,a⟩:=f;simp at h1;subst h1;rcases a with ⟨rfl,rfl,rfl⟩|⟨b,c,pre,pr,po,rest,M1,M2,g,j,l,o,x,w⟩
 ·refine ⟨φ,L1++[]++L2,s.sub (List.sublist_append_right ..),?_⟩;have:=e φ (.it (El.ow (El.ow E)) [.slice none 0 0] []) [] (CLe.refl _) ⟨_,rfl,.inl ⟨rfl,rfl,rfl⟩⟩;simpa using this
 ·have a7:=w φ Ly ys (CLe.refl _) (El.ow_to hy);refine ⟨φ,L1++((b,.cs (pre++(pr++[u]::po).flatten++rest))::(M1++Ly++M2))++L2,s.perm ?_,e φ (.it (El.ow (El.ow E)) [v] (a3.set i ys)) _ (CLe.refl _) ⟨v,rfl,.inr ⟨b,c,pre,pr++[u]::po,rest,M1++Ly++M2,by simpa using g,by simpa using j,by rw [List.length_set];exact l,rfl,a7⟩⟩⟩;rw [o];generalize (b,Row.cs (pre++(pr++[u]::po).flatten++rest))=a6;have h1:(Ly++(L1++a6::M1)).Perm ((L1++a6::M1)++Ly):=List.perm_append_comm;have a:=h1.append_right (M2++L2);simpa using a
end
end Go.Vc
