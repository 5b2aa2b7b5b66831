import Derived.Test.YtmmbnjijjdakmaaGreatDoorVcS2
namespace Go.Vc
set_option linter.unusedVariables false
set_option linter.unusedSimpArgs false
open Go
section
variable {ψ:CM} {h0 h:Heap} {os:List Ob} {α:Type}
theorem AllR.pre_flat {φ:CM} {E:El α} {d:List Value} {po:List (List Value)}:∀ (q:List (List Value)) (y:List α) (M:Rws),AllR φ E M (q++d::po) y→q.flatten.length=q.length*E.z
 | [],_,_,_=>by simp
 | q0::q,[],_,h=>h.elim
 | q0::q,y0::y,M,⟨_,_,_,k2,k3⟩=>by
  rw [List.flatten_cons,List.length_append,E.len k2,AllR.pre_flat q y _ k3,List.length_cons,Nat.add_mul];omega
theorem ZkV {E:El α} {φ:CM} {z:Nat} {rows M Ly:Rws} {v:Value} {cs:List Value} {xs:List α} {k:Int} {y x0:α} {p:Addr} {K:Heap→Prop}
  (s:S0 ψ h0 h φ (rows++M)) (ho:OwnL φ E rows v xs) (hp:AddrOf v k z p) (hz:E.z=z) (hk:gIdx xs k=some x0) (hy:E.R φ Ly cs y)
  (hK:∀ rows1 rows2 h',S0 ψ h0 h' φ (rows1++rows2++M)→OwnL φ E (rows1++Ly++rows2) v (xs.set k.toNat y)→K h'):vStoreN p cs 0 h K:=by
 subst hz
 obtain ⟨g1,g2⟩:=ZaV hk
 obtain ⟨a,n,c,rfl,rfl⟩:=hp
 rcases ho with ⟨e,_⟩|⟨b,c,pre,css,rest,Lr,e,hc,hrest,rfl,hall⟩
 ·cases e
 cases e
 obtain ⟨d,M1,Mo,M2,pr,po,k1,k2,k3,k4,k5⟩:=hall.at g2
 have hfl:=AllR.pre_flat pr xs Lr (by rw [←k2];exact hall)
 have hd:=E.len k4
 have hcl:=E.len hy
 rw [Z7]
 have sm:Sta h0 h ((b,.cs ((pre++pr.flatten)++d++(po.flatten++rest)))::(Lr++M)) fun x=>CLe φ (hcell x):=by
  have:=s.sta
  rw [k2] at this
  simpa using this
 refine ZjR cs d (pre++pr.flatten) _ 0 h _ (by rw [List.length_append,hfl,k3];rfl) (by omega) (E.one hy) sm fun h' t=>?_
 have s2:S0 ψ h0 h' φ ((b,.cs ((pre++pr.flatten)++cs++(po.flatten++rest)))::(Lr++M)):=s.of_sta' t rfl
 refine hK ((b,.cs ((pre++pr.flatten)++cs++(po.flatten++rest)))::M1) M2 h' (s2.sub ?_) (.inr ⟨b,c,pre,pr++cs::po,rest,M1++Ly++M2,?_,?_,?_,?_,k5 cs Ly y hy⟩)
 ·rw [k1]
  simp only [List.cons_append,List.append_assoc]
  refine List.Sublist.cons_cons _ (List.Sublist.append (List.Sublist.refl _) (List.sublist_append_of_sublist_right ?_))
  exact List.Sublist.refl _
 ·simp
 ·simpa using hc
 ·simpa using hrest
 ·simp
theorem stN_S {E:El α} {z:Nat} {v:Value} {cs:List Value} {xs:List α} {k:Int} {y x0:α} {p:Addr} {K:Heap→Prop} (st:S ψ h0 h os) (i:Nat) (ho:os[i]?=some (.it (El.ow E) [v] xs)) (hp:AddrOf v k z p) (hk:gIdx xs k=some x0) (hz:E.z=z) (hy:∀ φ,E.R φ [] cs y)
  (hK:∀ h',S ψ h0 h' (os.set i (.it (El.ow E) [v] (xs.set k.toNat y)))→K h'):vStoreN p cs 0 h K:=by
 obtain ⟨φ,L,s,r⟩:=st
 obtain ⟨L1,Lo,L2,e1,e2,_,e4⟩:=r.at ho
 have s2:S0 ψ h0 h φ (Lo++(L1++L2)):=s.perm (by rw [e1,←List.append_assoc];exact List.Perm.append_right _ List.perm_append_comm)
 refine ZkV s2 (El.ow_to e2) hp hz hk (hy φ) fun rows1 rows2 h' s3 hown=>hK h' ⟨φ,L1++(rows1++rows2)++L2,s3.perm ?_,e4 φ (.it (El.ow E) [v] (xs.set k.toNat y)) _ (CLe.refl _) ⟨v,rfl,by simpa using hown⟩⟩
 rw [←List.append_assoc];exact List.Perm.append_right _ List.perm_append_comm
theorem st1_S {E:El α} {v c:Value} {xs:List α} {k:Int} {y x0:α} {p:Addr} {K:Heap→Prop} (st:S ψ h0 h os) (i:Nat) (ho:os[i]?=some (.it (El.ow E) [v] xs)) (hp:AddrOf v k 1 p) (hk:gIdx xs k=some x0) (hz:E.z=1) (hy:∀ φ,E.R φ [] [c] y)
  (hK:∀ h',S ψ h0 h' (os.set i (.it (El.ow E) [v] (xs.set k.toNat y)))→K h'):vStore1 h p c K:=stN_S (cs:=[c]) st i ho hp hk hz hy hK
theorem ZxJ {E:El α} {z:Nat} {v:Value} {cs:List Value} {xs:List α} {k:Int} {y x0:α} {p:Addr} {K:Heap→Prop} (st:S ψ h0 h (.it E cs y::os)) (i:Nat) (ho:os[i]?=some (.it (El.ow E) [v] xs)) (hp:AddrOf v k z p) (hk:gIdx xs k=some x0) (hz:E.z=z)
  (hK:∀ h',S ψ h0 h' (os.set i (.it (El.ow E) [v] (xs.set k.toNat y)))→K h'):vStoreN p cs 0 h K:=by
 obtain ⟨φ,L,s,Ly,L',rfl,hy,r⟩:=st
 obtain ⟨L1,Lo,L2,rfl,e2,_,e4⟩:=r.at ho
 have s2:S0 ψ h0 h φ (Lo++(Ly++(L1++L2))):=s.perm (by
  have h2:(Ly++L1++Lo).Perm (Lo++(Ly++L1)):=List.perm_append_comm
  have h3:=h2.append_right L2
  simpa using h3)
 refine ZkV s2 (El.ow_to e2) hp hz hk hy fun rows1 rows2 h' s3 hown=>hK h' ⟨φ,L1++(rows1++Ly++rows2)++L2,s3.perm ?_,e4 φ (.it (El.ow E) [v] (xs.set k.toNat y)) _ (CLe.refl _) ⟨v,rfl,hown⟩⟩
 have h1:(rows1++rows2++Ly).Perm (rows1++Ly++rows2):=by
  simp only [List.append_assoc];exact List.perm_append_comm.append_left _
 have h2:(rows1++rows2++Ly++L1).Perm (L1++(rows1++Ly++rows2)):=(h1.append_right L1).trans List.perm_append_comm
 have h3:=h2.append_right L2
 simpa using h3
theorem ZnH {E:El α} {v c:Value} {xs:List α} {k:Int} {y x0:α} {p:Addr} {K:Heap→Prop} (st:S ψ h0 h (.it E [c] y::os)) (i:Nat) (ho:os[i]?=some (.it (El.ow E) [v] xs)) (hp:AddrOf v k 1 p) (hk:gIdx xs k=some x0) (hz:E.z=1)
  (hK:∀ h',S ψ h0 h' (os.set i (.it (El.ow E) [v] (xs.set k.toNat y)))→K h'):vStore1 h p c K:=ZxJ (cs:=[c]) st i ho hp hk hz hK
def loV (lo:Option Int):Option Value:=lo.map (Value.int .i64)
theorem Zea {a:Option Addr} {n c z:Nat} {lo hi:Option Int} {K:Value→Prop} (hnc:n≤c) (h1:0≤lo.getD 0) (h2:lo.getD 0≤hi.getD n) (h3:hi.getD n≤n)
  (hk:K (.slice (bif Nat.beq c (lo.getD 0).toNat then a else a.map (·.add ((lo.getD 0).toNat*z))) ((hi.getD n).toNat-(lo.getD 0).toNat) (c-(lo.getD 0).toNat))):vSliceS (.slice a n c) z (loV lo) (loV hi) none K:=by
 unfold vSliceS vBound loV
 cases hi with
 | none=>
  cases lo with
  | none=>simpa using hk
  | some l=>
   simp only [Option.map_none,Option.map_some,Option.getD_none,Option.getD_some] at *
   exact ⟨⟨h1,by omega⟩,by simpa using hk⟩
 | some x=>
  cases lo with
  | none=>
   simp only [Option.map_none,Option.map_some,Option.getD_none,Option.getD_some] at *
   exact ⟨⟨h2,by omega⟩,hk⟩
  | some l=>
   simp only [Option.map_some,Option.getD_some] at *
   exact ⟨⟨by omega,by omega⟩,⟨h1,by omega⟩,hk⟩
theorem ZiP {φ:CM} {E:El α} {v:Value} {xs ys:List α} {z:Nat} (lo hi:Option Int) (ha:SlC φ E v xs) (hs:gSl xs (lo.getD 0) (hi.getD xs.length)=some ys) (hz:E.z=z) {K:Value→Prop} (hk:∀ v',SlC φ E v' ys→K v'):vSliceS v z (loV lo) (loV hi) none K:=by
 obtain ⟨⟨h1,h2,h3⟩,rfl⟩:=Zjx hs
 subst hz
 rcases ha with ⟨rfl,rfl⟩|⟨a,c,rfl,hc,hel⟩
 ·refine Zea (Nat.le_refl _) h1 h2 h3 (hk _ ?_)
  simp only [List.length_nil] at h3 h2
  have e1:(lo.getD 0).toNat=0:=by omega
  have e2:(hi.getD ((0:Nat):Int)).toNat=0:=by omega
  rw [e1,e2]
  exact .inl ⟨by simp,by simp⟩
 ·refine Zea hc h1 h2 h3 (hk _ ?_)
  by_cases hm:c=(lo.getD 0).toNat
  ·have hb:Nat.beq c (lo.getD 0).toNat=true:=by rw [←hm];exact Nat.beq_refl c
   rw [hb]
   have hl:((xs.take (hi.getD ↑xs.length).toNat).drop (lo.getD 0).toNat)=[]:=by
    apply List.eq_nil_of_length_eq_zero
    rw [List.length_drop,List.length_take];omega
   rw [hl]
   exact .inr ⟨a,c-(lo.getD 0).toNat,by simp;omega,by simp,fun i x hx=>by simp at hx⟩
  ·have hb:Nat.beq c (lo.getD 0).toNat=false:=by
    cases hh:Nat.beq c (lo.getD 0).toNat with
    | false=>rfl
    | true=>exact absurd (Nat.eq_of_beq_eq_true hh) hm
   rw [hb]
   refine .inr ⟨a.add ((lo.getD 0).toNat*E.z),c-(lo.getD 0).toNat,?_,?_,fun i x hx=>?_⟩
   ·have:(List.drop (lo.getD 0).toNat (List.take (hi.getD ↑xs.length).toNat xs)).length=(hi.getD ↑xs.length).toNat-(lo.getD 0).toNat:=by rw [List.length_drop,List.length_take];omega
    rw [this];rfl
   ·rw [List.length_drop,List.length_take];omega
   ·rw [List.getElem?_drop] at hx
    have hlt:=ZR hx
    rw [List.length_take] at hlt
    rw [List.getElem?_take,if_pos (by omega)] at hx
    obtain ⟨cs,g1,g2⟩:=hel _ x hx
    refine ⟨cs,?_,g2⟩
    rw [Zf9]
    rwa [Nat.add_mul] at g1
theorem AllR.drop {φ:CM} {E:El α}:∀ (l:Nat) {L:Rws} {css:List (List Value)} {xs:List α},AllR φ E L css xs→∃ L',L'.Sublist L∧AllR φ E L' (css.drop l) (xs.drop l)
 | 0,L,_,_,h=>⟨L,List.Sublist.refl _,h⟩
 | l+1,L,[],[],h=>⟨L,List.Sublist.refl _,h⟩
 | l+1,L,_::_,_::_,⟨L1,L2,h1,_,h3⟩=>by
  obtain ⟨L',g1,g2⟩:=AllR.drop l h3
  exact ⟨L',by rw [h1];exact g1.trans (List.sublist_append_right ..),g2⟩
 | _+1,_,[],_::_,h=>h.elim
 | _+1,_,_::_,[],h=>h.elim
theorem AllR.take {φ:CM} {E:El α}:∀ (l:Nat) {L:Rws} {css:List (List Value)} {xs:List α},AllR φ E L css xs→∃ L',L'.Sublist L∧AllR φ E L' (css.take l) (xs.take l)
 | 0,L,_,_,_=>⟨[],List.nil_sublist _,rfl⟩
 | l+1,L,[],[],h=>⟨L,List.Sublist.refl _,h⟩
 | l+1,L,_::_,_::_,⟨L1,L2,h1,h2,h3⟩=>by
  obtain ⟨L',g1,g2⟩:=AllR.take l h3
  exact ⟨L1++L',by rw [h1];exact List.Sublist.append (List.Sublist.refl _) g1,L1,L',rfl,h2,g2⟩
 | _+1,_,[],_::_,h=>h.elim
 | _+1,_,_::_,[],h=>h.elim
theorem ZsR {E:El α} {φ:CM} {L:Rws} {css:List (List Value)} {xs:List α} (h:AllR φ E L css xs) (l:Nat):(css.take l).flatten.length=(xs.take l).length*E.z:=by
 obtain ⟨L',_,g⟩:=h.take l
 exact g.flat
theorem cut_S {E:El α} {v:Value} {xs ys:List α} {z:Nat} (lo hi:Option Int) (st:S ψ h0 h os) (i:Nat) (ho:os[i]?=some (.it (El.ow E) [v] xs)) (hs:gSl xs (lo.getD 0) (hi.getD xs.length)=some ys) (hz:E.z=z) {K:Value→Prop}
  (hk:∀ v',S ψ h0 h (os.set i (.it (El.ow E) [v'] ys))→K v'):vSliceS v z (loV lo) (loV hi) none K:=by
 obtain ⟨⟨h1,h2,h3⟩,rfl⟩:=Zjx hs
 subst hz
 obtain ⟨φ,L,s,r⟩:=st
 obtain ⟨L1,Lo,L2,e1,e2,_,e4⟩:=r.at ho
 have key:∀ v' Lo',Lo'.Sublist Lo→OwnL φ E Lo' v' ((xs.take (hi.getD ↑xs.length).toNat).drop (lo.getD 0).toNat)→K v':=fun v' Lo' hsub hown=>
  hk v' ⟨φ,L1++Lo'++L2,s.sub (by rw [e1];exact List.Sublist.append (List.Sublist.append (List.Sublist.refl _) hsub) (List.Sublist.refl _)),e4 φ (.it (El.ow E) [v'] _) Lo' (CLe.refl _) ⟨v',rfl,hown⟩⟩
 rcases El.ow_to e2 with ⟨rfl,rfl,rfl⟩|⟨b,c,pre,css,rest,Lr,rfl,hc,hrest,rfl,hall⟩
 ·refine Zea (Nat.le_refl _) h1 h2 h3 (key _ [] (List.Sublist.refl _) ?_)
  simp only [List.length_nil] at h3 h2
  have e1:(lo.getD 0).toNat=0:=by omega
  have e2:(hi.getD ((0:Nat):Int)).toNat=0:=by omega
  rw [e1,e2]
  exact .inl ⟨by simp,by simp,rfl⟩
 ·refine Zea hc h1 h2 h3 ?_
  generalize hL:(lo.getD 0).toNat=l
  generalize hH:(hi.getD ↑xs.length).toNat=m
  rw [hL,hH] at key
  have hlm:l≤m:=by omega
  have hmx:m≤xs.length:=by omega
  by_cases hm:c=l
  ·have hb:Nat.beq c l=true:=by rw [hm];exact Nat.beq_refl l
   rw [hb]
   have hl:(xs.take m).drop l=[]:=by
    apply List.eq_nil_of_length_eq_zero
    rw [List.length_drop,List.length_take];omega
   rw [hl] at key
   refine key _ [(b,Row.cs (pre++css.flatten++rest))] (List.Sublist.cons_cons _ (List.nil_sublist _)) (.inr ⟨b,c-l,pre,[],css.flatten++rest,[],?_,by simp,?_,by simp,rfl⟩)
   ·simp;omega
   ·rw [hm];simp
  ·have hb:Nat.beq c l=false:=by
    cases hh:Nat.beq c l with
    | false=>rfl
    | true=>exact absurd (Nat.eq_of_beq_eq_true hh) hm
   rw [hb]
   obtain ⟨La,a1,a2⟩:=hall.take m
   obtain ⟨Lb,b1,b2⟩:=a2.drop l
   have hpre:(css.take l).flatten.length=l*E.z:=by rw [ZsR hall l,List.length_take];congr 1;omega
   have hflat:css.flatten=(css.take l).flatten++((css.take m).drop l).flatten++(css.drop m).flatten:=by
    have e1:css=css.take m++css.drop m:=(List.take_append_drop m css).symm
    have e2:css.take m=(css.take m).take l++(css.take m).drop l:=(List.take_append_drop l _).symm
    have e3:(css.take m).take l=css.take l:=by rw [List.take_take];congr 1;omega
    rw [e3] at e2
    have f1:=congrArg List.flatten e1
    have f2:=congrArg List.flatten e2
    rw [List.flatten_append] at f1 f2
    rw [f1,f2]
   have hdm:(css.drop m).flatten.length=(xs.length-m)*E.z:=by
    obtain ⟨_,_,g⟩:=hall.drop m
    rw [g.flat,List.length_drop]
   refine key _ ((b,.cs (pre++css.flatten++rest))::Lb) (List.Sublist.cons_cons _ (b1.trans a1)) (.inr ⟨b,c-l,pre++(css.take l).flatten,(css.take m).drop l,(css.drop m).flatten++rest,Lb,?_,?_,?_,?_,b2⟩)
   ·have:(List.drop l (List.take m xs)).length=m-l:=by rw [List.length_drop,List.length_take];omega
    rw [this,List.length_append,hpre]
    simp [Z7]
   ·rw [List.length_drop,List.length_take];omega
   ·rw [List.length_drop,List.length_take,List.length_append,hdm,Nat.min_eq_left hmx]
    have:(c-l-(m-l))*E.z=(c-xs.length)*E.z+(xs.length-m)*E.z:=by rw [←Nat.add_mul];congr 1;omega
    omega
   ·rw [hflat];simp
theorem joinS {φ:CM} {L:Rws} {h':Heap} {ns:List Ob} (s:S0 ψ h0 h φ L) (r:Rel φ os L) (t:S φ h h' ns):S ψ h0 h' (ns++os):=by
 obtain ⟨φ',M,t1,t2⟩:=t
 exact ⟨φ',M++L,s.call t1,Rel.app (r.mono t1.bas) t2⟩
theorem join0 {φ:CM} {L:Rws} {h':Heap} (s:S0 ψ h0 h φ L) (r:Rel φ os L) (t:S φ h h' []):S ψ h0 h' os:=joinS s r t
theorem join1 {φ:CM} {L:Rws} {h':Heap} {a:Ob} (s:S0 ψ h0 h φ L) (r:Rel φ os L) (t:S φ h h' [a]):S ψ h0 h' (a::os):=joinS s r t
theorem join2 {φ:CM} {L:Rws} {h':Heap} {a b:Ob} (s:S0 ψ h0 h φ L) (r:Rel φ os L) (t:S φ h h' [a,b]):S ψ h0 h' (a::b::os):=joinS s r t
theorem join4 {φ:CM} {L:Rws} {h':Heap} {a0 a1 a2 a3:Ob} (s:S0 ψ h0 h φ L) (r:Rel φ os L) (t:S φ h h' [a0,a1,a2,a3]):S ψ h0 h' (a0::a1::a2::a3::os):=joinS s r t
theorem frF {φ:CM} {L:Rws} {E:El α} {v:Value} {xs:List α} (r:Rel φ os L) (i:Nat) (ho:os[i]?=some (.it (El.sl E) [v] xs)):SlC φ E v xs:=by
 obtain ⟨_,Lo,_,_,e2,_,_⟩:=r.at ho
 exact El.sl_to e2
theorem S.arg {E:El α} {v:Value} {xs:List α} (st:S ψ h0 h os) (hv:SlC ψ E v xs):S ψ h0 h (.it (El.sl E) [v] xs::os):=by
 obtain ⟨φ,L,s,r⟩:=st
 exact ⟨φ,L,s,[],L,rfl,El.sl_of (hv.mono s.bas),r⟩
def El.pair {β:Type} (E:El α) (F:El β):El (α×β) where
 z:=E.z+F.z
 R:=fun φ L cs x=>∃ c1 c2 L1 L2,cs=c1++c2∧L=L1++L2∧E.R φ L1 c1 x.1∧F.R φ L2 c2 x.2
 mono:=fun hl ⟨c1,c2,L1,L2,h1,h2,h3,h4⟩=>⟨c1,c2,L1,L2,h1,h2,E.mono hl h3,F.mono hl h4⟩
 len:=fun ⟨c1,c2,L1,L2,h1,h2,h3,h4⟩=>by rw [h1,List.length_append,E.len h3,F.len h4]
 one:=fun ⟨c1,c2,L1,L2,h1,h2,h3,h4⟩ v hv=>by
  rw [h1] at hv
  rcases List.mem_append.1 hv with h|h
  ·exact E.one h3 v h
  ·exact F.one h4 v h
 zc:=E.zc++F.zc
 zx:=(E.zx,F.zx)
 hz:=fun φ=>⟨_,_,[],[],rfl,rfl,E.hz φ,F.hz φ⟩
def El.iso {β:Type} (E:El α) (f:β→α) (z:β) (hz:f z=E.zx):El β where
 z:=E.z
 R:=fun φ L cs x=>E.R φ L cs (f x)
 mono:=fun hl h=>E.mono hl h
 len:=fun h=>E.len h
 one:=fun h=>E.one h
 zc:=E.zc
 zx:=z
 hz:=fun φ=>by rw [hz];exact E.hz φ
theorem ZAy {β:Type} {E E':El α} {F F':El β} (h1:Frz E E') (h2:Frz F F'):Frz (El.pair E F) (El.pair E' F'):=by
 refine ⟨by show E.z+F.z=E'.z+F'.z;rw [h1.1,h2.1],fun φ L cs x ⟨c1,c2,L1,L2,g1,g2,g3,g4⟩ hr=>?_⟩
 subst g2
 exact ⟨c1,c2,[],[],g1,rfl,h1.2 _ _ _ _ g3 hr.left,h2.2 _ _ _ _ g4 hr.right⟩
theorem ZzI {β:Type} {E E':El α} {f:β→α} {z:β} {hz:f z=E.zx} {hz':f z=E'.zx} (h:Frz E E'):Frz (El.iso E f z hz) (El.iso E' f z hz'):=⟨h.1,fun φ L cs x hh hr=>h.2 φ L cs (f x) hh hr⟩
theorem S.weak {ψ':CM} (t:S ψ' h0 h []) (hl:CLe ψ (hcell h0)):S ψ h0 h []:=by
 have hx:=t.ext
 have st:S ψ h0 h0 []:=S.start hl
 obtain ⟨φ,L,s,r⟩:=st
 exact ⟨φ,L,⟨hx,fun b c hm=>(s.row b c hm).ext hx,s.low,s.nod,s.fle.trans (CLe.ext hx),s.dis,s.bas,s.old⟩,r⟩
theorem bifP {ρ:Type} {c:Bool} {a b:Option ρ} {r:ρ} {A B:Prop} (hp:(bif c then a else b)=some r) (ha:c=true→a=some r→A) (hb:c=false→b=some r→B):bif c then A else B:=by
 cases c with
 | true=>exact ha rfl hp
 | false=>exact hb rfl hp
theorem Rel.split {φ:CM}:∀ {os:List Ob} {L:Rws},Rel φ os L→∃ Ls:List Rws,L=Ls.flatten∧∀ (i:Nat) o,os[i]?=some o→∃ Li,Ls[i]?=some Li∧o.ok φ Li
 | [],L,h=>⟨[],h,fun i o ho=>by simp at ho⟩
 | o::os,L,⟨L1,L2,h1,h2,h3⟩=>by
  obtain ⟨Ls,e1,e2⟩:=Rel.split h3
  refine ⟨L1::Ls,by rw [h1,e1];rfl,fun i o' ho=>?_⟩
  cases i with
  | zero=>simp at ho;subst ho;exact ⟨L1,rfl,h2⟩
  | succ i=>exact e2 i o' (by simpa using ho)
theorem ZrJ {Ls:List Rws} {i:Nat} {Li:Rws} (h:Ls[i]?=some Li) {x:Nat×Row} (hx:x∈Li):x∈Ls.flatten:=List.mem_flatten.2 ⟨Li,List.mem_of_getElem? h,hx⟩
theorem Zkr:∀ {Ls:List Rws} {i j:Nat} {Li Lj:Rws},(Rws.bs Ls.flatten).Nodup→Ls[i]?=some Li→Ls[j]?=some Lj→i≠j→∀ b,b∈Li.bs→b∈Lj.bs→False
 | [],i,j,Li,Lj,_,hi,_,_,_,_,_=>by simp at hi
 | L::Ls,i,j,Li,Lj,hn,hi,hj,hij,b,h1,h2=>by
  have hbs:Rws.bs (L::Ls).flatten=L.bs++Rws.bs Ls.flatten:=by unfold Rws.bs;rw [List.flatten_cons,List.map_append]
  rw [hbs] at hn
  obtain ⟨n1,n2,n3⟩:=List.nodup_append.1 hn
  have up:∀ {k:Nat} {Lk:Rws},Ls[k]?=some Lk→b∈Lk.bs→b∈Rws.bs Ls.flatten:=fun hk hb=>by
   obtain ⟨x,hx,rfl⟩:=List.mem_map.1 hb
   exact List.mem_map.2 ⟨x,ZrJ hk hx,rfl⟩
  cases i with
  | zero=>
   simp at hi;subst hi
   cases j with
   | zero=>exact hij rfl
   | succ j=>exact n3 _ h1 _ (up (by simpa using hj) h2) rfl
  | succ i=>
   cases j with
   | zero=>simp at hj;subst hj;exact n3 _ h2 _ (up (by simpa using hi) h1) rfl
   | succ j=>exact Zkr n2 (by simpa using hi) (by simpa using hj) (by omega) b h1 h2
theorem ZoJ:∀ {Ls:List Rws} {i:Nat} {Li:Rws},(Rws.bs Ls.flatten).Nodup→Ls[i]?=some Li→Li.bs.Nodup
 | [],i,Li,_,hi=>by simp at hi
 | L::Ls,i,Li,hn,hi=>by
  have hbs:Rws.bs (L::Ls).flatten=L.bs++Rws.bs Ls.flatten:=by unfold Rws.bs;rw [List.flatten_cons,List.map_append]
  rw [hbs] at hn
  obtain ⟨n1,n2,n3⟩:=List.nodup_append.1 hn
  cases i with
  | zero=>simp at hi;subst hi;exact n1
  | succ i=>exact ZoJ n2 (by simpa using hi)
theorem ZqH {φ:CM} {os:List Ob} {Ls:List Rws} (hn:(Rws.bs Ls.flatten).Nodup) (hs:∀ (i:Nat) o,os[i]?=some o→∃ Li,Ls[i]?=some Li∧o.ok φ Li):∀ (is:List Nat),is.Nodup →
  ∃ M:Rws,Rel φ (is.filterMap fun i=>os[i]?) M∧M.bs.Nodup∧(∀ x∈M,x∈Ls.flatten)∧∀ b∈M.bs,∃ i∈is,∃ Li,Ls[i]?=some Li∧b∈Li.bs
 | [],_=>⟨[],rfl,by simp [Rws.bs],(fun x hx=>by cases hx),fun b hb=>by simp [Rws.bs] at hb⟩
 | i::is,hnd=>by
  obtain ⟨h1,h2⟩:=List.nodup_cons.1 hnd
  obtain ⟨M,m1,m2,m3,m4⟩:=ZqH hn hs is h2
  cases ho:os[i]? with
  | none=>
   rw [List.filterMap_cons,ho]
   exact ⟨M,m1,m2,m3,fun b hb=>by obtain ⟨k,hk,r⟩:=m4 b hb;exact ⟨k,List.mem_cons_of_mem _ hk,r⟩⟩
  | some o=>
   obtain ⟨Li,e1,e2⟩:=hs i o ho
   rw [List.filterMap_cons,ho]
   have hbs:Rws.bs (Li++M)=Li.bs++M.bs:=by unfold Rws.bs;rw [List.map_append]
   refine ⟨Li++M,⟨Li,M,rfl,e2,m1⟩,?_,fun x hx=>?_,fun b hb=>?_⟩
   ·rw [hbs]
    refine List.nodup_append.2 ⟨ZoJ hn e1,m2,fun a ha b hb e=>?_⟩
    subst e
    obtain ⟨k,hk,Lk,g1,g2⟩:=m4 a hb
    exact Zkr hn e1 g1 (fun e=>h1 (e▸hk)) a ha g2
   ·rcases List.mem_append.1 hx with h|h
    ·exact ZrJ e1 h
    ·exact m3 x h
   ·rw [hbs] at hb
    rcases List.mem_append.1 hb with h|h
    ·exact ⟨i,List.mem_cons_self ..,Li,e1,h⟩
    ·obtain ⟨k,hk,r⟩:=m4 b h;exact ⟨k,List.mem_cons_of_mem _ hk,r⟩
theorem S.pick (st:S ψ h0 h os) (is:List Nat) (hnd:is.Nodup):S ψ h0 h (is.filterMap fun i=>os[i]?):=by
 obtain ⟨φ,L,s,r⟩:=st
 obtain ⟨Ls,rfl,hs⟩:=r.split
 obtain ⟨M,m1,m2,m3,_⟩:=ZqH s.nod hs is hnd
 have hb:∀ b,b∈M.bs→b∈Rws.bs Ls.flatten:=fun b hb=>by
  obtain ⟨x,hx,rfl⟩:=List.mem_map.1 hb
  exact List.mem_map.2 ⟨x,m3 x hx,rfl⟩
 exact ⟨φ,M,⟨s.ext,fun b cs hm=>s.row b cs (m3 _ hm),fun b hm=>s.low b (hb b hm),m2,s.fle,fun p u hp hm=>s.dis p u hp (hb _ hm),s.bas,s.old⟩,m1⟩
theorem S.clear (st:S ψ h0 h os):S ψ h0 h []:=st.pick [] (by simp)
theorem Zae {b:Int} {u:Unit} (h:gNz b=some u):b≠0:=by unfold gNz at h;split at h<;>first|assumption|cases h
theorem Zfy {b:Int} {u:Unit} (h:gNn b=some u):0≤b:=by unfold gNn at h;split at h<;>first|assumption|cases h
theorem Zad {a b:ByteArray} {u:Unit} (h:gFit a b=some u):((a.size+b.size:Nat):Int)≤IntKind.i64.max:=by unfold gFit at h;split at h<;>first|assumption|cases h
theorem Za2 {s:ByteArray} {i:Int} {c:UInt8} (h:gSt s i=some c) {K:UInt8→Prop} (hk:K c):vStrIdx s i K:=by
 obtain ⟨h1,h2⟩:=Zsz h
 exact ⟨c,h1,h2,hk⟩
theorem Zam {s t:ByteArray} (lo hi:Option Int) (h:gStSl s (lo.getD 0) (hi.getD s.size)=some t) {K:ByteArray→Prop} (hk:K t):vSliceStr s (loV lo) (loV hi) K:=by
 obtain ⟨⟨h1,h2,h3⟩,rfl⟩:=Zr7 h
 unfold vSliceStr vBound loV
 cases hi with
 | none=>
  cases lo with
  | none=>simpa using hk
  | some l=>
   simp only [Option.map_none,Option.map_some,Option.getD_none,Option.getD_some] at *
   exact ⟨⟨h1,by omega⟩,by simpa using hk⟩
 | some x=>
  cases lo with
  | none=>
   simp only [Option.map_none,Option.map_some,Option.getD_none,Option.getD_some] at *
   exact ⟨⟨h2,by omega⟩,hk⟩
  | some l=>
   simp only [Option.map_some,Option.getD_some] at *
   exact ⟨⟨by omega,by omega⟩,⟨h1,by omega⟩,hk⟩
theorem S.nilO {E:El α} (st:S ψ h0 h os):S ψ h0 h (.it (El.ow E) [.slice none 0 0] []::os):=st.nil E
theorem S.nilF {E:El α} (st:S ψ h0 h os):S ψ h0 h (.it (El.sl E) [.slice none 0 0] []::os):=st.put fun _=>El.sl_of SlC.nil
theorem S.copyF {E:El α} {cs:List Value} {x:List α} (st:S ψ h0 h os) (i:Nat) (ho:os[i]?=some (.it (El.sl E) cs x)):S ψ h0 h (.it (El.sl E) cs x::os):=by
 obtain ⟨φ,L,s,r⟩:=st
 obtain ⟨L1,Lo,L2,e1,e2,_,_⟩:=r.at ho
 have e3:Lo=[]:=e2.1
 subst e3
 exact ⟨φ,L,s,[],L,rfl,e2,r⟩
theorem CellsC.part {φ:CM} {p:Addr} {cs:List Value} (off n:Nat) (hc:CellsC φ p cs):CellsC φ (p.add off) ((cs.drop off).take n):=by
 intro j u hu
 have hlt:=ZR hu
 rw [List.length_take] at hlt
 rw [List.getElem?_take,if_pos (by omega),List.getElem?_drop] at hu
 rw [Zf9]
 exact hc _ _ hu
theorem S.leF (st:S ψ h0 h os):CLe ψ (hcell h):=by obtain ⟨φ,L,s,_⟩:=st;exact s.bas.trans s.fle
theorem omap {β γ:Type} {o:Option β} {f:β→γ} {y:γ} (h:o.map f=some y):∃ x,o=some x∧f x=y:=by
 cases o with
 | none=>cases h
 | some x=>exact ⟨x,rfl,Option.some.inj h⟩
theorem ZuQ {φ:CM} {E:El α} {v:Value} {xs:List α} (ha:SlC φ E v xs) {K:Bool→Prop} (h1:v=.slice none 0 0→xs=[]→K true) (h2:K false):vNilS false v K:=by
 rcases ha with ⟨rfl,rfl⟩|⟨a,c,rfl,_⟩
 ·exact h1 rfl rfl
 ·exact h2
def UB (ψ:CM) (h0:Heap):CM:=fun p=>match ψ p with
 | some u=>some u
 | none=>hcell h0 p
theorem ub_le {χ:CM} (h1:CLe ψ χ) (h2:CLe (hcell h0) χ):CLe (UB ψ h0) χ:=fun p u hp=>by
 unfold UB at hp
 split at hp
 ·rename_i w hw;cases hp;exact h1 p _ hw
 ·exact h2 p u hp
theorem S.leU (st:S ψ h0 h os):CLe (UB ψ h0) (hcell h):=ub_le st.leF st.le
theorem S0.ubH {φ:CM} {L:Rws} (s:S0 ψ h0 h φ L):CLe (hcell h0) (UB φ h0):=fun p u hp=>by
 unfold UB
 cases hq:φ p with
 | none=>exact hp
 | some w=>
  have h1:=s.fle p w hq
  have h2:=Zgy s.ext hp
  rw [h1] at h2;exact h2
theorem S0.upS {φ:CM} {L:Rws} (s:S0 ψ h0 h φ L) (r:Rel φ os L):S φ h0 h os:=
 ⟨φ,L,⟨s.ext,s.row,s.low,s.nod,s.fle,s.dis,CLe.refl _,fun _ _ hp _=>hp⟩,r⟩
theorem S0.downS {φ:CM} {L:Rws} {h':Heap} {ns:List Ob} (s:S0 ψ h0 h φ L) (t:S φ h0 h' ns):S ψ h0 h' ns:=by
 obtain ⟨φ',M,t1,t2⟩:=t
 exact ⟨φ',M,⟨t1.ext,t1.row,t1.low,t1.nod,t1.fle,t1.dis,s.bas.trans t1.bas,fun p u hp hl=>s.old p u (t1.old p u hp hl) hl⟩,t2⟩
theorem Zwa {β:Type 1} (l:List β):∀ n,(List.range' n (l.length-n)).filterMap (fun i=>l[i]?)=l.drop n:=by
 intro n
 induction hk:l.length-n generalizing n with
 | zero=>rw [List.drop_of_length_le (by omega)];rfl
 | succ k ih=>
  have hlt:n<l.length:=by omega
  rw [List.range'_succ,List.filterMap_cons,List.drop_eq_getElem_cons hlt]
  have:l[n]?=some l[n]:=by simp [hlt]
  rw [this]
  have:=ih (n+1) (by omega)
  simp only
  rw [this]
theorem S.pickT (st:S ψ h0 h os) (n:Nat) (is:List Nat) (hnd:is.Nodup) (hb:∀ i∈is,i<n):S ψ h0 h ((is.filterMap fun i=>os[i]?)++os.drop n):=by
 have:=st.pick (is++List.range' n (os.length-n)) (by
  refine List.nodup_append.2 ⟨hnd,List.nodup_range',fun a ha b hb' e=>?_⟩
  subst e
  have h1:=hb a ha
  have h2:=List.mem_range'_1.1 hb'
  omega)
 rw [List.filterMap_append,Zwa] at this
 exact this
def Hd (h:Heap) (v:Value) (i:Int) (u:Value):Prop:=∃ a n c,v=.slice (some a) n c∧hcell h (a.add (i.toNat*1))=some u
theorem Zoz {E:El α} {φ:CM} {Lo:Rws} {v:Value} {xss:List (List α)} {i:Int} {xs:List α} (hrow:RowsC (hcell h) Lo) (ho:OwnL φ (El.ow E) Lo v xss) (hx:gIdx xss i=some xs):
  ∃ (b c:Nat) (pre:List Value) (pr:List (List Value)) (u:Value) (po:List (List Value)) (rest:List Value) (M1 Mo M2:Rws),v=.slice (some ⟨b,pre.length,none⟩) xss.length c∧xss.length≤c∧(c-xss.length)*1≤rest.length∧Lo=(b,.cs ((pre++pr.flatten)++u::(po.flatten++rest)))::(M1++Mo++M2)∧pr.flatten.length=i.toNat∧OwnL φ E Mo u xs∧hcell h ⟨b,pre.length+i.toNat,none⟩=some u ∧
   ∀ Mo' xs',OwnL φ E Mo' u xs'→OwnL φ (El.ow E) ((b,.cs ((pre++pr.flatten)++u::(po.flatten++rest)))::(M1++Mo'++M2)) v (xss.set i.toNat xs'):=by
 obtain ⟨g1,g2⟩:=ZaV hx
 rcases ho with ⟨_,rfl,_⟩|⟨b,c,pre,css,rest,Lr,rfl,hc,hrest,rfl,hall⟩
 ·simp at g2
 obtain ⟨d,M1,Mo,M2,pr,po,rfl,k2,k3,⟨u,rfl,k4⟩,k5⟩:=hall.at g2
 have hfl:=AllR.pre_flat pr xss _ (by rw [←k2];exact hall)
 have hfl':pr.flatten.length=i.toNat:=by rw [hfl,k3];exact Nat.mul_one _
 have hcs:pre++css.flatten++rest=(pre++pr.flatten)++u::(po.flatten++rest):=by rw [k2];simp
 refine ⟨b,c,pre,pr,u,po,rest,M1,Mo,M2,rfl,hc,hrest,by rw [hcs],hfl',k4,?_,fun Mo' xs' hm=>.inr ⟨b,c,pre,pr++[u]::po,rest,M1++Mo'++M2,by simp,by simpa using hc,by simpa using hrest,by simp,k5 [u] Mo' xs' ⟨u,rfl,hm⟩⟩⟩
 refine hrow b _ (List.mem_cons_self ..) _ _ ?_
 rw [hcs,List.getElem?_append_right (by rw [List.length_append];omega),List.length_append,hfl']
 simp
theorem Zei {E:El α} {v:Value} {xss:List (List α)} {i:Int} {xs:List α} {p:Addr} (st:S ψ h0 h os) (k:Nat) (ho:os[k]?=some (.it (El.ow (El.ow E)) [v] xss)) (hp:AddrOf v i 1 p) (hx:gIdx xss i=some xs) {K:Value→Prop} (hk:∀ u,Hd h v i u→K u):ldV h p K:=by
 obtain ⟨φ,L,s,r⟩:=st
 obtain ⟨L1,Lo,L2,e1,e2,_,_⟩:=r.at ho
 have hr:=s.rows
 rw [e1] at hr
 obtain ⟨b,c,pre,pr,u,po,rest,M1,Mo,M2,rfl,_,_,_,_,_,hc,_⟩:=Zoz hr.left.right (El.ow_to e2) hx
 obtain ⟨a,n,c',e,rfl⟩:=hp
 cases e
 refine ⟨u,?_,hk u ⟨_,_,_,rfl,?_⟩⟩<;>(rw [Z7,Nat.mul_one];exact hc)
theorem Hd.eq {v u u':Value} {i:Int} {b n c off:Nat} (hd:Hd h v i u) (hv:v=.slice (some ⟨b,off,none⟩) n c) (hc:hcell h ⟨b,off+i.toNat,none⟩=some u'):u=u':=by
 obtain ⟨a,n',c',e,h1⟩:=hd
 rw [hv] at e;cases e
 rw [Z7,Nat.mul_one,hc] at h1
 exact (Option.some.inj h1).symm
theorem S.rowC {E E':El α} {v u:Value} {xss:List (List α)} {i:Int} {xs:List α} (st:S ψ h0 h os) (k:Nat) (ho:os[k]?=some (.it (El.ow (El.ow E)) [v] xss)) (hd:Hd h v i u) (hx:gIdx xss i=some xs) (hf:Frz E E'):SlC (hcell h) E' u xs:=by
 obtain ⟨φ,L,s,r⟩:=st
 obtain ⟨L1,Lo,L2,e1,e2,_,_⟩:=r.at ho
 have hr:=s.rows
 rw [e1] at hr
 have hr2:=hr.left.right
 obtain ⟨b,c,pre,pr,u',po,rest,M1,Mo,M2,hv,_,_,hLo,_,hm,hc,_⟩:=Zoz hr2 (El.ow_to e2) hx
 obtain rfl:=hd.eq hv hc
 refine El.sl_to ((Ze hf).2 (hcell h) Mo [u] xs ((El.ow E).mono s.fle ⟨u,rfl,hm⟩) ?_)
 rw [hLo] at hr2
 intro b' row hmem
 exact hr2 b' row (by simp [hmem])
def IsView (v:Value) (z l m:Nat) (v':Value):Prop:=(v=.slice none 0 0∧v'=.slice none 0 0)∨∃ a n c,v=.slice (some a) n c∧l≤m∧m≤n∧n≤c∧v'=.slice (some (bif Nat.beq c l then a else a.add (l*z))) (m-l) (c-l)
theorem ZsC {φ:CM} {E:El α} {v:Value} {xs ys:List α} {z:Nat} (lo hi:Option Int) (ha:SlC φ E v xs) (hs:gSl xs (lo.getD 0) (hi.getD xs.length)=some ys) {K:Value→Prop} (hk:∀ v',IsView v z (lo.getD 0).toNat (hi.getD xs.length).toNat v'→K v'):vSliceS v z (loV lo) (loV hi) none K:=by
 obtain ⟨⟨h1,h2,h3⟩,rfl⟩:=Zjx hs
 rcases ha with ⟨rfl,rfl⟩|⟨a,c,rfl,hc,hel⟩
 ·refine Zea (Nat.le_refl _) h1 h2 h3 (hk _ (.inl ⟨rfl,?_⟩))
  simp only [List.length_nil] at h3 h2
  have e1:(lo.getD 0).toNat=0:=by omega
  have e2:(hi.getD ((0:Nat):Int)).toNat=0:=by omega
  rw [e1,e2];simp
 ·refine Zea hc h1 h2 h3 (hk _ (.inr ⟨a,_,c,rfl,by omega,by omega,hc,?_⟩))
  cases Nat.beq c (lo.getD 0).toNat<;>rfl
theorem IsView.sl {τ φ:CM} {E:El α} {v v':Value} {xs:List α} {l m:Nat} (hv:IsView v E.z l m v') (hs:(v=.slice none 0 0∧xs=[])∨∃ a c,v=.slice (some a) xs.length c∧xs.length≤c∧∀ (i:Nat) x,xs[i]?=some x→∃ cs,CellsC τ (a.add (i*E.z)) cs∧E.R φ [] cs x):
  (v'=.slice none 0 0∧(xs.take m).drop l=[])∨∃ a c,v'=.slice (some a) ((xs.take m).drop l).length c∧((xs.take m).drop l).length≤c∧∀ (i:Nat) x,((xs.take m).drop l)[i]?=some x→∃ cs,CellsC τ (a.add (i*E.z)) cs∧E.R φ [] cs x:=by
 rcases hs with ⟨rfl,rfl⟩|⟨a,c,rfl,hc,hel⟩
 ·rcases hv with ⟨_,rfl⟩|⟨a,n,c,e,_⟩
  ·exact .inl ⟨rfl,by simp⟩
  ·cases e
 ·rcases hv with ⟨e,_⟩|⟨a',n,c',e,h1,h2,h3,rfl⟩
  ·cases e
  cases e
  have hl:((xs.take m).drop l).length=m-l:=by rw [List.length_drop,List.length_take];omega
  refine .inr ⟨_,c-l,by rw [hl],by rw [hl];omega,fun i x hx=>?_⟩
  have hlt:=ZR hx
  rw [hl] at hlt
  have hne:Nat.beq c l=false:=by
   cases hh:Nat.beq c l with
   | false=>rfl
   | true=>have:=Nat.eq_of_beq_eq_true hh;omega
  rw [hne]
  rw [List.getElem?_drop,List.getElem?_take,if_pos (by omega)] at hx
  obtain ⟨cs,g1,g2⟩:=hel _ x hx
  refine ⟨cs,?_,g2⟩
  show CellsC τ ((a.add (l*E.z)).add (i*E.z)) cs
  rw [Zf9,←Nat.add_mul]
  exact g1
theorem IsView.C {φ:CM} {E:El α} {v v':Value} {xs ys:List α} {z:Nat} {lo hi:Int} (hv:IsView v z lo.toNat hi.toNat v') (ha:SlC φ E v xs) (hs:gSl xs lo hi=some ys) (hz:E.z=z):SlC φ E v' ys:=by
 obtain ⟨_,rfl⟩:=Zjx hs
 subst hz
 exact hv.sl ha
theorem Zoc (st:S ψ h0 h os) {cs:List Value} {t:TypeId} {K:Addr→Heap→Prop} (hk:∀ b h',ExtH h h'→S ψ h0 h' (.box b cs::os)→K ⟨b,0,none⟩ h'):vNew h (.cells cs.toArray t) K:=by
 obtain ⟨φ,L,s,r⟩:=st
 exact hk _ _ (ExtH.push h _) ⟨φ,_,s.new cs t,[(h.size,.cs cs)],L,rfl,rfl,r⟩
theorem Zar {E:El α} {bytes:Nat} {zero:List Value} {el:TypeId} {n c:Int} {xs:List α} (st:S ψ h0 h os) (hz:zero=E.zc) (hm:gMake bytes E.zx n c=some xs) {K:Value→Heap→Prop}
  (hk:∀ v h',ExtH h h'→S ψ h0 h' (.it (El.ow E) [v] xs::os)→K v h'):vMake bytes zero el n c h K:=by
 have:=Zbx (E:=E) (K:=fun v h'=>ExtH h h'→K v h') (el:=el) st hz hm fun v h' s hx=>hk v h' hx s
 exact ⟨this.1,this.2 (ExtH.push h _)⟩
theorem AllR.frz {E E':El α} (hf:Frz E E') {φ:CM}:∀ {L:Rws} {css:List (List Value)} {xs:List α},AllR φ E L css xs→RowsC φ L→AllR φ E' [] css xs
 | _,[],[],_,_=>rfl
 | _,_::_,_::_,⟨L1,L2,h1,h2,h3⟩,hr=>by
  subst h1
  exact ⟨[],[],rfl,hf.2 _ _ _ _ h2 hr.left,AllR.frz hf h3 hr.right⟩
 | _,[],_::_,h,_=>h.elim
 | _,_::_,[],h,_=>h.elim
theorem S.frzIn {E E':El α} {v:Value} {xs:List α} (st:S ψ h0 h os) (i:Nat) (ho:os[i]?=some (.it (El.ow E) [v] xs)) (hf:Frz E E'):S ψ h0 h (os.set i (.it (El.ow E') [v] xs)):=by
 obtain ⟨φ,L,s,r⟩:=st
 obtain ⟨L1,Lo,L2,e1,e2,_,e4⟩:=r.at ho
 rcases El.ow_to e2 with ⟨h1,h2,h3⟩|⟨b,c,pre,css,rest,Lr,f1,f2,f3,f4,f5⟩
 ·exact ⟨φ,L1++[]++L2,by rw [←h3,←e1];exact s,e4 φ (.it (El.ow E') [v] xs) [] (CLe.refl _) ⟨v,rfl,.inl ⟨h1,h2,rfl⟩⟩⟩
 ·have s2:S0 ψ h0 h φ (Lr++(L1++[(b,Row.cs (pre++css.flatten++rest))]++L2)):=s.perm (by
   rw [e1,f4]
   have h1:(L1++[(b,Row.cs (pre++css.flatten++rest))]++Lr).Perm (Lr++(L1++[(b,Row.cs (pre++css.flatten++rest))])):=List.perm_append_comm
   have h2:=h1.append_right L2
   simpa using h2)
  obtain ⟨φ',g1,g2,g3⟩:=s2.freeze
  refine ⟨φ',L1++[(b,Row.cs (pre++css.flatten++rest))]++L2,g3,e4 φ' (.it (El.ow E') [v] xs) _ g1 ⟨v,rfl,.inr ⟨b,c,pre,css,rest,[],f1,f2,by rw [←hf.1];exact f3,rfl,(f5.mono g1).frz hf g2⟩⟩⟩
end
end Go.Vc
