import Derived.Test.YtghbgeaammnkcaaGreatDoorVcS2
namespace Go.Vc
set_option linter.unusedVariables false
set_option linter.unusedSimpArgs false
open Go
section
variable {ψ:CM} {h0 h:Heap} {os:List Ob} {α:Type}
theorem AllR.pre_flat {φ:CM} {E:El α} {d:List Value} {po:List (List Value)}:∀ (q:List (List Value)) (y:List α) (M:Rws),AllR φ E M (q++d::po) y→q.flatten.length=q.length*E.z
 | [],_,_,_=>by simp
 | a::q,[],_,h=>h.elim
 | a::q,c::y,M,⟨_,_,_,b,k3⟩=>by
  rw [List.flatten_cons,List.length_append,E.len b,AllR.pre_flat q y _ k3,List.length_cons,Nat.add_mul];omega
theorem Zkt {E:El α} {φ:CM} {z:Nat} {rows M Ly:Rws} {v:Value} {cs:List Value} {xs:List α} {k:Int} {y j:α} {p:Addr} {K:Heap→Prop}
  (s:S0 ψ h0 h φ (rows++M)) (ho:OwnL φ E rows v xs) (hp:AddrOf v k z p) (hz:E.z=z) (hk:gIdx xs k=some j) (hy:E.R φ Ly cs y)
  (hK:∀ f g h',S0 ψ h0 h' φ (f++g++M)→OwnL φ E (f++Ly++g) v (xs.set k.toNat y)→K h'):vStoreN p cs 0 h K:=by
 subst hz
 obtain ⟨u,l⟩:=Zbf hk
 obtain ⟨a,n,c,rfl,rfl⟩:=hp
 rcases ho with ⟨e,_⟩|⟨b,c,pre,css,rest,Lr,e,m,hrest,rfl,hall⟩
 ·cases e
 cases e
 obtain ⟨d,M1,Mo,M2,pr,po,k1,i,k3,o,r⟩:=hall.at l
 have hfl:=AllR.pre_flat pr xs Lr (by rw [←i];exact hall)
 have w:=E.len o
 have hcl:=E.len hy
 rw [Zar]
 have sm:Sta h0 h ((b,.cs ((pre++pr.flatten)++d++(po.flatten++rest)))::(Lr++M)) fun x=>CLe φ (hcell x):=by
  have:=s.sta
  rw [i] at this
  simpa using this
 refine Zk4 cs d (pre++pr.flatten) _ 0 h _ (by rw [List.length_append,hfl,k3];rfl) (by omega) (E.one hy) sm fun h' t=>?_
 have s2:S0 ψ h0 h' φ ((b,.cs ((pre++pr.flatten)++cs++(po.flatten++rest)))::(Lr++M)):=s.of_sta' t rfl
 refine hK ((b,.cs ((pre++pr.flatten)++cs++(po.flatten++rest)))::M1) M2 h' (s2.sub ?_) (.inr ⟨b,c,pre,pr++cs::po,rest,M1++Ly++M2,?_,?_,?_,?_,r cs Ly y hy⟩)
 ·rw [k1]
  simp only [List.cons_append,List.append_assoc]
  refine List.Sublist.cons_cons _ (List.Sublist.append (List.Sublist.refl _) (List.sublist_append_of_sublist_right ?_))
  exact List.Sublist.refl _
 ·simp
 ·simpa using m
 ·simpa using hrest
 ·simp
theorem stN_S {E:El α} {z:Nat} {v:Value} {cs:List Value} {xs:List α} {k:Int} {y c:α} {p:Addr} {K:Heap→Prop} (st:S ψ h0 h os) (i:Nat) (ho:os[i]?=some (.it (El.ow E) [v] xs)) (hp:AddrOf v k z p) (hk:gIdx xs k=some c) (hz:E.z=z) (hy:∀ φ,E.R φ [] cs y)
  (hK:∀ h',S ψ h0 h' (os.set i (.it (El.ow E) [v] (xs.set k.toNat y)))→K h'):vStoreN p cs 0 h K:=by
 obtain ⟨φ,L,s,r⟩:=st
 obtain ⟨L1,Lo,L2,e,f,_,g⟩:=r.at ho
 have s2:S0 ψ h0 h φ (Lo++(L1++L2)):=s.perm (by rw [e,←List.append_assoc];exact List.Perm.append_right _ List.perm_append_comm)
 refine Zkt s2 (El.ow_to f) hp hz hk (hy φ) fun a b h' j hown=>hK h' ⟨φ,L1++(a++b)++L2,j.perm ?_,g φ (.it (El.ow E) [v] (xs.set k.toNat y)) _ (CLe.refl _) ⟨v,rfl,by simpa using hown⟩⟩
 rw [←List.append_assoc];exact List.Perm.append_right _ List.perm_append_comm
theorem st1_S {E:El α} {v c:Value} {xs:List α} {k:Int} {y a:α} {p:Addr} {K:Heap→Prop} (st:S ψ h0 h os) (i:Nat) (ho:os[i]?=some (.it (El.ow E) [v] xs)) (hp:AddrOf v k 1 p) (hk:gIdx xs k=some a) (hz:E.z=1) (hy:∀ φ,E.R φ [] [c] y)
  (hK:∀ h',S ψ h0 h' (os.set i (.it (El.ow E) [v] (xs.set k.toNat y)))→K h'):vStore1 h p c K:=stN_S (cs:=[c]) st i ho hp hk hz hy hK
theorem ZFe {E:El α} {z:Nat} {v:Value} {cs:List Value} {xs:List α} {k:Int} {y f:α} {p:Addr} {K:Heap→Prop} (st:S ψ h0 h (.it E cs y::os)) (i:Nat) (ho:os[i]?=some (.it (El.ow E) [v] xs)) (hp:AddrOf v k z p) (hk:gIdx xs k=some f) (hz:E.z=z)
  (hK:∀ h',S ψ h0 h' (os.set i (.it (El.ow E) [v] (xs.set k.toNat y)))→K h'):vStoreN p cs 0 h K:=by
 obtain ⟨φ,L,s,Ly,L',rfl,hy,r⟩:=st
 obtain ⟨L1,Lo,L2,rfl,g,_,j⟩:=r.at ho
 have s2:S0 ψ h0 h φ (Lo++(Ly++(L1++L2))):=s.perm (by
  have c:(Ly++L1++Lo).Perm (Lo++(Ly++L1)):=List.perm_append_comm
  have e:=c.append_right L2
  simpa using e)
 refine Zkt s2 (El.ow_to g) hp hz hk hy fun a b h' l hown=>hK h' ⟨φ,L1++(a++Ly++b)++L2,l.perm ?_,j φ (.it (El.ow E) [v] (xs.set k.toNat y)) _ (CLe.refl _) ⟨v,rfl,hown⟩⟩
 have m:(a++b++Ly).Perm (a++Ly++b):=by
  simp only [List.append_assoc];exact List.perm_append_comm.append_left _
 have c:(a++b++Ly++L1).Perm (L1++(a++Ly++b)):=(m.append_right L1).trans List.perm_append_comm
 have e:=c.append_right L2
 simpa using e
theorem ZlX {E:El α} {v c:Value} {xs:List α} {k:Int} {y a:α} {p:Addr} {K:Heap→Prop} (st:S ψ h0 h (.it E [c] y::os)) (i:Nat) (ho:os[i]?=some (.it (El.ow E) [v] xs)) (hp:AddrOf v k 1 p) (hk:gIdx xs k=some a) (hz:E.z=1)
  (hK:∀ h',S ψ h0 h' (os.set i (.it (El.ow E) [v] (xs.set k.toNat y)))→K h'):vStore1 h p c K:=ZFe (cs:=[c]) st i ho hp hk hz hK
def loV (lo:Option Int):Option Value:=lo.map (Value.int .i64)
theorem ZfT {a:Option Addr} {n c z:Nat} {lo hi:Option Int} {K:Value→Prop} (hnc:n≤c) (b:0≤lo.getD 0) (e:lo.getD 0≤hi.getD n) (f:hi.getD n≤n)
  (hk:K (.slice (bif Nat.beq c (lo.getD 0).toNat then a else a.map (·.add ((lo.getD 0).toNat*z))) ((hi.getD n).toNat-(lo.getD 0).toNat) (c-(lo.getD 0).toNat))):vSliceS (.slice a n c) z (loV lo) (loV hi) none K:=by
 unfold vSliceS vBound loV
 cases hi with
 | none=>
  cases lo with
  | none=>simpa using hk
  | some l=>
   simp only [Option.map_none,Option.map_some,Option.getD_none,Option.getD_some] at *
   exact ⟨⟨b,by omega⟩,by simpa using hk⟩
 | some x=>
  cases lo with
  | none=>
   simp only [Option.map_none,Option.map_some,Option.getD_none,Option.getD_some] at *
   exact ⟨⟨e,by omega⟩,hk⟩
  | some l=>
   simp only [Option.map_some,Option.getD_some] at *
   exact ⟨⟨by omega,by omega⟩,⟨b,by omega⟩,hk⟩
theorem ZcH {φ:CM} {E:El α} {v:Value} {xs ys:List α} {z:Nat} (lo hi:Option Int) (ha:SlC φ E v xs) (hs:gSl xs (lo.getD 0) (hi.getD xs.length)=some ys) (hz:E.z=z) {K:Value→Prop} (hk:∀ v',SlC φ E v' ys→K v'):vSliceS v z (loV lo) (loV hi) none K:=by
 obtain ⟨⟨j,e,f⟩,rfl⟩:=ZkE hs
 subst hz
 rcases ha with ⟨rfl,rfl⟩|⟨a,c,rfl,k,hel⟩
 ·refine ZfT (Nat.le_refl _) j e f (hk _ ?_)
  simp only [List.length_nil] at f e
  have l:(lo.getD 0).toNat=0:=by omega
  have m:(hi.getD ((0:Nat):Int)).toNat=0:=by omega
  rw [l,m]
  exact .inl ⟨by simp,by simp⟩
 ·refine ZfT k j e f (hk _ ?_)
  by_cases hm:c=(lo.getD 0).toNat
  ·have g:Nat.beq c (lo.getD 0).toNat=true:=by rw [←hm];exact Nat.beq_refl c
   rw [g]
   have hl:((xs.take (hi.getD ↑xs.length).toNat).drop (lo.getD 0).toNat)=[]:=by
    apply List.eq_nil_of_length_eq_zero
    rw [List.length_drop,List.length_take];omega
   rw [hl]
   exact .inr ⟨a,c-(lo.getD 0).toNat,by simp;omega,by simp,fun i x b=>by simp at b⟩
  ·have g:Nat.beq c (lo.getD 0).toNat=false:=by
    cases hh:Nat.beq c (lo.getD 0).toNat with
    | false=>rfl
    | true=>exact absurd (Nat.eq_of_beq_eq_true hh) hm
   rw [g]
   refine .inr ⟨a.add ((lo.getD 0).toNat*E.z),c-(lo.getD 0).toNat,?_,?_,fun i x b=>?_⟩
   ·have:(List.drop (lo.getD 0).toNat (List.take (hi.getD ↑xs.length).toNat xs)).length=(hi.getD ↑xs.length).toNat-(lo.getD 0).toNat:=by rw [List.length_drop,List.length_take];omega
    rw [this];rfl
   ·rw [List.length_drop,List.length_take];omega
   ·rw [List.getElem?_drop] at b
    have hlt:=ZY b
    rw [List.length_take] at hlt
    rw [List.getElem?_take,if_pos (by omega)] at b
    obtain ⟨cs,o,p⟩:=hel _ x b
    refine ⟨cs,?_,p⟩
    rw [Zhp]
    rwa [Nat.add_mul] at o
theorem AllR.drop {φ:CM} {E:El α}:∀ (l:Nat) {L:Rws} {css:List (List Value)} {xs:List α},AllR φ E L css xs→∃ L',L'.Sublist L∧AllR φ E L' (css.drop l) (xs.drop l)
 | 0,L,_,_,h=>⟨L,List.Sublist.refl _,h⟩
 | l+1,L,[],[],h=>⟨L,List.Sublist.refl _,h⟩
 | l+1,L,_::_,_::_,⟨L1,L2,a,_,b⟩=>by
  obtain ⟨L',c,e⟩:=AllR.drop l b
  exact ⟨L',by rw [a];exact c.trans (List.sublist_append_right ..),e⟩
 | _+1,_,[],_::_,h=>h.elim
 | _+1,_,_::_,[],h=>h.elim
theorem AllR.take {φ:CM} {E:El α}:∀ (l:Nat) {L:Rws} {css:List (List Value)} {xs:List α},AllR φ E L css xs→∃ L',L'.Sublist L∧AllR φ E L' (css.take l) (xs.take l)
 | 0,L,_,_,_=>⟨[],List.nil_sublist _,rfl⟩
 | l+1,L,[],[],h=>⟨L,List.Sublist.refl _,h⟩
 | l+1,L,_::_,_::_,⟨L1,L2,a,b,c⟩=>by
  obtain ⟨L',e,f⟩:=AllR.take l c
  exact ⟨L1++L',by rw [a];exact List.Sublist.append (List.Sublist.refl _) e,L1,L',rfl,b,f⟩
 | _+1,_,[],_::_,h=>h.elim
 | _+1,_,_::_,[],h=>h.elim
theorem ZD8 {E:El α} {φ:CM} {L:Rws} {css:List (List Value)} {xs:List α} (h:AllR φ E L css xs) (l:Nat):(css.take l).flatten.length=(xs.take l).length*E.z:=by
 obtain ⟨L',_,g⟩:=h.take l
 exact g.flat
theorem cut_S {E:El α} {v:Value} {xs ys:List α} {z:Nat} (lo hi:Option Int) (st:S ψ h0 h os) (i:Nat) (ho:os[i]?=some (.it (El.ow E) [v] xs)) (hs:gSl xs (lo.getD 0) (hi.getD xs.length)=some ys) (hz:E.z=z) {K:Value→Prop}
  (hk:∀ v',S ψ h0 h (os.set i (.it (El.ow E) [v'] ys))→K v'):vSliceS v z (loV lo) (loV hi) none K:=by
 obtain ⟨⟨o,f,j⟩,rfl⟩:=ZkE hs
 subst hz
 obtain ⟨φ,L,s,r⟩:=st
 obtain ⟨L1,Lo,L2,e,a,_,u⟩:=r.at ho
 have key:∀ v' Lo',Lo'.Sublist Lo→OwnL φ E Lo' v' ((xs.take (hi.getD ↑xs.length).toNat).drop (lo.getD 0).toNat)→K v':=fun v' Lo' hsub hown=>
  hk v' ⟨φ,L1++Lo'++L2,s.sub (by rw [e];exact List.Sublist.append (List.Sublist.append (List.Sublist.refl _) hsub) (List.Sublist.refl _)),u φ (.it (El.ow E) [v'] _) Lo' (CLe.refl _) ⟨v',rfl,hown⟩⟩
 rcases El.ow_to a with ⟨rfl,rfl,rfl⟩|⟨b,c,pre,css,rest,Lr,rfl,w,hrest,rfl,hall⟩
 ·refine ZfT (Nat.le_refl _) o f j (key _ [] (List.Sublist.refl _) ?_)
  simp only [List.length_nil] at j f
  have e:(lo.getD 0).toNat=0:=by omega
  have a:(hi.getD ((0:Nat):Int)).toNat=0:=by omega
  rw [e,a]
  exact .inl ⟨by simp,by simp,rfl⟩
 ·refine ZfT w o f j ?_
  generalize hL:(lo.getD 0).toNat=l
  generalize hH:(hi.getD ↑xs.length).toNat=m
  rw [hL,hH] at key
  have hlm:l≤m:=by omega
  have hmx:m≤xs.length:=by omega
  by_cases hm:c=l
  ·have k:Nat.beq c l=true:=by rw [hm];exact Nat.beq_refl l
   rw [k]
   have hl:(xs.take m).drop l=[]:=by
    apply List.eq_nil_of_length_eq_zero
    rw [List.length_drop,List.length_take];omega
   rw [hl] at key
   refine key _ [(b,Row.cs (pre++css.flatten++rest))] (List.Sublist.cons_cons _ (List.nil_sublist _)) (.inr ⟨b,c-l,pre,[],css.flatten++rest,[],?_,by simp,?_,by simp,rfl⟩)
   ·simp;omega
   ·rw [hm];simp
  ·have k:Nat.beq c l=false:=by
    cases hh:Nat.beq c l with
    | false=>rfl
    | true=>exact absurd (Nat.eq_of_beq_eq_true hh) hm
   rw [k]
   obtain ⟨La,x,y⟩:=hall.take m
   obtain ⟨Lb,b1,b2⟩:=y.drop l
   have hpre:(css.take l).flatten.length=l*E.z:=by rw [ZD8 hall l,List.length_take];congr 1;omega
   have hflat:css.flatten=(css.take l).flatten++((css.take m).drop l).flatten++(css.drop m).flatten:=by
    have e:css=css.take m++css.drop m:=(List.take_append_drop m css).symm
    have a:css.take m=(css.take m).take l++(css.take m).drop l:=(List.take_append_drop l _).symm
    have e3:(css.take m).take l=css.take l:=by rw [List.take_take];congr 1;omega
    rw [e3] at a
    have p:=congrArg List.flatten e
    have t:=congrArg List.flatten a
    rw [List.flatten_append] at p t
    rw [p,t]
   have hdm:(css.drop m).flatten.length=(xs.length-m)*E.z:=by
    obtain ⟨_,_,g⟩:=hall.drop m
    rw [g.flat,List.length_drop]
   refine key _ ((b,.cs (pre++css.flatten++rest))::Lb) (List.Sublist.cons_cons _ (b1.trans x)) (.inr ⟨b,c-l,pre++(css.take l).flatten,(css.take m).drop l,(css.drop m).flatten++rest,Lb,?_,?_,?_,?_,b2⟩)
   ·have:(List.drop l (List.take m xs)).length=m-l:=by rw [List.length_drop,List.length_take];omega
    rw [this,List.length_append,hpre]
    simp [Zar]
   ·rw [List.length_drop,List.length_take];omega
   ·rw [List.length_drop,List.length_take,List.length_append,hdm,Nat.min_eq_left hmx]
    have:(c-l-(m-l))*E.z=(c-xs.length)*E.z+(xs.length-m)*E.z:=by rw [←Nat.add_mul];congr 1;omega
    omega
   ·rw [hflat];simp
theorem joinS {φ:CM} {L:Rws} {h':Heap} {ns:List Ob} (s:S0 ψ h0 h φ L) (r:Rel φ os L) (t:S φ h h' ns):S ψ h0 h' (ns++os):=by
 obtain ⟨φ',M,a,b⟩:=t
 exact ⟨φ',M++L,s.call a,Rel.app (r.mono a.bas) b⟩
theorem join0 {φ:CM} {L:Rws} {h':Heap} (s:S0 ψ h0 h φ L) (r:Rel φ os L) (t:S φ h h' []):S ψ h0 h' os:=joinS s r t
theorem join1 {φ:CM} {L:Rws} {h':Heap} {a:Ob} (s:S0 ψ h0 h φ L) (r:Rel φ os L) (t:S φ h h' [a]):S ψ h0 h' (a::os):=joinS s r t
theorem join2 {φ:CM} {L:Rws} {h':Heap} {a b:Ob} (s:S0 ψ h0 h φ L) (r:Rel φ os L) (t:S φ h h' [a,b]):S ψ h0 h' (a::b::os):=joinS s r t
theorem join4 {φ:CM} {L:Rws} {h':Heap} {a b c e:Ob} (s:S0 ψ h0 h φ L) (r:Rel φ os L) (t:S φ h h' [a,b,c,e]):S ψ h0 h' (a::b::c::e::os):=joinS s r t
theorem frF {φ:CM} {L:Rws} {E:El α} {v:Value} {xs:List α} (r:Rel φ os L) (i:Nat) (ho:os[i]?=some (.it (El.sl E) [v] xs)):SlC φ E v xs:=by
 obtain ⟨_,Lo,_,_,a,_,_⟩:=r.at ho
 exact El.sl_to a
theorem S.arg {E:El α} {v:Value} {xs:List α} (st:S ψ h0 h os) (a:SlC ψ E v xs):S ψ h0 h (.it (El.sl E) [v] xs::os):=by
 obtain ⟨φ,L,s,r⟩:=st
 exact ⟨φ,L,s,[],L,rfl,El.sl_of (a.mono s.bas),r⟩
def El.pair {β:Type} (E:El α) (F:El β):El (α×β) where
 z:=E.z+F.z
 R:=fun φ L cs x=>∃ c1 c2 L1 L2,cs=c1++c2∧L=L1++L2∧E.R φ L1 c1 x.1∧F.R φ L2 c2 x.2
 mono:=fun hl ⟨c1,c2,L1,L2,a,e,b,c⟩=>⟨c1,c2,L1,L2,a,e,E.mono hl b,F.mono hl c⟩
 len:=fun ⟨c1,c2,L1,L2,a,e,b,c⟩=>by rw [a,List.length_append,E.len b,F.len c]
 one:=fun ⟨c1,c2,L1,L2,a,e,b,c⟩ v f=>by
  rw [a] at f
  rcases List.mem_append.1 f with h|h
  ·exact E.one b v h
  ·exact F.one c v h
 zc:=E.zc++F.zc
 zx:=(E.zx,F.zx)
 hz:=fun φ=>⟨_,_,[],[],rfl,rfl,E.hz φ,F.hz φ⟩
def El.iso {β:Type} (E:El α) (f:β→α) (z:β) (hz:f z=E.zx):El β where
 z:=E.z
 R:=fun φ L cs x=>E.R φ L cs (f x)
 mono:=fun hl h=>E.mono hl h
 len:=fun h=>E.len h
 one:=fun h=>E.one h
 zc:=E.zc
 zx:=z
 hz:=fun φ=>by rw [hz];exact E.hz φ
theorem Zvj {β:Type} {E E':El α} {F F':El β} (a:Frz E E') (b:Frz F F'):Frz (El.pair E F) (El.pair E' F'):=by
 refine ⟨by show E.z+F.z=E'.z+F'.z;rw [a.1,b.1],fun φ L cs x ⟨c1,c2,L1,L2,c,e,f,g⟩ hr=>?_⟩
 subst e
 exact ⟨c1,c2,[],[],c,rfl,a.2 _ _ _ _ f hr.left,b.2 _ _ _ _ g hr.right⟩
theorem Zxx {β:Type} {E E':El α} {f:β→α} {z:β} {hz:f z=E.zx} {hz':f z=E'.zx} (h:Frz E E'):Frz (El.iso E f z hz) (El.iso E' f z hz'):=⟨h.1,fun φ L cs x hh hr=>h.2 φ L cs (f x) hh hr⟩
theorem S.weak {ψ':CM} (t:S ψ' h0 h []) (hl:CLe ψ (hcell h0)):S ψ h0 h []:=by
 have a:=t.ext
 have st:S ψ h0 h0 []:=sZ hl
 obtain ⟨φ,L,s,r⟩:=st
 exact ⟨φ,L,⟨a,fun b c hm=>(s.row b c hm).ext a,s.low,s.nod,s.fle.trans (CLe.ext a),s.dis,s.bas,s.old⟩,r⟩
theorem bifP {ρ:Type} {c:Bool} {a b:Option ρ} {r:ρ} {A B:Prop} (hp:(bif c then a else b)=some r) (ha:c=true→a=some r→A) (e:c=false→b=some r→B):bif c then A else B:=by
 cases c with
 | true=>exact ha rfl hp
 | false=>exact e rfl hp
theorem Rel.split {φ:CM}:∀ {os:List Ob} {L:Rws},Rel φ os L→∃ Ls:List Rws,L=Ls.flatten∧∀ (i:Nat) o,os[i]?=some o→∃ Li,Ls[i]?=some Li∧o.ok φ Li
 | [],L,h=>⟨[],h,fun i o ho=>by simp at ho⟩
 | o::os,L,⟨L1,L2,a,b,c⟩=>by
  obtain ⟨Ls,e,f⟩:=Rel.split c
  refine ⟨L1::Ls,by rw [a,e];rfl,fun i o' ho=>?_⟩
  cases i with
  | zero=>simp at ho;subst ho;exact ⟨L1,rfl,b⟩
  | succ i=>exact f i o' (by simpa using ho)
theorem Zub {Ls:List Rws} {i:Nat} {Li:Rws} (h:Ls[i]?=some Li) {x:Nat×Row} (a:x∈Li):x∈Ls.flatten:=List.mem_flatten.2 ⟨Li,List.mem_of_getElem? h,a⟩
theorem Zqi:∀ {Ls:List Rws} {i j:Nat} {Li Lj:Rws},(Rws.bs Ls.flatten).Nodup→Ls[i]?=some Li→Ls[j]?=some Lj→i≠j→∀ b,b∈Li.bs→b∈Lj.bs→False
 | [],i,j,Li,Lj,_,hi,_,_,_,_,_=>by simp at hi
 | L::Ls,i,j,Li,Lj,e,hi,hj,hij,b,a,c=>by
  have hbs:Rws.bs (L::Ls).flatten=L.bs++Rws.bs Ls.flatten:=by unfold Rws.bs;rw [List.flatten_cons,List.map_append]
  rw [hbs] at e
  obtain ⟨n1,n2,f⟩:=List.nodup_append.1 e
  have up:∀ {k:Nat} {Lk:Rws},Ls[k]?=some Lk→b∈Lk.bs→b∈Rws.bs Ls.flatten:=fun hk g=>by
   obtain ⟨x,l,rfl⟩:=List.mem_map.1 g
   exact List.mem_map.2 ⟨x,Zub hk l,rfl⟩
  cases i with
  | zero=>
   simp at hi;subst hi
   cases j with
   | zero=>exact hij rfl
   | succ j=>exact f _ a _ (up (by simpa using hj) c) rfl
  | succ i=>
   cases j with
   | zero=>simp at hj;subst hj;exact f _ c _ (up (by simpa using hi) a) rfl
   | succ j=>exact Zqi n2 (by simpa using hi) (by simpa using hj) (by omega) b a c
theorem Zsl:∀ {Ls:List Rws} {i:Nat} {Li:Rws},(Rws.bs Ls.flatten).Nodup→Ls[i]?=some Li→Li.bs.Nodup
 | [],i,Li,_,hi=>by simp at hi
 | L::Ls,i,Li,a,hi=>by
  have hbs:Rws.bs (L::Ls).flatten=L.bs++Rws.bs Ls.flatten:=by unfold Rws.bs;rw [List.flatten_cons,List.map_append]
  rw [hbs] at a
  obtain ⟨n1,n2,b⟩:=List.nodup_append.1 a
  cases i with
  | zero=>simp at hi;subst hi;exact n1
  | succ i=>exact Zsl n2 (by simpa using hi)
theorem ZtC {φ:CM} {os:List Ob} {Ls:List Rws} (g:(Rws.bs Ls.flatten).Nodup) (hs:∀ (i:Nat) o,os[i]?=some o→∃ Li,Ls[i]?=some Li∧o.ok φ Li):∀ (is:List Nat),is.Nodup →
  ∃ M:Rws,Rel φ (is.filterMap fun i=>os[i]?) M∧M.bs.Nodup∧(∀ x∈M,x∈Ls.flatten)∧∀ b∈M.bs,∃ i∈is,∃ Li,Ls[i]?=some Li∧b∈Li.bs
 | [],_=>⟨[],rfl,by simp [Rws.bs],(fun x j=>by cases j),fun b c=>by simp [Rws.bs] at c⟩
 | i::is,hnd=>by
  obtain ⟨t,u⟩:=List.nodup_cons.1 hnd
  obtain ⟨M,m,p,s,l⟩:=ZtC g hs is u
  cases ho:os[i]? with
  | none=>
   rw [List.filterMap_cons,ho]
   exact ⟨M,m,p,s,fun b c=>by obtain ⟨k,hk,r⟩:=l b c;exact ⟨k,List.mem_cons_of_mem _ hk,r⟩⟩
  | some o=>
   obtain ⟨Li,f,v⟩:=hs i o ho
   rw [List.filterMap_cons,ho]
   have hbs:Rws.bs (Li++M)=Li.bs++M.bs:=by unfold Rws.bs;rw [List.map_append]
   refine ⟨Li++M,⟨Li,M,rfl,v,m⟩,?_,fun x j=>?_,fun b c=>?_⟩
   ·rw [hbs]
    refine List.nodup_append.2 ⟨Zsl g f,p,fun a ha b c e=>?_⟩
    subst e
    obtain ⟨k,hk,Lk,w,y⟩:=l a c
    exact Zqi g f w (fun e=>t (e▸hk)) a ha y
   ·rcases List.mem_append.1 j with h|h
    ·exact Zub f h
    ·exact s x h
   ·rw [hbs] at c
    rcases List.mem_append.1 c with h|h
    ·exact ⟨i,List.mem_cons_self ..,Li,f,h⟩
    ·obtain ⟨k,hk,r⟩:=l b h;exact ⟨k,List.mem_cons_of_mem _ hk,r⟩
theorem S.pick (st:S ψ h0 h os) (is:List Nat) (hnd:is.Nodup):S ψ h0 h (is.filterMap fun i=>os[i]?):=by
 obtain ⟨φ,L,s,r⟩:=st
 obtain ⟨Ls,rfl,hs⟩:=r.split
 obtain ⟨M,e,f,c,_⟩:=ZtC s.nod hs is hnd
 have a:∀ b,b∈M.bs→b∈Rws.bs Ls.flatten:=fun b a=>by
  obtain ⟨x,g,rfl⟩:=List.mem_map.1 a
  exact List.mem_map.2 ⟨x,c x g,rfl⟩
 exact ⟨φ,M,⟨s.ext,fun b cs hm=>s.row b cs (c _ hm),fun b hm=>s.low b (a b hm),f,s.fle,fun p u hp hm=>s.dis p u hp (a _ hm),s.bas,s.old⟩,e⟩
theorem S.clear (st:S ψ h0 h os):S ψ h0 h []:=st.pick [] (by simp)
theorem Zaf {b:Int} {u:Unit} (h:gNz b=some u):b≠0:=by unfold gNz at h;split at h<;>first|assumption|cases h
theorem ZCw {b:Int} {u:Unit} (h:gNn b=some u):0≤b:=by unfold gNn at h;split at h<;>first|assumption|cases h
theorem Z1 {a b:ByteArray} {u:Unit} (h:gFit a b=some u):((a.size+b.size:Nat):Int)≤IntKind.i64.max:=by unfold gFit at h;split at h<;>first|assumption|cases h
theorem S.nilO {E:El α} (st:S ψ h0 h os):S ψ h0 h (.it (El.ow E) [.slice none 0 0] []::os):=st.nil E
theorem S.nilF {E:El α} (st:S ψ h0 h os):S ψ h0 h (.it (El.sl E) [.slice none 0 0] []::os):=st.put fun _=>El.sl_of SlC.nil
theorem S.copyF {E:El α} {cs:List Value} {x:List α} (st:S ψ h0 h os) (i:Nat) (ho:os[i]?=some (.it (El.sl E) cs x)):S ψ h0 h (.it (El.sl E) cs x::os):=by
 obtain ⟨φ,L,s,r⟩:=st
 obtain ⟨L1,Lo,L2,c,a,_,_⟩:=r.at ho
 have b:Lo=[]:=a.1
 subst b
 exact ⟨φ,L,s,[],L,rfl,a,r⟩
theorem CellsC.part {φ:CM} {p:Addr} {cs:List Value} (off n:Nat) (a:CellsC φ p cs):CellsC φ (p.add off) ((cs.drop off).take n):=by
 intro j u hu
 have hlt:=ZY hu
 rw [List.length_take] at hlt
 rw [List.getElem?_take,if_pos (by omega),List.getElem?_drop] at hu
 rw [Zhp]
 exact a _ _ hu
theorem S.leF (st:S ψ h0 h os):CLe ψ (hcell h):=by obtain ⟨φ,L,s,_⟩:=st;exact s.bas.trans s.fle
theorem omap {β γ:Type} {o:Option β} {f:β→γ} {y:γ} (h:o.map f=some y):∃ x,o=some x∧f x=y:=by
 cases o with
 | none=>cases h
 | some x=>exact ⟨x,rfl,Option.some.inj h⟩
theorem Zvu {φ:CM} {E:El α} {v:Value} {xs:List α} (ha:SlC φ E v xs) {K:Bool→Prop} (b:v=.slice none 0 0→xs=[]→K true) (e:K false):vNilS false v K:=by
 rcases ha with ⟨rfl,rfl⟩|⟨a,c,rfl,_⟩
 ·exact b rfl rfl
 ·exact e
def UB (ψ:CM) (h0:Heap):CM:=fun p=>match ψ p with
 | some u=>some u
 | none=>hcell h0 p
theorem ub_le {χ:CM} (a:CLe ψ χ) (b:CLe (hcell h0) χ):CLe (UB ψ h0) χ:=fun p u hp=>by
 unfold UB at hp
 split at hp
 ·rename_i w hw;cases hp;exact a p _ hw
 ·exact b p u hp
theorem S.leU (st:S ψ h0 h os):CLe (UB ψ h0) (hcell h):=ub_le st.leF st.le
theorem S0.ubH {φ:CM} {L:Rws} (s:S0 ψ h0 h φ L):CLe (hcell h0) (UB φ h0):=fun p u hp=>by
 unfold UB
 cases b:φ p with
 | none=>exact hp
 | some w=>
  have c:=s.fle p w b
  have a:=ZhV s.ext hp
  rw [c] at a;exact a
theorem S0.upS {φ:CM} {L:Rws} (s:S0 ψ h0 h φ L) (r:Rel φ os L):S φ h0 h os:=
 ⟨φ,L,⟨s.ext,s.row,s.low,s.nod,s.fle,s.dis,CLe.refl _,fun _ _ hp _=>hp⟩,r⟩
theorem S0.downS {φ:CM} {L:Rws} {h':Heap} {ns:List Ob} (s:S0 ψ h0 h φ L) (t:S φ h0 h' ns):S ψ h0 h' ns:=by
 obtain ⟨φ',M,a,b⟩:=t
 exact ⟨φ',M,⟨a.ext,a.row,a.low,a.nod,a.fle,a.dis,s.bas.trans a.bas,fun p u hp hl=>s.old p u (a.old p u hp hl) hl⟩,b⟩
theorem ZDe {β:Type 1} (l:List β):∀ n,(List.range' n (l.length-n)).filterMap (fun i=>l[i]?)=l.drop n:=by
 intro n
 induction hk:l.length-n generalizing n with
 | zero=>rw [List.drop_of_length_le (by omega)];rfl
 | succ k ih=>
  have hlt:n<l.length:=by omega
  rw [List.range'_succ,List.filterMap_cons,List.drop_eq_getElem_cons hlt]
  have:l[n]?=some l[n]:=by simp [hlt]
  rw [this]
  have:=ih (n+1) (by omega)
  simp only
  rw [this]
theorem S.pickT (st:S ψ h0 h os) (n:Nat) (is:List Nat) (hnd:is.Nodup) (c:∀ i∈is,i<n):S ψ h0 h ((is.filterMap fun i=>os[i]?)++os.drop n):=by
 have:=st.pick (is++List.range' n (os.length-n)) (by
  refine List.nodup_append.2 ⟨hnd,List.nodup_range',fun a ha b hb' e=>?_⟩
  subst e
  have f:=c a ha
  have g:=List.mem_range'_1.1 hb'
  omega)
 rw [List.filterMap_append,ZDe] at this
 exact this
def Hd (h:Heap) (v:Value) (i:Int) (u:Value):Prop:=∃ a n c,v=.slice (some a) n c∧hcell h (a.add (i.toNat*1))=some u
theorem Zo7 {E:El α} {φ:CM} {Lo:Rws} {v:Value} {xss:List (List α)} {i:Int} {xs:List α} (hrow:RowsC (hcell h) Lo) (ho:OwnL φ (El.ow E) Lo v xss) (g:gIdx xss i=some xs):
  ∃ (b c:Nat) (pre:List Value) (pr:List (List Value)) (u:Value) (po:List (List Value)) (rest:List Value) (M1 Mo M2:Rws),v=.slice (some ⟨b,pre.length,none⟩) xss.length c∧xss.length≤c∧(c-xss.length)*1≤rest.length∧Lo=(b,.cs ((pre++pr.flatten)++u::(po.flatten++rest)))::(M1++Mo++M2)∧pr.flatten.length=i.toNat∧OwnL φ E Mo u xs∧hcell h ⟨b,pre.length+i.toNat,none⟩=some u ∧
   ∀ Mo' xs',OwnL φ E Mo' u xs'→OwnL φ (El.ow E) ((b,.cs ((pre++pr.flatten)++u::(po.flatten++rest)))::(M1++Mo'++M2)) v (xss.set i.toNat xs'):=by
 obtain ⟨l,a⟩:=Zbf g
 rcases ho with ⟨_,rfl,_⟩|⟨b,c,pre,css,rest,Lr,rfl,e,hrest,rfl,hall⟩
 ·simp at a
 obtain ⟨d,M1,Mo,M2,pr,po,rfl,f,k3,⟨u,rfl,j⟩,k⟩:=hall.at a
 have hfl:=AllR.pre_flat pr xss _ (by rw [←f];exact hall)
 have hfl':pr.flatten.length=i.toNat:=by rw [hfl,k3];exact Nat.mul_one _
 have hcs:pre++css.flatten++rest=(pre++pr.flatten)++u::(po.flatten++rest):=by rw [f];simp
 refine ⟨b,c,pre,pr,u,po,rest,M1,Mo,M2,rfl,e,hrest,by rw [hcs],hfl',j,?_,fun Mo' xs' hm=>.inr ⟨b,c,pre,pr++[u]::po,rest,M1++Mo'++M2,by simp,by simpa using e,by simpa using hrest,by simp,k [u] Mo' xs' ⟨u,rfl,hm⟩⟩⟩
 refine hrow b _ (List.mem_cons_self ..) _ _ ?_
 rw [hcs,List.getElem?_append_right (by rw [List.length_append];omega),List.length_append,hfl']
 simp
theorem ZbZ {E:El α} {v:Value} {xss:List (List α)} {i:Int} {xs:List α} {p:Addr} (st:S ψ h0 h os) (k:Nat) (ho:os[k]?=some (.it (El.ow (El.ow E)) [v] xss)) (hp:AddrOf v i 1 p) (f:gIdx xss i=some xs) {K:Value→Prop} (hk:∀ u,Hd h v i u→K u):ldV h p K:=by
 obtain ⟨φ,L,s,r⟩:=st
 obtain ⟨L1,Lo,L2,g,j,_,_⟩:=r.at ho
 have hr:=s.rows
 rw [g] at hr
 obtain ⟨b,c,pre,pr,u,po,rest,M1,Mo,M2,rfl,_,_,_,_,_,l,_⟩:=Zo7 hr.left.right (El.ow_to j) f
 obtain ⟨a,n,c',e,rfl⟩:=hp
 cases e
 refine ⟨u,?_,hk u ⟨_,_,_,rfl,?_⟩⟩<;>(rw [Zar,Nat.mul_one];exact l)
theorem Hd.eq {v u u':Value} {i:Int} {b n c off:Nat} (g:Hd h v i u) (j:v=.slice (some ⟨b,off,none⟩) n c) (k:hcell h ⟨b,off+i.toNat,none⟩=some u'):u=u':=by
 obtain ⟨a,n',c',e,f⟩:=g
 rw [j] at e;cases e
 rw [Zar,Nat.mul_one,k] at f
 exact (Option.some.inj f).symm
theorem S.rowC {E E':El α} {v u:Value} {xss:List (List α)} {i:Int} {xs:List α} (st:S ψ h0 h os) (k:Nat) (ho:os[k]?=some (.it (El.ow (El.ow E)) [v] xss)) (e:Hd h v i u) (f:gIdx xss i=some xs) (hf:Frz E E'):SlC (hcell h) E' u xs:=by
 obtain ⟨φ,L,s,r⟩:=st
 obtain ⟨L1,Lo,L2,g,j,_,_⟩:=r.at ho
 have hr:=s.rows
 rw [g] at hr
 have a:=hr.left.right
 obtain ⟨b,c,pre,pr,u',po,rest,M1,Mo,M2,l,_,_,hLo,_,hm,m,_⟩:=Zo7 a (El.ow_to j) f
 obtain rfl:=e.eq l m
 refine El.sl_to ((Ze hf).2 (hcell h) Mo [u] xs ((El.ow E).mono s.fle ⟨u,rfl,hm⟩) ?_)
 rw [hLo] at a
 intro b' row hmem
 exact a b' row (by simp [hmem])
theorem ZCh {E:El α} {v u f:Value} {xss:List (List α)} {i j:Int} {xs:List α} {o y:α} {q:Addr} {K:Heap→Prop} (st:S ψ h0 h os) (k:Nat) (ho:os[k]?=some (.it (El.ow (El.ow E)) [v] xss)) (p:Hd h v i u) (t:gIdx xss i=some xs) (w:AddrOf u j 1 q) (hj:gIdx xs j=some o) (hz:E.z=1) (hy:∀ φ,E.R φ [] [f] y)
  (hK:∀ h',S ψ h0 h' (os.set k (.it (El.ow (El.ow E)) [v] (xss.set i.toNat (xs.set j.toNat y))))→K h'):vStore1 h q f K:=by
 obtain ⟨φ,L,s,r⟩:=st
 obtain ⟨L1,Lo,L2,m,x,_,e4⟩:=r.at ho
 have hr:=s.rows
 rw [m] at hr
 obtain ⟨b,c,pre,pr,u',po,rest,M1,Mo,M2,hv,_,_,hLo,_,hm,hc,hback⟩:=Zo7 hr.left.right (El.ow_to x) t
 obtain rfl:=p.eq hv hc
 generalize (b,Row.cs ((pre++pr.flatten)++u::(po.flatten++rest)))=big at hLo hback
 have s2:S0 ψ h0 h φ (Mo++(L1++big::M1++(M2++L2))):=s.perm (by
  rw [m,hLo]
  have g:(L1++big::M1++Mo).Perm (Mo++(L1++big::M1)):=List.perm_append_comm
  have l:=g.append_right (M2++L2)
  simpa using l)
 refine Zkt (cs:=[f]) s2 hm w hz hj (hy φ) fun a e h' s3 hown=>hK h' ⟨φ,L1++(big::(M1++(a++[]++e)++M2))++L2,s3.perm ?_,e4 φ _ _ (CLe.refl _) ⟨v,rfl,hback _ _ hown⟩⟩
 have g:((a++e)++(L1++big::M1)).Perm ((L1++big::M1)++(a++e)):=List.perm_append_comm
 have l:=g.append_right (M2++L2)
 simpa using l
def IsView (v:Value) (z l m:Nat) (v':Value):Prop:=(v=.slice none 0 0∧v'=.slice none 0 0)∨∃ a n c,v=.slice (some a) n c∧l≤m∧m≤n∧n≤c∧v'=.slice (some (bif Nat.beq c l then a else a.add (l*z))) (m-l) (c-l)
theorem ZFE {φ:CM} {E:El α} {v:Value} {xs ys:List α} {z:Nat} (lo hi:Option Int) (ha:SlC φ E v xs) (hs:gSl xs (lo.getD 0) (hi.getD xs.length)=some ys) {K:Value→Prop} (hk:∀ v',IsView v z (lo.getD 0).toNat (hi.getD xs.length).toNat v'→K v'):vSliceS v z (loV lo) (loV hi) none K:=by
 obtain ⟨⟨f,b,e⟩,rfl⟩:=ZkE hs
 rcases ha with ⟨rfl,rfl⟩|⟨a,c,rfl,g,hel⟩
 ·refine ZfT (Nat.le_refl _) f b e (hk _ (.inl ⟨rfl,?_⟩))
  simp only [List.length_nil] at e b
  have i:(lo.getD 0).toNat=0:=by omega
  have j:(hi.getD ((0:Nat):Int)).toNat=0:=by omega
  rw [i,j];simp
 ·refine ZfT g f b e (hk _ (.inr ⟨a,_,c,rfl,by omega,by omega,g,?_⟩))
  cases Nat.beq c (lo.getD 0).toNat<;>rfl
theorem IsView.sl {τ φ:CM} {E:El α} {v v':Value} {xs:List α} {l m:Nat} (f:IsView v E.z l m v') (hs:(v=.slice none 0 0∧xs=[])∨∃ a c,v=.slice (some a) xs.length c∧xs.length≤c∧∀ (i:Nat) x,xs[i]?=some x→∃ cs,CellsC τ (a.add (i*E.z)) cs∧E.R φ [] cs x):
  (v'=.slice none 0 0∧(xs.take m).drop l=[])∨∃ a c,v'=.slice (some a) ((xs.take m).drop l).length c∧((xs.take m).drop l).length≤c∧∀ (i:Nat) x,((xs.take m).drop l)[i]?=some x→∃ cs,CellsC τ (a.add (i*E.z)) cs∧E.R φ [] cs x:=by
 rcases hs with ⟨rfl,rfl⟩|⟨a,c,rfl,k,hel⟩
 ·rcases f with ⟨_,rfl⟩|⟨a,n,c,e,_⟩
  ·exact .inl ⟨rfl,by simp⟩
  ·cases e
 ·rcases f with ⟨e,_⟩|⟨a',n,c',e,o,p,r,rfl⟩
  ·cases e
  cases e
  have hl:((xs.take m).drop l).length=m-l:=by rw [List.length_drop,List.length_take];omega
  refine .inr ⟨_,c-l,by rw [hl],by rw [hl];omega,fun i x b=>?_⟩
  have hlt:=ZY b
  rw [hl] at hlt
  have hne:Nat.beq c l=false:=by
   cases hh:Nat.beq c l with
   | false=>rfl
   | true=>have:=Nat.eq_of_beq_eq_true hh;omega
  rw [hne]
  rw [List.getElem?_drop,List.getElem?_take,if_pos (by omega)] at b
  obtain ⟨cs,g,j⟩:=hel _ x b
  refine ⟨cs,?_,j⟩
  show CellsC τ ((a.add (l*E.z)).add (i*E.z)) cs
  rw [Zhp,←Nat.add_mul]
  exact g
theorem IsView.C {φ:CM} {E:El α} {v v':Value} {xs ys:List α} {z:Nat} {lo hi:Int} (a:IsView v z lo.toNat hi.toNat v') (ha:SlC φ E v xs) (hs:gSl xs lo hi=some ys) (hz:E.z=z):SlC φ E v' ys:=by
 obtain ⟨_,rfl⟩:=ZkE hs
 subst hz
 exact a.sl ha
theorem Zpg (st:S ψ h0 h os) {cs:List Value} {t:TypeId} {K:Addr→Heap→Prop} (hk:∀ b h',ExtH h h'→S ψ h0 h' (.box b cs::os)→K ⟨b,0,none⟩ h'):vNew h (.cells cs.toArray t) K:=by
 obtain ⟨φ,L,s,r⟩:=st
 exact hk _ _ (ExtH.push h _) ⟨φ,_,s.new cs t,[(h.size,.cs cs)],L,rfl,rfl,r⟩
theorem ZaL {E:El α} {bytes:Nat} {zero:List Value} {el:TypeId} {n c:Int} {xs:List α} (st:S ψ h0 h os) (hz:zero=E.zc) (hm:gMake bytes E.zx n c=some xs) {K:Value→Heap→Prop}
  (hk:∀ v h',ExtH h h'→S ψ h0 h' (.it (El.ow E) [v] xs::os)→K v h'):vMake bytes zero el n c h K:=by
 have:=Zam (E:=E) (K:=fun v h'=>ExtH h h'→K v h') (el:=el) st hz hm fun v h' s a=>hk v h' a s
 exact ⟨this.1,this.2 (ExtH.push h _)⟩
theorem AllR.frz {E E':El α} (hf:Frz E E') {φ:CM}:∀ {L:Rws} {css:List (List Value)} {xs:List α},AllR φ E L css xs→RowsC φ L→AllR φ E' [] css xs
 | _,[],[],_,_=>rfl
 | _,_::_,_::_,⟨L1,L2,a,b,c⟩,hr=>by
  subst a
  exact ⟨[],[],rfl,hf.2 _ _ _ _ b hr.left,AllR.frz hf c hr.right⟩
 | _,[],_::_,h,_=>h.elim
 | _,_::_,[],h,_=>h.elim
theorem S.frzIn {E E':El α} {v:Value} {xs:List α} (st:S ψ h0 h os) (i:Nat) (ho:os[i]?=some (.it (El.ow E) [v] xs)) (hf:Frz E E'):S ψ h0 h (os.set i (.it (El.ow E') [v] xs)):=by
 obtain ⟨φ,L,s,r⟩:=st
 obtain ⟨L1,Lo,L2,f,k,_,g⟩:=r.at ho
 rcases El.ow_to k with ⟨a,e,l⟩|⟨b,c,pre,css,rest,Lr,m,o,p,t,u⟩
 ·exact ⟨φ,L1++[]++L2,by rw [←l,←f];exact s,g φ (.it (El.ow E') [v] xs) [] (CLe.refl _) ⟨v,rfl,.inl ⟨a,e,rfl⟩⟩⟩
 ·have s2:S0 ψ h0 h φ (Lr++(L1++[(b,Row.cs (pre++css.flatten++rest))]++L2)):=s.perm (by
   rw [f,t]
   have a:(L1++[(b,Row.cs (pre++css.flatten++rest))]++Lr).Perm (Lr++(L1++[(b,Row.cs (pre++css.flatten++rest))])):=List.perm_append_comm
   have e:=a.append_right L2
   simpa using e)
  obtain ⟨φ',j,w,x⟩:=s2.freeze
  refine ⟨φ',L1++[(b,Row.cs (pre++css.flatten++rest))]++L2,x,g φ' (.it (El.ow E') [v] xs) _ j ⟨v,rfl,.inr ⟨b,c,pre,css,rest,[],m,o,by rw [←hf.1];exact p,rfl,(u.mono j).frz hf w⟩⟩⟩
def HoleL {α:Type} (φ:CM) (E:El α) (i:Nat) (u:Value) (L:Rws) (v:Value) (xss:List (List α)):Prop:=
 (v=.slice none 0 0∧xss=[]∧L=[])∨∃ b c pre pr po rest L1 L2,v=.slice (some ⟨b,pre.length,none⟩) xss.length c∧xss.length≤c∧(c-xss.length)*1≤rest.length∧L=(b,.cs (pre++(pr++[u]::po).flatten++rest))::(L1++L2)∧pr.length=i ∧
  ∀ ψ Lo x,CLe φ ψ→OwnL ψ E Lo u x→AllR ψ (El.ow E) (L1++Lo++L2) (pr++[u]::po) (xss.set i x)
def El.hole {α:Type} (E:El α) (i:Nat) (u:Value):El (List (List α)) where
 z:=1
 R:=fun φ L cs xss=>∃ v,cs=[v]∧HoleL φ E i u L v xss
 mono:=fun hl ⟨v,a,e⟩=>⟨v,a,by
  rcases e with e|⟨b,c,pre,pr,po,rest,L1,L2,f,g,j,k,l,m⟩
  ·exact .inl e
  ·exact .inr ⟨b,c,pre,pr,po,rest,L1,L2,f,g,j,k,l,fun ψ Lo x hle ho=>m ψ Lo x (hl.trans hle) ho⟩⟩
 len:=fun ⟨v,a,_⟩=>by rw [a];rfl
 one:=fun ⟨v,a,e⟩ u hu=>by
  rw [a] at hu;simp at hu;rw [hu]
  rcases e with ⟨rfl,_⟩|⟨b,c,pre,pr,po,rest,L1,L2,rfl,_⟩<;>rfl
 zc:=[.slice none 0 0]
 zx:=[]
 hz:=fun _=>⟨_,rfl,.inl ⟨rfl,rfl,rfl⟩⟩
theorem AllR.atU {E:El α} {φ:CM}:∀ {L:Rws} {css:List (List Value)} {xss:List (List α)} {i:Nat} {x:List α},AllR φ (El.ow E) L css xss→xss[i]?=some x →
  ∃ u L1 Lo L2 pr po,L=L1++Lo++L2∧css=pr++[u]::po∧pr.length=i∧OwnL φ E Lo u x∧∀ ψ Lo' x',CLe φ ψ→OwnL ψ E Lo' u x'→AllR ψ (El.ow E) (L1++Lo'++L2) (pr++[u]::po) (xss.set i x')
 | _,[],[],i,x,_,a=>by simp at a
 | _,c::cs,y::xs,i,x,⟨L1,L2,b,e,f⟩,a=>by
  cases i with
  | zero=>
   simp at a;subst a
   obtain ⟨u,rfl,g⟩:=e
   exact ⟨u,[],L1,L2,[],cs,by simpa using b,rfl,rfl,g,fun ψ Lo' x' hle hr=>⟨Lo',L2,by simp,⟨u,rfl,hr⟩,AllR.mono hle f⟩⟩
  | succ i=>
   obtain ⟨u,M1,Mo,M2,pre,post,j,k,l,m,o⟩:=AllR.atU f (by simpa using a)
   refine ⟨u,L1++M1,Mo,M2,c::pre,post,by rw [b,j];simp,by rw [k];rfl,by simp [l],m,fun ψ Lo' x' hle hr=>?_⟩
   exact ⟨L1,M1++Lo'++M2,by simp,(El.ow E).mono hle e,o ψ Lo' x' hle hr⟩
 | _,[],_::_,_,_,h,_=>h.elim
 | _,_::_,[],_,_,h,_=>h.elim
theorem foc_S {E:El α} {v u:Value} {xss:List (List α)} {i:Int} {xs:List α} (st:S ψ h0 h os) (k:Nat) (ho:os[k]?=some (.it (El.ow (El.ow E)) [v] xss)) (m:Hd h v i u) (o:gIdx xss i=some xs):S ψ h0 h (.it (El.ow E) [u] xs::os.set k (.it (El.hole E i.toNat u) [v] xss)):=by
 obtain ⟨g1,e⟩:=Zbf o
 obtain ⟨φ,L,s,r⟩:=st
 obtain ⟨L1,Lo,L2,f,p,_,t⟩:=r.at ho
 rcases El.ow_to p with ⟨_,rfl,_⟩|⟨b,c,pre,css,rest,Lr,g,w,x,j,l⟩
 ·simp at e
 obtain ⟨u',M1,Mo,M2,pr,po,k1,a,k3,y,k5⟩:=l.atU e
 have hfl:=AllR.pre_flat pr xss Lr (by rw [←a];exact l)
 have hu:u=u':=by
  refine m.eq g ?_
  refine s.rows b (pre++css.flatten++rest) (by rw [f,j];simp) _ _ ?_
  rw [a,List.append_assoc,List.getElem?_append_right (by omega),Nat.add_sub_cancel_left,List.flatten_append,List.append_assoc,List.getElem?_append_right (by rw [hfl,k3];show i.toNat*1≤_;omega),hfl,k3]
  rw [show i.toNat-i.toNat*(El.ow E).z=0 by show i.toNat-i.toNat*1=0;omega]
  rfl
 subst hu
 refine ⟨φ,Mo++(L1++((b,.cs (pre++(pr++[u]::po).flatten++rest))::(M1++M2))++L2),s.perm ?_,Mo,_,rfl,⟨u,rfl,y⟩,t φ (.it (El.hole E i.toNat u) [v] xss) _ (CLe.refl _) ⟨v,rfl,.inr ⟨b,c,pre,pr,po,rest,M1,M2,g,w,x,rfl,k3,k5⟩⟩⟩
 rw [f,j,k1,←a]
 generalize (b,Row.cs (pre++css.flatten++rest))=big
 have h1:(L1++big::M1++Mo).Perm (Mo++(L1++big::M1)):=List.perm_append_comm
 have h2:=h1.append_right (M2++L2)
 simpa using h2
theorem unf_S {E:El α} {v u:Value} {xss:List (List α)} {i:Nat} {ys:List α} (st:S ψ h0 h (.it (El.ow E) [u] ys::os)) (k:Nat) (ho:os[k]?=some (.it (El.hole E i u) [v] xss)):S ψ h0 h (os.set k (.it (El.ow (El.ow E)) [v] (xss.set i ys))):=by
 obtain ⟨φ,L,s,Ly,L',rfl,hy,r⟩:=st
 obtain ⟨L1,Lo,L2,rfl,g,_,f⟩:=r.at ho
 obtain ⟨v',a,e⟩:=g
 simp at a;subst a
 rcases e with ⟨rfl,rfl,rfl⟩|⟨b,c,pre,pr,po,rest,M1,M2,j,l,m,o,t,p⟩
 ·refine ⟨φ,L1++[]++L2,s.sub (List.sublist_append_right ..),?_⟩
  have:=f φ (.it (El.ow (El.ow E)) [.slice none 0 0] []) [] (CLe.refl _) ⟨_,rfl,.inl ⟨rfl,rfl,rfl⟩⟩
  simpa using this
 ·have hall:=p φ Ly ys (CLe.refl _) (El.ow_to hy)
  refine ⟨φ,L1++((b,.cs (pre++(pr++[u]::po).flatten++rest))::(M1++Ly++M2))++L2,s.perm ?_,f φ (.it (El.ow (El.ow E)) [v] (xss.set i ys)) _ (CLe.refl _) ⟨v,rfl,.inr ⟨b,c,pre,pr++[u]::po,rest,M1++Ly++M2,by simpa using j,by simpa using l,by rw [List.length_set];exact m,rfl,hall⟩⟩⟩
  rw [o]
  generalize (b,Row.cs (pre++(pr++[u]::po).flatten++rest))=big
  have a:(Ly++(L1++big::M1)).Perm ((L1++big::M1)++Ly):=List.perm_append_comm
  have e:=a.append_right (M2++L2)
  simpa using e
end
end Go.Vc
