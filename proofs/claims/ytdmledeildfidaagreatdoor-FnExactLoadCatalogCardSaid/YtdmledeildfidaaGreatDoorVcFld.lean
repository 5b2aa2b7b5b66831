import Derived.Test.YtdmledeildfidaaGreatDoorVcB
namespace Go.Vc
set_option linter.unusedVariables false
set_option linter.unusedSimpArgs false
open Go
section
variable {ψ:CM} {h0 h:Heap} {os:List Ob} {α:Type}
def Fld (E:El α) (off:Nat) (c:Value) (e:α->α):Prop:=off<E.z/\c.oneCell'=true/\∀ a L cs x,E.R a L cs x->E.R a L (cs.set off c) (e x)
theorem Zrj {k:IntKind} {y:Int}:Fld (El.int k) 0 (.int k y) (fun _=>y):=⟨Nat.zero_lt_one,rfl,fun e L cs x h=>by obtain ⟨h1,a⟩:=h;subst a;exact ⟨h1,rfl⟩⟩
theorem Ztw {y:ByteArray}:Fld El.str 0 (.string y) (fun _=>y):=⟨Nat.zero_lt_one,rfl,fun e L cs x h=>by obtain ⟨h1,a⟩:=h;subst a;exact ⟨h1,rfl⟩⟩
theorem fld_l {o:Type} {E:El α} {F:El o} {off:Nat} {c:Value} {k:α->α} (h:Fld E off c k):Fld (El.pair E F) off c (fun x=>(k x.1,x.2)):=by
 obtain ⟨h1,e,f⟩:=h;refine ⟨Nat.lt_of_lt_of_le h1 (Nat.le_add_right _ _),e,fun u L cs x ⟨c1,c2,l,r,g,i,a,j⟩=>⟨c1.set off c,c2,l,r,?_,i,f u l c1 x.1 a,j⟩⟩;rw [g,List.set_append_left _ _ (by rw [E.len a];exact h1)]
theorem fld_r {l:Type} {E:El α} {F:El l} {off n:Nat} {c:Value} {r:l->l} (h:Fld F off c r) (e:n=E.z+off):Fld (El.pair E F) n c (fun x=>(x.1,r x.2)):=by
 subst e;obtain ⟨h1,f,g⟩:=h;refine ⟨Nat.add_lt_add_left h1 _,f,fun w L cs x ⟨c1,c2,u,o,i,j,a,k⟩=>⟨c1,c2.set off c,u,o,?_,j,a,g w o c2 x.2 k⟩⟩;rw [i,List.set_append_right _ _ (by rw [E.len a];omega),E.len a,Nat.add_sub_cancel_left]
theorem Zfj {j:Type} {E:El α} {f:j->α} {z:j} {hz:f z=E.zx} {off:Nat} {c:Value} {k:α->α} {ub:j->j} (h:Fld E off c k) (o:∀ x,f (ub x)=k (f x)):Fld (El.iso E f z hz) off c ub:=by
 obtain ⟨h1,a,e⟩:=h;refine ⟨h1,a,fun l L cs x g=>?_⟩;show E.R l L (cs.set off c) (f (ub x));rw [o];exact e l L cs (f x) g
theorem Zxm {E:El α} {φ:CM} {z off:Nat} {rows M:Rws} {v f:Value} {xs:List α} {k:Int} {x0:α} {up:α->α} {p q:Addr} {K:Heap->Prop}
  (s:S0 ψ h0 h φ (rows++M)) (ho:OwnL φ E rows v xs) (hp:AddrOf v k z p) (j:∀ b o,p=⟨b,o,none⟩->q=⟨b,o+off,none⟩) (hz:E.z=z) (hk:gIdx xs k=some x0) (hf:Fld E off f up)
  (hK:∀ a2 h',S0 ψ h0 h' φ (a2++M)->OwnL φ E a2 v (xs.set k.toNat (up x0))->K h'):vStore1 h q f K:=by
 subst hz;obtain ⟨f1,l,r⟩:=hf;obtain ⟨g1,u⟩:=Zax hk;obtain ⟨a,n,c,rfl,rfl⟩:=hp;rcases ho with ⟨e,_⟩|⟨b,c,pre,css,rest,Lr,e,w,hrest,rfl,hall⟩
 ·cases e
 cases e;obtain ⟨d,M1,Mo,M2,pr,po,k1,k2,k3,g,y⟩:=hall.at u;have a8:=AllR.pre_flat pr xs Lr (by rw [<-k2];exact hall);have hd:=E.len g;have a5:off<d.length:=ω;have ed:d=d.take off++[d[off]]++d.drop (off+1):=by
  rw [List.append_assoc];exact (List.take_append_drop off d).symm.trans (by rw [List.drop_eq_getElem_cons a5];rfl)
 have es:d.set off f=d.take off++[f]++d.drop (off+1):=by
  rw [List.set_eq_take_append_cons_drop,if_pos a5];simp
 rw [j b (pre.length+k.toNat*E.z) (by rw [ZP])];have sm:Sta h0 h ((b,.cs ((pre++pr.flatten++d.take off)++[d[off]]++(d.drop (off+1)++po.flatten++rest)))::(Lr++M)) fun x=>CLe φ (hcell x):=by
  have:=s.sta;rw [k2] at this;have e2:pre++(pr++d::po).flatten++rest=(pre++pr.flatten++d.take off)++[d[off]]++(d.drop (off+1)++po.flatten++rest):=by
   simp;rw [<-List.append_assoc (List.take (off+1) d),List.take_append_drop]
  rw [e2] at this;simpa using this
 refine Ze8 [f] [d[off]] (pre++pr.flatten++d.take off) _ 0 h _ (by rw [List.length_append,List.length_append,a8,k3,List.length_take,Nat.min_eq_left ω];rfl) rfl (fun v i=>by simp at i;rw [i];exact l) sm fun h' t=>?_;have s2:S0 ψ h0 h' φ ((b,.cs ((pre++pr.flatten++d.take off)++[f]++(d.drop (off+1)++po.flatten++rest)))::(Lr++M)):=s.of_sta' t rfl;refine hK ((b,.cs ((pre++pr.flatten++d.take off)++[f]++(d.drop (off+1)++po.flatten++rest)))::Lr) h' s2 (.inr ⟨b,c,pre,pr++d.set off f::po,rest,Lr,?_,?_,?_,?_,?_⟩)
 ·simp
 ·simpa using w
 ·simpa using hrest
 ·rw [es];simp
 ·have:=y (d.set off f) Mo (up x0) (r φ Mo d x0 g);rw [k1];exact this
theorem stF_S {E:El α} {z off:Nat} {v a:Value} {xs:List α} {k:Int} {x0:α} {x:α->α} {p q:Addr} {K:Heap->Prop} (st:S ψ h0 h os) (i:Nat) (ho:os[i]?=some (.it (El.ow E) [v] xs)) (hp:AddrOf v k z p) (c:∀ b o,p=⟨b,o,none⟩->q=⟨b,o+off,none⟩) (hz:E.z=z) (hk:gIdx xs k=some x0) (hf:Fld E off a x)
  (hK:∀ u,S ψ h0 u (os.set i (.it (El.ow E) [v] (xs.set k.toNat (x x0))))->K u):vStore1 h q a K:=by
 obtain ⟨φ,L,s,r⟩:=st;obtain ⟨L1,Lo,L2,e,f,_,g⟩:=r.at ho;have s2:S0 ψ h0 h φ (Lo++(L1++L2)):=s.perm (by rw [e,<-List.append_assoc];exact List.Perm.append_right _ List.perm_append_comm);refine Zxm s2 (El.ow_to f) hp c hz hk hf fun l u j w=>hK u ⟨φ,L1++l++L2,j.perm ?_,g φ (.it (El.ow E) [v] (xs.set k.toNat (x x0))) _ (CLe.refl _) ⟨v,rfl,w⟩⟩;rw [<-List.append_assoc];exact List.Perm.append_right _ List.perm_append_comm
theorem AllR.atM {φ:CM} {E:El α}:∀ {L:Rws} {css:List (List Value)} {xs:List α} {i:Nat} {x:α},AllR φ E L css xs->xs[i]?=some x ->
  ∃ c L1 Lo L2 pre u,L=L1++Lo++L2/\css=pre++c::u/\pre.length=i/\E.R φ Lo c x/\∀ ψ r x',CLe φ ψ->E.R ψ r c x'->AllR ψ E (L1++r++L2) (pre++c::u) (xs.set i x')
 | _,[],[],i,x,_,a=>by simp at a
 | _,c::cs,y::xs,i,x,⟨L1,L2,h1,e,f⟩,a=>by
  cases i with
  | zero=>
   simp at a;subst a;exact ⟨c,[],L1,L2,[],cs,by simpa using h1,rfl,rfl,e,fun ψ r x' w hr=>⟨r,L2,by simp,hr,AllR.mono w f⟩⟩
  | succ i=>
   obtain ⟨d,M1,Mo,M2,pre,u,g,j,k,l,o⟩:=AllR.atM f (by simpa using a);refine ⟨d,L1++M1,Mo,M2,c::pre,u,by rw [h1,g];simp,by rw [j];rfl,by simp [k],l,fun ψ r x' w hr=>?_⟩;exact ⟨L1,M1++r++M2,by simp,E.mono w e,o ψ r x' w hr⟩
 | _,[],_::_,_,_,h,_=>h.elim
 | _,_::_,[],_,_,h,_=>h.elim
def Lens {g:Type} (E:El α) (off:Nat) (F:El g) (get:α->g) (put:α->g->α):Prop:=∀ e L cs x,E.R e L cs x ->
 ∃ u k l j,cs[off]?=some u/\L=k++l++j/\F.R e l [u] (get x)/\∀ ψ a y,CLe e ψ->F.R ψ a [u] y->E.R ψ (k++a++j) cs (put x y)
theorem ZEO {G:El α}:Lens (El.ow G) 0 (El.ow G) (fun x=>x) (fun _ y=>y):=fun j L cs x h=>by
 obtain ⟨v,rfl,a⟩:=h;exact ⟨v,[],L,[],rfl,by simp,⟨v,rfl,a⟩,fun ψ g y _ e=>by simpa using e⟩
theorem ZDA {k γ:Type} {E:El α} {r:El γ} {F:El k} {off:Nat} {get:α->k} {put:α->k->α} (h:Lens E off F get put):Lens (El.pair E r) off F (fun x=>get x.1) (fun x y=>(put x.1 y,x.2)):=by
 rintro φ L cs x ⟨c1,c2,L1,l,rfl,rfl,a,c⟩;obtain ⟨u,w,Mo,o,k1,rfl,k3,e⟩:=h φ L1 c1 x.1 a;have hl:off<c1.length:=by
  rw [List.getElem?_eq_some_iff] at k1;exact k1.1
 refine ⟨u,w,Mo,o++l,by rw [List.getElem?_append_left hl];exact k1,by simp,k3,fun ψ j y g hy=>⟨c1,c2,w++j++o,l,rfl,by simp,e ψ j y g hy,r.mono g c⟩⟩
theorem ZnQ {l g:Type} {E:El α} {w:El g} {F:El l} {off n:Nat} {get:g->l} {put:g->l->g} (h:Lens w off F get put) (c:n=E.z+off):Lens (El.pair E w) n F (fun x=>get x.2) (fun x y=>(x.1,put x.2 y)):=by
 subst c;rintro φ L cs x ⟨c1,c2,o,L2,rfl,rfl,a,e⟩;obtain ⟨u,M1,Mo,r,k1,rfl,k3,f⟩:=h φ L2 c2 x.2 e;refine ⟨u,o++M1,Mo,r,by rw [List.getElem?_append_right (by rw [E.len a];omega),E.len a,Nat.add_sub_cancel_left];exact k1,by simp,k3,fun ψ k y j hy=>⟨c1,c2,o,M1++k++r,rfl,by simp,E.mono j a,f ψ k y j hy⟩⟩
theorem ZtK {e j:Type} {E:El α} {F:El e} {f:j->α} {z:j} {hz:f z=E.zx} {off:Nat} {get:α->e} {put:α->e->α} {gb:j->e} {pb:j->e->j} (h:Lens E off F get put) (hg:∀ x,gb x=get (f x)) (w:∀ x y,f (pb x y)=put (f x) y):Lens (El.iso E f z hz) off F gb pb:=by
 intro φ L cs x g;obtain ⟨u,M1,o,M2,k1,k2,k3,a⟩:=h φ L cs (f x) g;refine ⟨u,M1,o,M2,k1,k2,by rw [hg];exact k3,fun ψ l y k r=>?_⟩;show E.R ψ _ cs (f (pb x y));rw [w];exact a ψ l y k r
def HoleF {e:Type} (l:CM) (E:El α) (F:El e) (i:Nat) (u:Value) (put:e->α) (L:Rws) (v:Value) (xs:List α):Prop:=
 ∃ b c pre css a j g,v=.slice (some ⟨b,pre.length,none⟩) xs.length c/\xs.length<=c/\(c-xs.length)*E.z<=a.length/\L=(b,.cs (pre++css.flatten++a))::(j++g) /\
  ∀ ψ k y,CLe l ψ->F.R ψ k [u] y->AllR ψ E (j++k++g) css (xs.set i (put y))
def El.holeF {r:Type} (E:El α) (F:El r) (i:Nat) (u:Value) (put:r->α):El (List α) where
 z:=1
 R:=fun φ L cs xs=>(cs=[.slice none 0 0]/\xs=[]/\L=[])\/∃ v,cs=[v]/\HoleF φ E F i u put L v xs
 mono:=fun hl h=>h.elim .inl fun ⟨v,h1,b,c,pre,css,l,L1,x,a,e,f,g,j⟩=>.inr ⟨v,h1,b,c,pre,css,l,L1,x,a,e,f,g,fun ψ Lo y o ho=>j ψ Lo y (hl.trans o) ho⟩
 len:=fun h=>h.elim (fun h=>by rw [h.1];rfl) fun ⟨v,h1,_⟩=>by rw [h1];rfl
 one:=fun h w k=>by
  rcases h with ⟨h1,_⟩|⟨v,h1,b,c,pre,css,l,L1,x,a,_⟩
  ·rw [h1] at k;simp at k;rw [k];rfl
  ·rw [h1] at k;simp at k;rw [k,a];rfl
 zc:=[.slice none 0 0]
 zx:=[]
 hz:=fun _=>.inl ⟨rfl,rfl,rfl⟩
theorem ldF_S {β:Type} {E:El α} {F:El β} {z off:Nat} {v:Value} {xs:List α} {k:Int} {x0:α} {get:α->β} {put:α->β->α} {p q:Addr} {K:Value->Prop} (st:S ψ h0 h os) (i:Nat) (ho:os[i]?=some (.it (El.ow E) [v] xs)) (hp:AddrOf v k z p) (l:∀ b o,p=⟨b,o,none⟩->q=⟨b,o+off,none⟩) (hz:E.z=z) (hk:gIdx xs k=some x0) (hf:Lens E off F get put)
  (hK:∀ u,S ψ h0 h (.it F [u] (get x0)::os.set i (.it (El.holeF E F k.toNat u (put x0)) [v] xs))->K u):ldV h q K:=by
 subst hz;obtain ⟨g1,w⟩:=Zax hk;obtain ⟨φ,L,s,r⟩:=st;obtain ⟨L1,Lo,L2,g,x,_,e4⟩:=r.at ho;obtain ⟨a,n,c,rfl,rfl⟩:=hp;rcases El.ow_to x with ⟨e,_⟩|⟨b,c,pre,css,rest,Lr,e,hc,hrest,j,hall⟩
 ·cases e
 cases e;obtain ⟨d,M1,Mo,M2,pr,po,k1,k2,k3,k4,k5⟩:=AllR.atM hall w;have a6:=AllR.pre_flat pr xs Lr (by rw [<-k2];exact hall);obtain ⟨u,N1,No,N2,f,j2,j3,j4⟩:=hf φ Mo d x0 k4;have ac:off<d.length:=by rw [List.getElem?_eq_some_iff] at f;exact f.1
 rw [l b (pre.length+k.toNat*E.z) (by rw [ZP])];refine ⟨u,?_,hK u ?_⟩
 ·refine s.rows b (pre++css.flatten++rest) (by rw [g,j];simp) _ _ ?_;rw [k2,List.append_assoc,List.getElem?_append_right ω,List.flatten_append,List.append_assoc,List.getElem?_append_right (by rw [a6,k3];omega),a6,k3];rw [show pre.length+k.toNat*E.z+off-pre.length-k.toNat*E.z=off by omega,List.flatten_cons,List.append_assoc,List.getElem?_append_left ac];exact f
 ·refine ⟨φ,No++(L1++((b,.cs (pre++css.flatten++rest))::((M1++N1)++(N2++M2)))++L2),s.perm ?_,No,_,rfl,j3,e4 φ (.it (El.holeF E F k.toNat u (put x0)) [_] xs) _ (CLe.refl _) (.inr ⟨_,rfl,b,c,pre,css,rest,M1++N1,N2++M2,rfl,hc,hrest,rfl,fun a3 ad y a4 hy=>?_⟩)⟩
  ·rw [g,j,k1,j2];generalize (b,Row.cs (pre++css.flatten++rest))=a5;have h1:(L1++a5::(M1++N1)++No).Perm (No++(L1++a5::(M1++N1))):=List.perm_append_comm;have h2:=h1.append_right (N2++M2++L2);simpa using h2
  ·have:=k5 a3 _ _ a4 (j4 a3 ad y a4 hy);rw [k2];simpa using this
theorem ZCV {β:Type} {E:El α} {F:El β} {v u:Value} {xs:List α} {i:Nat} {y:β} {put:β->α} (st:S ψ h0 h (.it F [u] y::os)) (k:Nat) (ho:os[k]?=some (.it (El.holeF E F i u put) [v] xs)):S ψ h0 h (os.set k (.it (El.ow E) [v] (xs.set i (put y)))):=by
 obtain ⟨φ,L,s,x,L',rfl,hy,r⟩:=st;obtain ⟨L1,Lo,L2,rfl,e,_,a⟩:=r.at ho;rcases e with ⟨h1,rfl,rfl⟩|⟨v',h1,b,c,pre,css,rest,M1,M2,f,g,j,l,o⟩
 ·simp at h1;subst h1;refine ⟨φ,L1++[]++L2,s.sub (List.sublist_append_right ..),?_⟩;have:=a φ (.it (El.ow E) [.slice none 0 0] []) [] (CLe.refl _) ⟨_,rfl,.inl ⟨rfl,rfl,rfl⟩⟩;simpa using this
 ·simp at h1;subst h1;have a3:=o φ x y (CLe.refl _) hy;refine ⟨φ,L1++((b,.cs (pre++css.flatten++rest))::(M1++x++M2))++L2,s.perm ?_,a φ (.it (El.ow E) [v] (xs.set i (put y))) _ (CLe.refl _) ⟨v,rfl,.inr ⟨b,c,pre,css,rest,M1++x++M2,by simpa using f,by simpa using g,by rw [List.length_set];exact j,rfl,a3⟩⟩⟩;rw [l];generalize (b,Row.cs (pre++css.flatten++rest))=a2;have h1:(x++(L1++a2::M1)).Perm ((L1++a2::M1)++x):=List.perm_append_comm;have w:=h1.append_right (M2++L2);simpa using w
end
end Go.Vc
