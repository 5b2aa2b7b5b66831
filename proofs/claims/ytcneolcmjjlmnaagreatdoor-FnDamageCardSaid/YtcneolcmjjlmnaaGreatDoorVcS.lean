import Derived.Test.YtcneolcmjjlmnaaGreatDoorVcSt
open List renaming mem_cons_self->JA,flatten_cons->JX,length_append->Jo,length_cons->Jy,append_assoc->Js,mem_append_left->J1,map_append->Xd,length->Jk
open Option renaming some->Jg
open Go renaming Value->Jl
namespace Go.Vc
set_option linter.unusedVariables false
set_option linter.unusedSimpArgs false
open Go
theorem Sta.perm {f h:Heap} {L L':Rws} {D:Heap->Prop} (hp:L.Perm L') (st:Sta f h L D):Sta f h L' D:=by
 have a:L.bs.Perm L'.bs:=hp.map _;refine ⟨st.ext,λb cs g=>st.row b cs (hp.mem_iff.2 g),λb g=>st.low b (a.mem_iff.2 g),a.nodup_iff.1 st.nod,λj e=>st.dat j (e.mono λx e=>a.mem_iff.2 e)⟩
theorem Sta.sub {f h:Heap} {L L':Rws} {D:Heap->Prop} (hs:L'.Sublist L) (st:Sta f h L D):Sta f h L' D:=by
 have a:L'.bs.Sublist L.bs:=hs.map _;exact ⟨st.ext,λb cs g=>st.row b cs (hs.subset g),λb g=>st.low b (a.subset g),a.nodup st.nod,λj e=>st.dat j (e.mono λx e=>a.subset e)⟩
theorem ZiN {a:Heap} {L:Rws} {D:Heap->Prop} {b:Nat} {j:Jc}:∀(news g pre:Jc) (off i:Nat) (h:Heap) (K:Heap->Prop),off+i=Jk pre->Jk g=Jk news->(∀v∈news,v.oneCell'=true) ->
  Sta a h ((b,.cs (pre++g++j))::L) D->(∀k,Sta a k ((b,.cs (pre++news++j))::L) D->K k)->vStoreN ⟨b,off,none⟩ news i h K
 | [],[],pre,off,i,h,K,_,_,_,st,hk=>hk h st
 | [],_::_,_,_,_,_,_,_,hl,_,_,_=>by simp at hl
 | _::_,[],_,_,_,_,_,_,hl,_,_,_=>by simp at hl
 | v::news,c::g,pre,off,i,h,K,ho,hl,h1,st,hk=>by
  unfold vStoreN;have e:Sta a h ((b,.cs (pre++[c]++(g++j)))::L) D:=by simpa using st
  refine ZGP e 0 ho.symm (by rw [ZY];rfl) rfl (h1 v (JA ..)) λk w=>?_;refine ZiN news g (pre++[v]) off (i+1) k K (by simp;omega) (by simpa using hl) (λu x=>h1 u (List.mem_cons_of_mem _ x)) (by simpa using w) λo l=>hk o (by simpa using l)
end Go.Vc
namespace Go.Vc
set_option linter.unusedVariables false
set_option linter.unusedSimpArgs false
open Go
abbrev CM:=Addr->Jm Jl
def CLe (φ ψ:CM):Prop:=∀p u,φ p=Jg u->ψ p=Jg u
theorem CLe.refl (φ:CM):CLe φ φ:=λ_ _ h=>h
theorem CLe.trans {φ ψ g:CM} (h:CLe φ ψ) (k:CLe ψ g):CLe φ g:=λp u e=>k p u (h p u e)
theorem CLe.ext {h h':Heap} (a:ExtH h h'):CLe (hcell h) (hcell h'):=λ_ _ e=>Zgp a e
def CellsC (φ:CM) (p:Addr) (cs:Jc):Prop:=∀(j:Nat) u,cs[j]?=Jg u->φ (p.add j)=Jg u
theorem CellsC.mono {φ ψ:CM} {p:Addr} {cs:Jc} (g:CLe φ ψ) (h:CellsC φ p cs):CellsC ψ p cs:=λj u e=>g _ _ (h j u e)
structure El (α:Type) where
 z:Nat
 R:CM->Rws->Jc->α->Prop
 mono:∀{φ ψ L cs x},CLe φ ψ->R φ L cs x->R ψ L cs x
 len:∀{φ L cs x},R φ L cs x->Jk cs=z
 one:∀{φ L cs x},R φ L cs x->∀v∈cs,v.oneCell'=true
 zc:Jc
 zx:α
 hz:∀φ,R φ [] zc zx
def El.int (k:IntKind):El Int where
 z:=1
 R:=λ_ L cs x=>L=[]/\cs=[.int k x]
 mono:=λ_ h=>h
 len:=λh=>by rw [h.2];rfl
 one:=λh v a=>by rw [h.2] at a;simp at a;rw [a];rfl
 zc:=[.int k 0]
 zx:=0
 hz:=λ_=>⟨rfl,rfl⟩
def El.bool:El Bool where
 z:=1
 R:=λ_ L cs x=>L=[]/\cs=[.bool x]
 mono:=λ_ h=>h
 len:=λh=>by rw [h.2];rfl
 one:=λh v a=>by rw [h.2] at a;simp at a;rw [a];rfl
 zc:=[.bool false]
 zx:=false
 hz:=λ_=>⟨rfl,rfl⟩
def El.str:El Jd where
 z:=1
 R:=λ_ L cs x=>L=[]/\cs=[.string x]
 mono:=λ_ h=>h
 len:=λh=>by rw [h.2];rfl
 one:=λh v a=>by rw [h.2] at a;simp at a;rw [a];rfl
 zc:=[.string ⟨#[]⟩]
 zx:=⟨#[]⟩
 hz:=λ_=>⟨rfl,rfl⟩
def SlC {α:Type} (φ:CM) (E:El α) (v:Jl) (xs:List α):Prop:=
 (v=.slice none 0 0/\xs=[])\/∃a c,v=.slice (Jg a) (Jk xs) c/\(Jk xs)<=c/\∀(i:Nat) x,xs[i]?=Jg x->∃cs,CellsC φ (a.add (i*E.z)) cs/\E.R φ [] cs x
theorem SlC.mono {α:Type} {φ ψ:CM} {E:El α} {v:Jl} {xs:List α} (l:CLe φ ψ) (h:SlC φ E v xs):SlC ψ E v xs:=by
 rcases h with h|⟨a,c,h1,e,f⟩
 .exact .inl h
 .exact .inr ⟨a,c,h1,e,λi x g=>by obtain ⟨cs,j,k⟩:=f i x g;exact ⟨cs,j.mono l,E.mono l k⟩⟩
theorem SlC.one {α:Type} {φ:CM} {E:El α} {v:Jl} {xs:List α} (h:SlC φ E v xs):v.oneCell'=true:=by
 rcases h with ⟨rfl,_⟩|⟨a,c,rfl,_⟩<;>rfl
theorem SlC.nil {α:Type} {φ:CM} {E:El α}:SlC φ E (.slice none 0 0) []:=.inl ⟨rfl,rfl⟩
def El.sl {α:Type} (E:El α):El (List α) where
 z:=1
 R:=λφ L cs xs=>L=[]/\∃v,cs=[v]/\SlC φ E v xs
 mono:=λg ⟨h0,v,h1,a⟩=>⟨h0,v,h1,a.mono g⟩
 len:=λ⟨_,v,h1,_⟩=>by rw [h1];rfl
 one:=λ⟨_,v,h1,a⟩ u e=>by rw [h1] at e;simp at e;rw [e];exact a.one
 zc:=[.slice none 0 0]
 zx:=[]
 hz:=λ_=>⟨rfl,_,rfl,SlC.nil⟩
theorem El.sl_of {α:Type} {E:El α} {φ:CM} {v:Jl} {xs:List α} (h:SlC φ E v xs):(El.sl E).R φ [] [v] xs:=⟨rfl,v,rfl,h⟩
theorem El.sl_to {α:Type} {E:El α} {φ:CM} {L:Rws} {v:Jl} {xs:List α} (h:(El.sl E).R φ L [v] xs):SlC φ E v xs:=by
 obtain ⟨_,u,h1,a⟩:=h;grind
def AllR {α:Type} (φ:CM) (E:El α):Rws->List Jc->List α->Prop
 | L,[],[]=>L=[]
 | L,c::cs,x::xs=>∃e g,L=e++g/\E.R φ e c x/\AllR φ E g cs xs
 | _,_,_=>False
theorem AllR.mono {α:Type} {φ ψ:CM} {E:El α} (g:CLe φ ψ):∀{L:Rws} {css:List Jc} {xs:List α},AllR φ E L css xs->AllR ψ E L css xs
 | _,[],[],h=>h
 | _,_::_,_::_,⟨L1,L2,h1,a,e⟩=>⟨L1,L2,h1,E.mono g a,AllR.mono g e⟩
 | _,[],_::_,h=>h.elim
 | _,_::_,[],h=>h.elim
theorem AllR.length {α:Type} {φ:CM} {E:El α}:∀{L:Rws} {css:List Jc} {xs:List α},AllR φ E L css xs->Jk css=Jk xs
 | _,[],[],_=>rfl
 | _,_::_,_::_,⟨_,_,_,_,a⟩=>by simp [AllR.length a]
 | _,[],_::_,h=>h.elim
 | _,_::_,[],h=>h.elim
theorem AllR.flat {α:Type} {φ:CM} {E:El α}:∀{L:Rws} {css:List Jc} {xs:List α},AllR φ E L css xs->Jk css.flatten=Jk xs*E.z
 | _,[],[],_=>by simp
 | _,c::_,_::xs,⟨_,_,_,a,e⟩=>by rw [JX,Jo,E.len a,AllR.flat e,Jy,Nat.add_mul];omega
 | _,[],_::_,h=>h.elim
 | _,_::_,[],h=>h.elim
theorem AllR.one {α:Type} {φ:CM} {E:El α}:∀{L:Rws} {css:List Jc} {xs:List α},AllR φ E L css xs->∀v∈css.flatten,v.oneCell'=true
 | _,[],[],_=>by simp
 | _,c::_,_::xs,⟨_,_,_,e,f⟩=>by
  intro v a;rw [JX] at a;rcases List.mem_append.1 a with h|h
  .exact E.one e v h
  .exact AllR.one f v h
 | _,[],_::_,h=>h.elim
 | _,_::_,[],h=>h.elim
theorem AllR.app {α:Type} {φ:CM} {E:El α} {M:Rws} {g:List Jc} {j:List α} (a:AllR φ E M g j):∀{L:Rws} {css:List Jc} {xs:List α},AllR φ E L css xs->AllR φ E (L++M) (css++g) (xs++j)
 | _,[],[],h=>by
  simp_all [Rws,AllR]
 | _,c::cs,x::xs,⟨L1,L2,h1,e,f⟩=>⟨L1,L2++M,by rw [h1,Js],e,AllR.app a f⟩
 | _,[],_::_,h=>h.elim
 | _,_::_,[],h=>h.elim
theorem AllR.at {α:Type} {φ:CM} {E:El α}:∀{L:Rws} {css:List Jc} {xs:List α} {i:Nat} {x:α},AllR φ E L css xs->xs[i]?=Jg x ->
  ∃c L1 Lo L2 pre w,L=L1++Lo++L2/\css=pre++c::w/\(Jk pre)=i/\E.R φ Lo c x/\∀c' u x',E.R φ u c' x'->AllR φ E (L1++u++L2) (pre++c'::w) (xs.set i x')
 | _,[],[],i,x,_,a=>by simp at a
 | _,c::cs,y::xs,i,x,⟨L1,L2,h1,e,f⟩,a=>by
  cases i with
  | zero=>
   simp at a;subst a;exact ⟨c,[],L1,L2,[],cs,by simpa using h1,rfl,rfl,e,λc' u x' hr=>⟨u,L2,by simp,hr,f⟩⟩
  | succ i=>
   obtain ⟨d,M1,Mo,M2,pre,w,g,j,k,l,o⟩:=AllR.at f (by simpa using a);refine ⟨d,L1++M1,Mo,M2,c::pre,w,by rw [h1,g];simp,by rw [j];rfl,by simp [k],l,λc' u x' hr=>?_⟩;exact ⟨L1,M1++u++M2,by simp,e,o c' u x' hr⟩
 | _,[],_::_,_,_,h,_=>h.elim
 | _,_::_,[],_,_,h,_=>h.elim
def OwnL {α:Type} (φ:CM) (E:El α) (L:Rws) (v:Jl) (xs:List α):Prop:=
 (v=.slice none 0 0/\xs=[]/\L=[])\/∃b c pre css e g,v=.slice (Jg ⟨b,Jk pre,none⟩) (Jk xs) c/\(Jk xs)<=c/\(c-Jk xs)*E.z<=Jk e/\L=(b,.cs (pre++css.flatten++e))::g/\AllR φ E g css xs
def El.ow {α:Type} (E:El α):El (List α) where
 z:=1
 R:=λφ L cs xs=>∃v,cs=[v]/\OwnL φ E L v xs
 mono:=λl ⟨v,h1,a⟩=>⟨v,h1,by
  rcases a with a|⟨b,c,pre,css,rest,Lr,e,f,g,i,j⟩
  .exact .inl a
  .exact .inr ⟨b,c,pre,css,rest,Lr,e,f,g,i,j.mono l⟩⟩
 len:=λ⟨v,h1,_⟩=>by rw [h1];rfl
 one:=λ⟨v,h1,a⟩ u k=>by
  rw [h1] at k;simp at k;rw [k];rcases a with ⟨rfl,_⟩|⟨b,c,pre,css,rest,Lr,rfl,_⟩<;>rfl
 zc:=[.slice none 0 0]
 zx:=[]
 hz:=λ_=>⟨_,rfl,.inl ⟨rfl,rfl,rfl⟩⟩
theorem El.ow_to {α:Type} {E:El α} {φ:CM} {L:Rws} {v:Jl} {xs:List α} (h:(El.ow E).R φ L [v] xs):OwnL φ E L v xs:=by
 obtain ⟨u,h1,a⟩:=h;grind
def RowsC (φ:CM) (L:Rws):Prop:=∀b row,(b,Row.cs row)∈L->∀(j:Nat) u,row[j]?=Jg u->φ ⟨b,j,none⟩=Jg u
theorem RowsC.mono {φ ψ:CM} {L:Rws} (k:CLe φ ψ) (h:RowsC φ L):RowsC ψ L:=λb row e j u g=>k _ _ (h b row e j u g)
theorem RowsC.left {φ:CM} {L M:Rws} (h:RowsC φ (L++M)):RowsC φ L:=λb row e=>h b row (J1 _ e)
theorem RowsC.right {φ:CM} {L M:Rws} (h:RowsC φ (L++M)):RowsC φ M:=λb row e=>h b row (List.mem_append_right _ e)
def Frz {α:Type} (E E':El α):Prop:=E.z=E'.z/\∀φ L cs x,E.R φ L cs x->RowsC φ L->E'.R φ [] cs x
theorem Zk (k:IntKind):Frz (El.int k) (El.int k):=⟨rfl,λ_ _ _ _ h _=>⟨rfl,h.2⟩⟩
theorem ZgC:Frz El.bool El.bool:=⟨rfl,λ_ _ _ _ h _=>⟨rfl,h.2⟩⟩
theorem Zft:Frz El.str El.str:=⟨rfl,λ_ _ _ _ h _=>⟨rfl,h.2⟩⟩
theorem Zah {α:Type} (E:El α):Frz (El.sl E) (El.sl E):=⟨rfl,λ_ _ _ _ h _=>⟨rfl,h.2⟩⟩
theorem ZO {α:Type} {E E':El α} (hf:Frz E E'):Frz (El.ow E) (El.sl E'):=by
 refine ⟨rfl,λφ L cs xs h hr=>?_⟩;obtain ⟨v,rfl,a⟩:=h;refine El.sl_of ?_;rcases a with ⟨h1,a,_⟩|⟨b,c,pre,css,rest,Lr,g,k,_,e,f⟩
 .exact .inl ⟨h1,a⟩
 .refine .inr ⟨_,c,g,k,λi x l=>?_⟩;obtain ⟨d,L1,Lo,L2,pr,po,o,r,s,w,_⟩:=f.at l;have hl:=hf.2 φ Lo d x w (by
   intro b' row hm;exact hr b' row (by rw [e,o];simp [hm]))
  refine ⟨d,λj u hu=>?_,hl⟩;have hz:Jk pr.flatten=i*E'.z:=by
   have:∀(q:List Jc) (y:List α) (M:Rws),AllR φ E M (q++d::po) y->Jk q.flatten=Jk q*E.z:=by
    intro q;induction q with
    | nil=>intros;simp
    | cons q0 q ih=>
     intro y M hy;cases y with
     | nil=>exact hy.elim
     | cons y0 y=>
      obtain ⟨_,_,_,k2,k3⟩:=hy;rw [JX,Jo,E.len k2,ih y _ k3,Jy,Nat.add_mul];omega
   rw [this pr xs Lr (by rw [<-r];exact f),s,hf.1]
  rw [ZY,ZY];refine hr b _ (by rw [e];exact JA ..) _ _ ?_;grind
inductive Ob:Type 1
 | it {α:Type} (E:El α) (cs:Jc) (x:α)
 | box (b:Nat) (cs:Jc)
 | mp (b:Nat) (m:List (Jl×Jl))
def Ob.ok (φ:CM):Ob->Rws->Prop
 | .it E cs x,L=>E.R φ L cs x
 | .box b cs,L=>L=[(b,.cs cs)]
 | .mp b m,L=>L=[(b,.mp m)]
theorem Ob.ok_mono {φ ψ:CM} (e:CLe φ ψ):∀{o:Ob} {L:Rws},o.ok φ L->o.ok ψ L
 | .it E _ _,_,h=>E.mono e h
 | .box _ _,_,h=>h
 | .mp _ _,_,h=>h
def Rel (φ:CM):List Ob->Rws->Prop
 | [],L=>L=[]
 | o::os,L=>∃g e,L=g++e/\o.ok φ g/\Rel φ os e
theorem Rel.mono {φ ψ:CM} (g:CLe φ ψ):∀{os:List Ob} {L:Rws},Rel φ os L->Rel ψ os L
 | [],_,h=>h
 | _::_,_,⟨L1,L2,h1,a,e⟩=>⟨L1,L2,h1,Ob.ok_mono g a,Rel.mono g e⟩
theorem Rel.app {φ:CM} {pos:List Ob} {M:Rws} (a:Rel φ pos M):∀{os:List Ob} {L:Rws},Rel φ os L->Rel φ (os++pos) (L++M)
 | [],L,h=>by
  have h':L=[]:=h;grind
 | o::os,L,⟨L1,L2,h1,e,f⟩=>⟨L1,L2++M,by rw [h1,Js],e,Rel.app a f⟩
theorem Rel.at {φ:CM}:∀{os:List Ob} {L:Rws} {i:Nat} {o:Ob},Rel φ os L->os[i]?=Jg o ->
  ∃w Lo x,L=w++Lo++x/\o.ok φ Lo/\Rel φ (os.eraseIdx i) (w++x)/\∀ψ o' u,CLe φ ψ->o'.ok ψ u->Rel ψ (os.set i o') (w++u++x)
 | [],_,i,o,_,ho=>by simp at ho
 | a::os,L,i,o,⟨w,x,h1,e,f⟩,ho=>by
  cases i with
  | zero=>
   simp at ho;subst ho;exact ⟨[],w,x,by simpa using h1,e,f,λψ o' u hl hr=>⟨u,x,by simp,hr,f.mono hl⟩⟩
  | succ i=>
   obtain ⟨M1,Mo,M2,g,j,k,l⟩:=Rel.at f (by simpa using ho);refine ⟨w++M1,Mo,M2,by rw [h1,g];simp,j,⟨w,M1++M2,by simp,e,k⟩,λψ o' u hl hr=>?_⟩;exact ⟨w,M1++u++M2,by simp,Ob.ok_mono hl e,l ψ o' u hl hr⟩
structure S0 (ψ:CM) (h0 h:Heap) (φ:CM) (L:Rws):Prop where
 ext:ExtH h0 h
 row:∀b r,(b,r)∈L->RowX h b r
 low:∀b,b∈L.bs->h0.size<=b
 nod:L.bs.Nodup
 fle:CLe φ (hcell h)
 dis:∀p u,φ p=Jg u->p.block∉L.bs
 bas:CLe ψ φ
 old:∀p u,φ p=Jg u->p.block<h0.size->ψ p=Jg u
def S (ψ:CM) (h0 h:Heap) (os:List Ob):Prop:=∃φ L,S0 ψ h0 h φ L/\Rel φ os L
section
variable {ψ φ:CM} {h0 h h':Heap} {L L':Rws} {os:List Ob}
theorem S0.sta (s:S0 ψ h0 h φ L):Sta h0 h L λx=>CLe φ (hcell x):=
 ⟨s.ext,s.row,s.low,s.nod,λh' a p u hp=>Zcq a (s.dis p u hp) (s.fle p u hp)⟩
theorem S0.of_sta {D:Heap->Prop} (s:S0 ψ h0 h φ L) (t:Sta h0 h' L' D) (e:D h'->CLe φ (hcell h')) (a:L'.bs=L.bs):S0 ψ h0 h' φ L':=
 ⟨t.ext,t.row,t.low,t.nod,e t.now,λp u hp=>by rw [a];exact s.dis p u hp,s.bas,s.old⟩
theorem S0.of_sta' (s:S0 ψ h0 h φ L) (t:Sta h0 h' L' λx=>CLe φ (hcell x)) (a:L'.bs=L.bs):S0 ψ h0 h' φ L':=s.of_sta t (λh=>h) a
theorem S0.lt (s:S0 ψ h0 h φ L) {b:Nat} (a:b∈L.bs):b<h.size:=s.sta.lt a
theorem S0.perm (s:S0 ψ h0 h φ L) (hp:L.Perm L'):S0 ψ h0 h φ L':=by
 have a:L.bs.Perm L'.bs:=hp.map _;exact ⟨s.ext,λb cs e=>s.row b cs (hp.mem_iff.2 e),λb e=>s.low b (a.mem_iff.2 e),a.nodup_iff.1 s.nod,s.fle,λp u hp e=>s.dis p u hp (a.mem_iff.2 e),s.bas,s.old⟩
theorem S0.sub (s:S0 ψ h0 h φ L) (hs:L'.Sublist L):S0 ψ h0 h φ L':=by
 have a:L'.bs.Sublist L.bs:=hs.map _;exact ⟨s.ext,λb cs e=>s.row b cs (hs.subset e),λb e=>s.low b (a.subset e),a.nodup s.nod,s.fle,λp u hp e=>s.dis p u hp (a.subset e),s.bas,s.old⟩
theorem S0.new (s:S0 ψ h0 h φ L) (cs:Jc) (t:TypeId):S0 ψ h0 (h.push (.cells cs.toArray t)) φ ((h.size,.cs cs)::L):=by
 have t':=s.sta.new cs t;refine ⟨t'.ext,t'.row,t'.low,t'.nod,t'.now,λp u hp g=>?_,s.bas,s.old⟩;rcases List.mem_cons.1 g with e|e
 .have:=Zda (s.fle p u hp);omega
 .exact s.dis p u hp e
theorem S0.rows (s:S0 ψ h0 h φ L):RowsC (hcell h) L:=λb row e j u g=>RowIs.cell (s.row b _ e) g
theorem S0.freeze (s:S0 ψ h0 h φ (L'++L)):∃k,CLe φ k/\RowsC k L'/\S0 ψ h0 h k L:=by
 classical
 refine ⟨λp=>if p.block∈L'.bs then hcell h p else φ p,λp u hp=>?_,λb row g j u x=>?_,?_⟩
 .have e:=s.dis p u hp;have:p.block∉L'.bs:=λg=>e (by unfold Rws.bs at *;rw [Xd];exact J1 _ g);simp only [this,if_false];exact hp
 .have a:b∈L'.bs:=List.mem_map.2 ⟨_,g,rfl⟩;simp only [a,if_true];exact RowIs.cell (s.row b _ (J1 _ g)) x
 .have s2:S0 ψ h0 h φ L:=s.sub (List.sublist_append_right ..);have l:L'.bs++L.bs=(L'++L).bs:=by unfold Rws.bs;rw [Xd]
  refine ⟨s2.ext,s2.row,s2.low,s2.nod,λp u hp=>?_,λp u hp g=>?_,λp u hp=>?_,λp u hp w=>?_⟩
  .by_cases a:p.block∈L'.bs
   .simp only [a,if_true] at hp;exact hp
   .simp only [a,if_false] at hp;exact s.fle p u hp
  .by_cases a:p.block∈L'.bs
   .have:=s.nod;rw [<-l] at this;exact (List.nodup_append.1 this).2.2 _ a _ g rfl
   .simp only [a,if_false] at hp;exact s2.dis p u hp g
  .have o:=s.bas p u hp;have e:=s.dis p u o;have:p.block∉L'.bs:=λg=>e (by rw [<-l];exact J1 _ g);simp only [this,if_false];exact o
  .by_cases a:p.block∈L'.bs
   .have:=s.low p.block (by rw [<-l];exact J1 _ a);omega
   .simp only [a,if_false] at hp;exact s.old p u hp w
theorem S0.call {l:CM} {M:Rws} (s:S0 ψ h0 h φ L) (t:S0 φ h h' l M):S0 ψ h0 h' l (M++L):=by
 have k:(M++L).bs=M.bs++L.bs:=by unfold Rws.bs;rw [Xd]
 refine ⟨s.ext.trans t.ext,λb cs j=>?_,λb j=>?_,?_,t.fle,λp u hp j=>?_,s.bas.trans t.bas,λp u hp o=>?_⟩
 .rcases List.mem_append.1 j with e|e
  .exact t.row b cs e
  .exact (s.row b cs e).ext t.ext
 .rw [k] at j;rcases List.mem_append.1 j with e|e
  .exact Nat.le_trans s.ext.1 (t.low b e)
  .exact s.low b e
 .rw [k];refine List.nodup_append.2 ⟨t.nod,s.nod,λa w b f e=>?_⟩;subst e;have h1:=t.low a w;have g:=s.lt f;omega
 .rw [k] at j;rcases List.mem_append.1 j with e|e
  .exact t.dis p u hp e
  .exact s.dis p u (t.old p u hp (s.lt e)) e
 .exact s.old p u (t.old p u hp (Nat.lt_of_lt_of_le o s.ext.1)) o
end
end Go.Vc
