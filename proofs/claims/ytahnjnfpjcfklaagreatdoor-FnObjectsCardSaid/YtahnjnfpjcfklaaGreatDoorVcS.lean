import Derived.Test.YtahnjnfpjcfklaaGreatDoorVcList
namespace Go.Vc
set_option linter.unusedVariables false
set_option linter.unusedSimpArgs false
open Go
abbrev CM:=Addr->Option Value
def CLe (φ ψ:CM):Prop:=∀ p u,φ p=some u->ψ p=some u
theorem CLe.refl (φ:CM):CLe φ φ:=fun _ _ h=>h
theorem CLe.trans {φ ψ a:CM} (h:CLe φ ψ) (k:CLe ψ a):CLe φ a:=fun p u e=>k p u (h p u e)
theorem CLe.ext {h h':Heap} (a:ExtH h h'):CLe (hcell h) (hcell h'):=fun _ _ e=>Zfr a e
def CellsC (φ:CM) (p:Addr) (cs:List Value):Prop:=∀ (j:Nat) u,cs[j]?=some u->φ (p.add j)=some u
theorem CellsC.mono {φ ψ:CM} {p:Addr} {cs:List Value} (a:CLe φ ψ) (h:CellsC φ p cs):CellsC ψ p cs:=fun j u e=>a _ _ (h j u e)
structure El (α:Type) where
 z:Nat
 R:CM->Rws->List Value->α->Prop
 mono:∀ {φ ψ L cs x},CLe φ ψ->R φ L cs x->R ψ L cs x
 len:∀ {φ L cs x},R φ L cs x->cs.length=z
 one:∀ {φ L cs x},R φ L cs x->∀ v∈cs,v.oneCell'=true
 zc:List Value
 zx:α
 hz:∀ φ,R φ [] zc zx
def El.int (k:IntKind):El Int where
 z:=1
 R:=fun _ L cs x=>L=[]/\cs=[.int k x]
 mono:=fun _ h=>h
 len:=fun h=>by rw [h.2];rfl
 one:=fun h v a=>by rw [h.2] at a;simp at a;rw [a];rfl
 zc:=[.int k 0]
 zx:=0
 hz:=fun _=>⟨rfl,rfl⟩
def El.bool:El Bool where
 z:=1
 R:=fun _ L cs x=>L=[]/\cs=[.bool x]
 mono:=fun _ h=>h
 len:=fun h=>by rw [h.2];rfl
 one:=fun h v a=>by rw [h.2] at a;simp at a;rw [a];rfl
 zc:=[.bool false]
 zx:=false
 hz:=fun _=>⟨rfl,rfl⟩
def El.str:El ByteArray where
 z:=1
 R:=fun _ L cs x=>L=[]/\cs=[.string x]
 mono:=fun _ h=>h
 len:=fun h=>by rw [h.2];rfl
 one:=fun h v a=>by rw [h.2] at a;simp at a;rw [a];rfl
 zc:=[.string ⟨#[]⟩]
 zx:=⟨#[]⟩
 hz:=fun _=>⟨rfl,rfl⟩
def SlC {α:Type} (φ:CM) (E:El α) (v:Value) (xs:List α):Prop:=
 (v=.slice none 0 0/\xs=[])\/∃ a c,v=.slice (some a) xs.length c/\xs.length<=c/\∀ (i:Nat) x,xs[i]?=some x->∃ cs,CellsC φ (a.add (i*E.z)) cs/\E.R φ [] cs x
theorem SlC.mono {α:Type} {φ ψ:CM} {E:El α} {v:Value} {xs:List α} (l:CLe φ ψ) (h:SlC φ E v xs):SlC ψ E v xs:=by
 rcases h with h|⟨a,c,h1,e,f⟩
 ·exact .inl h
 ·exact .inr ⟨a,c,h1,e,fun i x g=>by obtain ⟨cs,j,k⟩:=f i x g;exact ⟨cs,j.mono l,E.mono l k⟩⟩
theorem SlC.one {α:Type} {φ:CM} {E:El α} {v:Value} {xs:List α} (h:SlC φ E v xs):v.oneCell'=true:=by
 rcases h with ⟨rfl,_⟩|⟨a,c,rfl,_⟩<;>rfl
theorem SlC.nil {α:Type} {φ:CM} {E:El α}:SlC φ E (.slice none 0 0) []:=.inl ⟨rfl,rfl⟩
def El.sl {α:Type} (E:El α):El (List α) where
 z:=1
 R:=fun φ L cs xs=>L=[]/\∃ v,cs=[v]/\SlC φ E v xs
 mono:=fun g ⟨h0,v,h1,a⟩=>⟨h0,v,h1,a.mono g⟩
 len:=fun ⟨_,v,h1,_⟩=>by rw [h1];rfl
 one:=fun ⟨_,v,h1,a⟩ u e=>by rw [h1] at e;simp at e;rw [e];exact a.one
 zc:=[.slice none 0 0]
 zx:=[]
 hz:=fun _=>⟨rfl,_,rfl,SlC.nil⟩
theorem El.sl_of {α:Type} {E:El α} {φ:CM} {v:Value} {xs:List α} (h:SlC φ E v xs):(El.sl E).R φ [] [v] xs:=⟨rfl,v,rfl,h⟩
theorem El.sl_to {α:Type} {E:El α} {φ:CM} {L:Rws} {v:Value} {xs:List α} (h:(El.sl E).R φ L [v] xs):SlC φ E v xs:=by
 obtain ⟨_,u,h1,a⟩:=h;simp at h1;subst h1;exact a
def AllR {α:Type} (φ:CM) (E:El α):Rws->List (List Value)->List α->Prop
 | L,[],[]=>L=[]
 | L,c::cs,x::xs=>∃ e a,L=e++a/\E.R φ e c x/\AllR φ E a cs xs
 | _,_,_=>False
theorem AllR.mono {α:Type} {φ ψ:CM} {E:El α} (g:CLe φ ψ):∀ {L:Rws} {css:List (List Value)} {xs:List α},AllR φ E L css xs->AllR ψ E L css xs
 | _,[],[],h=>h
 | _,_::_,_::_,⟨L1,L2,h1,a,e⟩=>⟨L1,L2,h1,E.mono g a,AllR.mono g e⟩
 | _,[],_::_,h=>h.elim
 | _,_::_,[],h=>h.elim
theorem AllR.length {α:Type} {φ:CM} {E:El α}:∀ {L:Rws} {css:List (List Value)} {xs:List α},AllR φ E L css xs->css.length=xs.length
 | _,[],[],_=>rfl
 | _,_::_,_::_,⟨_,_,_,_,a⟩=>by simp [AllR.length a]
 | _,[],_::_,h=>h.elim
 | _,_::_,[],h=>h.elim
theorem AllR.flat {α:Type} {φ:CM} {E:El α}:∀ {L:Rws} {css:List (List Value)} {xs:List α},AllR φ E L css xs->css.flatten.length=xs.length*E.z
 | _,[],[],_=>by simp
 | _,c::_,_::xs,⟨_,_,_,a,e⟩=>by rw [List.flatten_cons,List.length_append,E.len a,AllR.flat e,List.length_cons,Nat.add_mul];omega
 | _,[],_::_,h=>h.elim
 | _,_::_,[],h=>h.elim
theorem AllR.one {α:Type} {φ:CM} {E:El α}:∀ {L:Rws} {css:List (List Value)} {xs:List α},AllR φ E L css xs->∀ v∈css.flatten,v.oneCell'=true
 | _,[],[],_=>by simp
 | _,c::_,_::xs,⟨_,_,_,e,f⟩=>by
  intro v a;rw [List.flatten_cons] at a;rcases List.mem_append.1 a with h|h
  ·exact E.one e v h
  ·exact AllR.one f v h
 | _,[],_::_,h=>h.elim
 | _,_::_,[],h=>h.elim
theorem AllR.app {α:Type} {φ:CM} {E:El α} {M:Rws} {j:List (List Value)} {k:List α} (a:AllR φ E M j k):∀ {L:Rws} {css:List (List Value)} {xs:List α},AllR φ E L css xs->AllR φ E (L++M) (css++j) (xs++k)
 | _,[],[],h=>by
  have:∀ L:Rws,L=[]->AllR φ E (L++M) ([]++j) ([]++k):=fun L e=>by subst e;exact a
  exact this _ h
 | _,c::cs,x::xs,⟨L1,L2,h1,f,g⟩=>⟨L1,L2++M,by rw [h1,List.append_assoc],f,AllR.app a g⟩
 | _,[],_::_,h=>h.elim
 | _,_::_,[],h=>h.elim
theorem AllR.at {α:Type} {φ:CM} {E:El α}:∀ {L:Rws} {css:List (List Value)} {xs:List α} {i:Nat} {x:α},AllR φ E L css xs->xs[i]?=some x ->
  ∃ c w Lo L2 pre u,L=w++Lo++L2/\css=pre++c::u/\pre.length=i/\E.R φ Lo c x/\∀ c' r x',E.R φ r c' x'->AllR φ E (w++r++L2) (pre++c'::u) (xs.set i x')
 | _,[],[],i,x,_,a=>by simp at a
 | _,c::cs,y::xs,i,x,⟨w,L2,h1,e,f⟩,a=>by
  cases i with
  | zero=>
   simp at a;subst a;exact ⟨c,[],w,L2,[],cs,by simpa using h1,rfl,rfl,e,fun c' r x' hr=>⟨r,L2,by simp,hr,f⟩⟩
  | succ i=>
   obtain ⟨d,M1,Mo,M2,pre,u,g,j,k,l,o⟩:=AllR.at f (by simpa using a);refine ⟨d,w++M1,Mo,M2,c::pre,u,by rw [h1,g];simp,by rw [j];rfl,by simp [k],l,fun c' r x' hr=>?_⟩;exact ⟨w,M1++r++M2,by simp,e,o c' r x' hr⟩
 | _,[],_::_,_,_,h,_=>h.elim
 | _,_::_,[],_,_,h,_=>h.elim
def OwnL {α:Type} (φ:CM) (E:El α) (L:Rws) (v:Value) (xs:List α):Prop:=
 (v=.slice none 0 0/\xs=[]/\L=[])\/∃ b c pre css a e,v=.slice (some ⟨b,pre.length,none⟩) xs.length c/\xs.length<=c/\(c-xs.length)*E.z<=a.length/\L=(b,.cs (pre++css.flatten++a))::e/\AllR φ E e css xs
def El.ow {α:Type} (E:El α):El (List α) where
 z:=1
 R:=fun φ L cs xs=>∃ v,cs=[v]/\OwnL φ E L v xs
 mono:=fun l ⟨v,h1,a⟩=>⟨v,h1,by
  rcases a with a|⟨b,c,pre,css,rest,Lr,e,f,g,i,j⟩
  ·exact .inl a
  ·exact .inr ⟨b,c,pre,css,rest,Lr,e,f,g,i,j.mono l⟩⟩
 len:=fun ⟨v,h1,_⟩=>by rw [h1];rfl
 one:=fun ⟨v,h1,a⟩ u k=>by
  rw [h1] at k;simp at k;rw [k];rcases a with ⟨rfl,_⟩|⟨b,c,pre,css,rest,Lr,rfl,_⟩<;>rfl
 zc:=[.slice none 0 0]
 zx:=[]
 hz:=fun _=>⟨_,rfl,.inl ⟨rfl,rfl,rfl⟩⟩
theorem El.ow_to {α:Type} {E:El α} {φ:CM} {L:Rws} {v:Value} {xs:List α} (h:(El.ow E).R φ L [v] xs):OwnL φ E L v xs:=by
 obtain ⟨u,h1,a⟩:=h;simp at h1;subst h1;exact a
def RowsC (φ:CM) (L:Rws):Prop:=∀ b row,(b,Row.cs row)∈L->∀ (j:Nat) u,row[j]?=some u->φ ⟨b,j,none⟩=some u
theorem RowsC.mono {φ ψ:CM} {L:Rws} (a:CLe φ ψ) (h:RowsC φ L):RowsC ψ L:=fun b row g j u e=>a _ _ (h b row g j u e)
theorem RowsC.left {φ:CM} {L M:Rws} (h:RowsC φ (L++M)):RowsC φ L:=fun b row a=>h b row (List.mem_append_left _ a)
theorem RowsC.right {φ:CM} {L M:Rws} (h:RowsC φ (L++M)):RowsC φ M:=fun b row a=>h b row (List.mem_append_right _ a)
def Frz {α:Type} (E a:El α):Prop:=E.z=a.z/\∀ φ L cs x,E.R φ L cs x->RowsC φ L->a.R φ [] cs x
theorem Zi (k:IntKind):Frz (El.int k) (El.int k):=⟨rfl,fun _ _ _ _ h _=>⟨rfl,h.2⟩⟩
theorem ZdZ:Frz El.bool El.bool:=⟨rfl,fun _ _ _ _ h _=>⟨rfl,h.2⟩⟩
theorem Zyl:Frz El.str El.str:=⟨rfl,fun _ _ _ _ h _=>⟨rfl,h.2⟩⟩
theorem Zaj {α:Type} (E:El α):Frz (El.sl E) (El.sl E):=⟨rfl,fun _ _ _ _ h _=>⟨rfl,h.2⟩⟩
theorem ZR {α:Type} {E E':El α} (hf:Frz E E'):Frz (El.ow E) (El.sl E'):=by
 refine ⟨rfl,fun φ L cs xs h hr=>?_⟩;obtain ⟨v,rfl,a⟩:=h;refine El.sl_of ?_;rcases a with ⟨h1,a,_⟩|⟨b,c,pre,css,rest,Lr,k,l,_,e,f⟩
 ·exact .inl ⟨h1,a⟩
 ·refine .inr ⟨_,c,k,l,fun i x o=>?_⟩;obtain ⟨d,L1,Lo,L2,pr,po,r,g,s,w,_⟩:=f.at o;have hl:=hf.2 φ Lo d x w (by
   intro b' row hm;exact hr b' row (by rw [e,r];simp [hm]))
  refine ⟨d,fun j u hu=>?_,hl⟩;have hz:pr.flatten.length=i*E'.z:=by
   have:∀ (q:List (List Value)) (y:List α) (M:Rws),AllR φ E M (q++d::po) y->q.flatten.length=q.length*E.z:=by
    intro q;induction q with
    | nil=>intros;simp
    | cons q0 q ih=>
     intro y M hy;cases y with
     | nil=>exact hy.elim
     | cons y0 y=>
      obtain ⟨_,_,_,k2,k3⟩:=hy;rw [List.flatten_cons,List.length_append,E.len k2,ih y _ k3,List.length_cons,Nat.add_mul];omega
   rw [this pr xs Lr (by rw [<-g];exact f),s,hf.1]
  rw [Z5,Z5];refine hr b _ (by rw [e];exact List.mem_cons_self ..) _ _ ?_;rw [g,List.append_assoc,Nat.add_assoc,List.getElem?_append_right ω,Nat.add_sub_cancel_left,List.flatten_append,List.append_assoc,List.getElem?_append_right ω,<-hz,Nat.add_sub_cancel_left,List.flatten_cons,List.append_assoc,List.getElem?_append_left (Z0 hu)];exact hu
inductive Ob:Type 1
 | it {α:Type} (E:El α) (cs:List Value) (x:α)
 | box (b:Nat) (cs:List Value)
 | mp (b:Nat) (m:List (Value×Value))
def Ob.ok (φ:CM):Ob->Rws->Prop
 | .it E cs x,L=>E.R φ L cs x
 | .box b cs,L=>L=[(b,.cs cs)]
 | .mp b m,L=>L=[(b,.mp m)]
theorem Ob.ok_mono {φ ψ:CM} (a:CLe φ ψ):∀ {o:Ob} {L:Rws},o.ok φ L->o.ok ψ L
 | .it E _ _,_,h=>E.mono a h
 | .box _ _,_,h=>h
 | .mp _ _,_,h=>h
def Rel (φ:CM):List Ob->Rws->Prop
 | [],L=>L=[]
 | o::os,L=>∃ a e,L=a++e/\o.ok φ a/\Rel φ os e
theorem Rel.mono {φ ψ:CM} (g:CLe φ ψ):∀ {os:List Ob} {L:Rws},Rel φ os L->Rel ψ os L
 | [],_,h=>h
 | _::_,_,⟨L1,L2,h1,a,e⟩=>⟨L1,L2,h1,Ob.ok_mono g a,Rel.mono g e⟩
theorem Rel.app {φ:CM} {pos:List Ob} {M:Rws} (a:Rel φ pos M):∀ {os:List Ob} {L:Rws},Rel φ os L->Rel φ (os++pos) (L++M)
 | [],L,h=>by
  have h':L=[]:=h;subst h';exact a
 | o::os,L,⟨L1,L2,h1,e,f⟩=>⟨L1,L2++M,by rw [h1,List.append_assoc],e,Rel.app a f⟩
theorem Rel.at {φ:CM}:∀ {os:List Ob} {L:Rws} {i:Nat} {o:Ob},Rel φ os L->os[i]?=some o ->
  ∃ u Lo w,L=u++Lo++w/\o.ok φ Lo/\Rel φ (os.eraseIdx i) (u++w)/\∀ ψ x r,CLe φ ψ->x.ok ψ r->Rel ψ (os.set i x) (u++r++w)
 | [],_,i,o,_,ho=>by simp at ho
 | a::os,L,i,o,⟨u,w,h1,e,f⟩,ho=>by
  cases i with
  | zero=>
   simp at ho;subst ho;exact ⟨[],u,w,by simpa using h1,e,f,fun ψ x r hl hr=>⟨r,w,by simp,hr,f.mono hl⟩⟩
  | succ i=>
   obtain ⟨M1,Mo,M2,g,j,k,l⟩:=Rel.at f (by simpa using ho);refine ⟨u++M1,Mo,M2,by rw [h1,g];simp,j,⟨u,M1++M2,by simp,e,k⟩,fun ψ x r hl hr=>?_⟩;exact ⟨u,M1++r++M2,by simp,Ob.ok_mono hl e,l ψ x r hl hr⟩
structure S0 (ψ:CM) (h0 h:Heap) (φ:CM) (L:Rws):Prop where
 ext:ExtH h0 h
 row:∀ b r,(b,r)∈L->RowX h b r
 low:∀ b,b∈L.bs->h0.size<=b
 nod:L.bs.Nodup
 fle:CLe φ (hcell h)
 dis:∀ p u,φ p=some u->p.block∉L.bs
 bas:CLe ψ φ
 old:∀ p u,φ p=some u->p.block<h0.size->ψ p=some u
def S (ψ:CM) (h0 h:Heap) (os:List Ob):Prop:=∃ φ L,S0 ψ h0 h φ L/\Rel φ os L
section
variable {ψ φ:CM} {h0 h h':Heap} {L L':Rws} {os:List Ob}
theorem S0.sta (s:S0 ψ h0 h φ L):Sta h0 h L fun x=>CLe φ (hcell x):=
 ⟨s.ext,s.row,s.low,s.nod,fun h' a p u hp=>Zb2 a (s.dis p u hp) (s.fle p u hp)⟩
theorem S0.of_sta {D:Heap->Prop} (s:S0 ψ h0 h φ L) (t:Sta h0 h' L' D) (e:D h'->CLe φ (hcell h')) (a:L'.bs=L.bs):S0 ψ h0 h' φ L':=
 ⟨t.ext,t.row,t.low,t.nod,e t.now,fun p u hp=>by rw [a];exact s.dis p u hp,s.bas,s.old⟩
theorem S0.of_sta' (s:S0 ψ h0 h φ L) (t:Sta h0 h' L' fun x=>CLe φ (hcell x)) (a:L'.bs=L.bs):S0 ψ h0 h' φ L':=s.of_sta t (fun h=>h) a
theorem S0.lt (s:S0 ψ h0 h φ L) {b:Nat} (a:b∈L.bs):b<h.size:=s.sta.lt a
theorem S0.perm (s:S0 ψ h0 h φ L) (hp:L.Perm L'):S0 ψ h0 h φ L':=by
 have a:L.bs.Perm L'.bs:=hp.map _;exact ⟨s.ext,fun b cs e=>s.row b cs (hp.mem_iff.2 e),fun b e=>s.low b (a.mem_iff.2 e),a.nodup_iff.1 s.nod,s.fle,fun p u hp e=>s.dis p u hp (a.mem_iff.2 e),s.bas,s.old⟩
theorem S0.sub (s:S0 ψ h0 h φ L) (hs:L'.Sublist L):S0 ψ h0 h φ L':=by
 have a:L'.bs.Sublist L.bs:=hs.map _;exact ⟨s.ext,fun b cs e=>s.row b cs (hs.subset e),fun b e=>s.low b (a.subset e),a.nodup s.nod,s.fle,fun p u hp e=>s.dis p u hp (a.subset e),s.bas,s.old⟩
theorem S0.new (s:S0 ψ h0 h φ L) (cs:List Value) (t:TypeId):S0 ψ h0 (h.push (.cells cs.toArray t)) φ ((h.size,.cs cs)::L):=by
 have t':=s.sta.new cs t;refine ⟨t'.ext,t'.row,t'.low,t'.nod,t'.now,fun p u hp a=>?_,s.bas,s.old⟩;rcases List.mem_cons.1 a with e|e
 ·have:=Zc4 (s.fle p u hp);have g:p.block=h.size:=e;omega
 ·exact s.dis p u hp e
theorem S0.rows (s:S0 ψ h0 h φ L):RowsC (hcell h) L:=fun b row e j u a=>RowIs.cell (s.row b _ e) a
theorem S0.freeze (s:S0 ψ h0 h φ (L'++L)):∃ k,CLe φ k/\RowsC k L'/\S0 ψ h0 h k L:=by
 classical
 refine ⟨fun p=>if p.block∈L'.bs then hcell h p else φ p,fun p u hp=>?_,fun b row g j u w=>?_,?_⟩
 ·have f:=s.dis p u hp;have:p.block∉L'.bs:=fun g=>f (by unfold Rws.bs at *;rw [List.map_append];exact List.mem_append_left _ g);simp only [this,if_false];exact hp
 ·have a:b∈L'.bs:=List.mem_map.2 ⟨_,g,rfl⟩;simp only [a,if_true];exact RowIs.cell (s.row b _ (List.mem_append_left _ g)) w
 ·have e:S0 ψ h0 h φ L:=s.sub (List.sublist_append_right ..);have l:L'.bs++L.bs=(L'++L).bs:=by unfold Rws.bs;rw [List.map_append]
  refine ⟨e.ext,e.row,e.low,e.nod,fun p u hp=>?_,fun p u hp g=>?_,fun p u hp=>?_,fun p u hp r=>?_⟩
  ·by_cases a:p.block∈L'.bs
   ·simp only [a,if_true] at hp;exact hp
   ·simp only [a,if_false] at hp;exact s.fle p u hp
  ·by_cases a:p.block∈L'.bs
   ·have:=s.nod;rw [<-l] at this;exact (List.nodup_append.1 this).2.2 _ a _ g rfl
   ·simp only [a,if_false] at hp;exact e.dis p u hp g
  ·have o:=s.bas p u hp;have f:=s.dis p u o;have:p.block∉L'.bs:=fun g=>f (by rw [<-l];exact List.mem_append_left _ g);simp only [this,if_false];exact o
  ·by_cases a:p.block∈L'.bs
   ·have:=s.low p.block (by rw [<-l];exact List.mem_append_left _ a);omega
   ·simp only [a,if_false] at hp;exact s.old p u hp r
theorem S0.call {l:CM} {M:Rws} (s:S0 ψ h0 h φ L) (t:S0 φ h h' l M):S0 ψ h0 h' l (M++L):=by
 have k:(M++L).bs=M.bs++L.bs:=by unfold Rws.bs;rw [List.map_append]
 refine ⟨s.ext.trans t.ext,fun b cs j=>?_,fun b j=>?_,?_,t.fle,fun p u hp j=>?_,s.bas.trans t.bas,fun p u hp o=>?_⟩
 ·rcases List.mem_append.1 j with e|e
  ·exact t.row b cs e
  ·exact (s.row b cs e).ext t.ext
 ·rw [k] at j;rcases List.mem_append.1 j with e|e
  ·exact Nat.le_trans s.ext.1 (t.low b e)
  ·exact s.low b e
 ·rw [k];refine List.nodup_append.2 ⟨t.nod,s.nod,fun a r b f e=>?_⟩;subst e;have h1:=t.low a r;have g:=s.lt f;omega
 ·rw [k] at j;rcases List.mem_append.1 j with e|e
  ·exact t.dis p u hp e
  ·exact s.dis p u (t.old p u hp (s.lt e)) e
 ·exact s.old p u (t.old p u hp (Nat.lt_of_lt_of_le o s.ext.1)) o
end
end Go.Vc
