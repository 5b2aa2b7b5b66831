import Derived.Test.YtccncimchmimdaaGreatDoorVcList
namespace Go.Vc
set_option linter.unusedVariables false
set_option linter.unusedSimpArgs false
open Go
abbrev CM:=Addr->Option Value
def CLe (φ ψ:CM):Prop:=∀ p u,φ p=some u->ψ p=some u
theorem CLe.refl (φ:CM):CLe φ φ:=fun _ _ h=>h
theorem CLe.trans {φ ψ a:CM} (h:CLe φ ψ) (k:CLe ψ a):CLe φ a:=fun p u e=>k p u (h p u e)
theorem CLe.ext {h h':Heap} (a:ExtH h h'):CLe (hcell h) (hcell h'):=fun _ _ e=>Zg9 a e
def CellsC (φ:CM) (p:Addr) (cs:List Value):Prop:=∀ (j:Nat) u,cs[j]?=some u->φ (p.add j)=some u
theorem CellsC.mono {φ ψ:CM} {p:Addr} {cs:List Value} (a:CLe φ ψ) (h:CellsC φ p cs):CellsC ψ p cs:=fun j u e=>a _ _ (h j u e)
structure El (α:Type) where
 z:Nat
 R:CM->Rws->List Value->α->Prop
 mono:∀ {φ ψ L cs x},CLe φ ψ->R φ L cs x->R ψ L cs x
 len:∀ {φ L cs x},R φ L cs x->cs.length=z
 one:∀ {φ L cs x},R φ L cs x->∀ v∈cs,v.oneCell'=true
 zc:List Value
 zx:α
 hz:∀ φ,R φ [] zc zx
def El.int (k:IntKind):El Int where
 z:=1
 R:=fun _ L cs x=>L=[]/\cs=[.int k x]
 mono:=fun _ h=>h
 len:=fun h=>by rw [h.2];rfl
 one:=fun h v a=>by rw [h.2] at a;simp at a;rw [a];rfl
 zc:=[.int k 0]
 zx:=0
 hz:=fun _=>⟨rfl,rfl⟩
def El.bool:El Bool where
 z:=1
 R:=fun _ L cs x=>L=[]/\cs=[.bool x]
 mono:=fun _ h=>h
 len:=fun h=>by rw [h.2];rfl
 one:=fun h v a=>by rw [h.2] at a;simp at a;rw [a];rfl
 zc:=[.bool false]
 zx:=false
 hz:=fun _=>⟨rfl,rfl⟩
def El.str:El ByteArray where
 z:=1
 R:=fun _ L cs x=>L=[]/\cs=[.string x]
 mono:=fun _ h=>h
 len:=fun h=>by rw [h.2];rfl
 one:=fun h v a=>by rw [h.2] at a;simp at a;rw [a];rfl
 zc:=[.string ⟨#[]⟩]
 zx:=⟨#[]⟩
 hz:=fun _=>⟨rfl,rfl⟩
def SlC {α:Type} (φ:CM) (E:El α) (v:Value) (xs:List α):Prop:=
 (v=.slice none 0 0/\xs=[])\/∃ a c,v=.slice (some a) xs.length c/\xs.length<=c/\∀ (i:Nat) x,xs[i]?=some x->∃ cs,CellsC φ (a.add (i*E.z)) cs/\E.R φ [] cs x
theorem SlC.mono {α:Type} {φ ψ:CM} {E:El α} {v:Value} {xs:List α} (l:CLe φ ψ) (h:SlC φ E v xs):SlC ψ E v xs:=by
 rcases h with h|⟨a,c,b,e,f⟩
 ·exact .inl h
 ·exact .inr ⟨a,c,b,e,fun i x g=>by obtain ⟨cs,j,k⟩:=f i x g;exact ⟨cs,j.mono l,E.mono l k⟩⟩
theorem SlC.one {α:Type} {φ:CM} {E:El α} {v:Value} {xs:List α} (h:SlC φ E v xs):v.oneCell'=true:=by
 rcases h with ⟨rfl,_⟩|⟨a,c,rfl,_⟩<;>rfl
theorem SlC.nil {α:Type} {φ:CM} {E:El α}:SlC φ E (.slice none 0 0) []:=.inl ⟨rfl,rfl⟩
def El.sl {α:Type} (E:El α):El (List α) where
 z:=1
 R:=fun φ L cs xs=>L=[]/\∃ v,cs=[v]/\SlC φ E v xs
 mono:=fun e ⟨h0,v,a,b⟩=>⟨h0,v,a,b.mono e⟩
 len:=fun ⟨_,v,a,_⟩=>by rw [a];rfl
 one:=fun ⟨_,v,a,b⟩ u c=>by rw [a] at c;simp at c;rw [c];exact b.one
 zc:=[.slice none 0 0]
 zx:=[]
 hz:=fun _=>⟨rfl,_,rfl,SlC.nil⟩
theorem El.sl_of {α:Type} {E:El α} {φ:CM} {v:Value} {xs:List α} (h:SlC φ E v xs):(El.sl E).R φ [] [v] xs:=⟨rfl,v,rfl,h⟩
theorem El.sl_to {α:Type} {E:El α} {φ:CM} {L:Rws} {v:Value} {xs:List α} (h:(El.sl E).R φ L [v] xs):SlC φ E v xs:=by
 obtain ⟨_,u,a,b⟩:=h;simp at a;subst a;exact b
def AllR {α:Type} (φ:CM) (E:El α):Rws->List (List Value)->List α->Prop
 | L,[],[]=>L=[]
 | L,c::cs,x::xs=>∃ a e,L=a++e/\E.R φ a c x/\AllR φ E e cs xs
 | _,_,_=>False
theorem AllR.mono {α:Type} {φ ψ:CM} {E:El α} (e:CLe φ ψ):∀ {L:Rws} {css:List (List Value)} {xs:List α},AllR φ E L css xs->AllR ψ E L css xs
 | _,[],[],h=>h
 | _,_::_,_::_,⟨L1,L2,a,b,c⟩=>⟨L1,L2,a,E.mono e b,AllR.mono e c⟩
 | _,[],_::_,h=>h.elim
 | _,_::_,[],h=>h.elim
theorem AllR.length {α:Type} {φ:CM} {E:El α}:∀ {L:Rws} {css:List (List Value)} {xs:List α},AllR φ E L css xs->css.length=xs.length
 | _,[],[],_=>rfl
 | _,_::_,_::_,⟨_,_,_,_,a⟩=>by simp [AllR.length a]
 | _,[],_::_,h=>h.elim
 | _,_::_,[],h=>h.elim
theorem AllR.flat {α:Type} {φ:CM} {E:El α}:∀ {L:Rws} {css:List (List Value)} {xs:List α},AllR φ E L css xs->css.flatten.length=xs.length*E.z
 | _,[],[],_=>by simp
 | _,c::_,_::xs,⟨_,_,_,a,b⟩=>by rw [List.flatten_cons,List.length_append,E.len a,AllR.flat b,List.length_cons,Nat.add_mul];omega
 | _,[],_::_,h=>h.elim
 | _,_::_,[],h=>h.elim
theorem AllR.one {α:Type} {φ:CM} {E:El α}:∀ {L:Rws} {css:List (List Value)} {xs:List α},AllR φ E L css xs->∀ v∈css.flatten,v.oneCell'=true
 | _,[],[],_=>by simp
 | _,c::_,_::xs,⟨_,_,_,b,e⟩=>by
  intro v a
  rw [List.flatten_cons] at a
  rcases List.mem_append.1 a with h|h
  ·exact E.one b v h
  ·exact AllR.one e v h
 | _,[],_::_,h=>h.elim
 | _,_::_,[],h=>h.elim
theorem AllR.app {α:Type} {φ:CM} {E:El α} {M:Rws} {j:List (List Value)} {k:List α} (a:AllR φ E M j k):∀ {L:Rws} {css:List (List Value)} {xs:List α},AllR φ E L css xs->AllR φ E (L++M) (css++j) (xs++k)
 | _,[],[],h=>by
  have:∀ L:Rws,L=[]->AllR φ E (L++M) ([]++j) ([]++k):=fun L e=>by subst e;exact a
  exact this _ h
 | _,c::cs,x::xs,⟨L1,L2,b,f,g⟩=>⟨L1,L2++M,by rw [b,List.append_assoc],f,AllR.app a g⟩
 | _,[],_::_,h=>h.elim
 | _,_::_,[],h=>h.elim
theorem AllR.at {α:Type} {φ:CM} {E:El α}:∀ {L:Rws} {css:List (List Value)} {xs:List α} {i:Nat} {x:α},AllR φ E L css xs->xs[i]?=some x ->
  ∃ c L1 Lo L2 w u,L=L1++Lo++L2/\css=w++c::u/\w.length=i/\E.R φ Lo c x/\∀ c' r x',E.R φ r c' x'->AllR φ E (L1++r++L2) (w++c'::u) (xs.set i x')
 | _,[],[],i,x,_,a=>by simp at a
 | _,c::cs,y::xs,i,x,⟨L1,L2,b,e,f⟩,a=>by
  cases i with
  | zero=>
   simp at a;subst a
   exact ⟨c,[],L1,L2,[],cs,by simpa using b,rfl,rfl,e,fun c' r x' hr=>⟨r,L2,by simp,hr,f⟩⟩
  | succ i=>
   obtain ⟨d,M1,Mo,M2,w,u,g,j,k,l,o⟩:=AllR.at f (by simpa using a)
   refine ⟨d,L1++M1,Mo,M2,c::w,u,by rw [b,g];simp,by rw [j];rfl,by simp [k],l,fun c' r x' hr=>?_⟩
   exact ⟨L1,M1++r++M2,by simp,e,o c' r x' hr⟩
 | _,[],_::_,_,_,h,_=>h.elim
 | _,_::_,[],_,_,h,_=>h.elim
def OwnL {α:Type} (φ:CM) (E:El α) (L:Rws) (v:Value) (xs:List α):Prop:=
 (v=.slice none 0 0/\xs=[]/\L=[])\/∃ b c e css a g,v=.slice (some ⟨b,e.length,none⟩) xs.length c/\xs.length<=c/\(c-xs.length)*E.z<=a.length/\L=(b,.cs (e++css.flatten++a))::g/\AllR φ E g css xs
def El.ow {α:Type} (E:El α):El (List α) where
 z:=1
 R:=fun φ L cs xs=>∃ v,cs=[v]/\OwnL φ E L v xs
 mono:=fun o ⟨v,a,e⟩=>⟨v,a,by
  rcases e with e|⟨b,c,pre,css,rest,Lr,f,g,i,j,k⟩
  ·exact .inl e
  ·exact .inr ⟨b,c,pre,css,rest,Lr,f,g,i,j,k.mono o⟩⟩
 len:=fun ⟨v,a,_⟩=>by rw [a];rfl
 one:=fun ⟨v,a,e⟩ u l=>by
  rw [a] at l;simp at l;rw [l]
  rcases e with ⟨rfl,_⟩|⟨b,c,pre,css,rest,Lr,rfl,_⟩<;>rfl
 zc:=[.slice none 0 0]
 zx:=[]
 hz:=fun _=>⟨_,rfl,.inl ⟨rfl,rfl,rfl⟩⟩
theorem El.ow_to {α:Type} {E:El α} {φ:CM} {L:Rws} {v:Value} {xs:List α} (h:(El.ow E).R φ L [v] xs):OwnL φ E L v xs:=by
 obtain ⟨u,a,b⟩:=h;simp at a;subst a;exact b
def RowsC (φ:CM) (L:Rws):Prop:=∀ b row,(b,Row.cs row)∈L->∀ (j:Nat) u,row[j]?=some u->φ ⟨b,j,none⟩=some u
theorem RowsC.mono {φ ψ:CM} {L:Rws} (c:CLe φ ψ) (h:RowsC φ L):RowsC ψ L:=fun b row e j u a=>c _ _ (h b row e j u a)
theorem RowsC.left {φ:CM} {L M:Rws} (h:RowsC φ (L++M)):RowsC φ L:=fun b row a=>h b row (List.mem_append_left _ a)
theorem RowsC.right {φ:CM} {L M:Rws} (h:RowsC φ (L++M)):RowsC φ M:=fun b row a=>h b row (List.mem_append_right _ a)
def Frz {α:Type} (E a:El α):Prop:=E.z=a.z/\∀ φ L cs x,E.R φ L cs x->RowsC φ L->a.R φ [] cs x
theorem Za (k:IntKind):Frz (El.int k) (El.int k):=⟨rfl,fun _ _ _ _ h _=>⟨rfl,h.2⟩⟩
theorem Zbx:Frz El.bool El.bool:=⟨rfl,fun _ _ _ _ h _=>⟨rfl,h.2⟩⟩
theorem ZtG:Frz El.str El.str:=⟨rfl,fun _ _ _ _ h _=>⟨rfl,h.2⟩⟩
theorem ZK {α:Type} (E:El α):Frz (El.sl E) (El.sl E):=⟨rfl,fun _ _ _ _ h _=>⟨rfl,h.2⟩⟩
theorem Zg {α:Type} {E E':El α} (hf:Frz E E'):Frz (El.ow E) (El.sl E'):=by
 refine ⟨rfl,fun φ L cs xs h hr=>?_⟩
 obtain ⟨v,rfl,a⟩:=h
 refine El.sl_of ?_
 rcases a with ⟨k,a,_⟩|⟨b,c,pre,css,rest,Lr,l,o,_,e,f⟩
 ·exact .inl ⟨k,a⟩
 ·refine .inr ⟨_,c,l,o,fun i x p=>?_⟩
  obtain ⟨d,L1,Lo,L2,pr,po,r,g,s,t,_⟩:=f.at p
  have hl:=hf.2 φ Lo d x t (by
   intro b' row hm
   exact hr b' row (by rw [e,r];simp [hm]))
  refine ⟨d,fun j u hu=>?_,hl⟩
  have hz:pr.flatten.length=i*E'.z:=by
   have:∀ (q:List (List Value)) (y:List α) (M:Rws),AllR φ E M (q++d::po) y->q.flatten.length=q.length*E.z:=by
    intro q
    induction q with
    | nil=>intros;simp
    | cons q0 q ih=>
     intro y M hy
     cases y with
     | nil=>exact hy.elim
     | cons y0 y=>
      obtain ⟨_,_,_,w,k3⟩:=hy
      rw [List.flatten_cons,List.length_append,E.len w,ih y _ k3,List.length_cons,Nat.add_mul];omega
   rw [this pr xs Lr (by rw [<-g];exact f),s,hf.1]
  rw [Z7,Z7]
  refine hr b _ (by rw [e];exact List.mem_cons_self ..) _ _ ?_
  rw [g,List.append_assoc,Nat.add_assoc,List.getElem?_append_right ω,Nat.add_sub_cancel_left,List.flatten_append,List.append_assoc,List.getElem?_append_right ω,<-hz,Nat.add_sub_cancel_left,List.flatten_cons,List.append_assoc,List.getElem?_append_left (Z1 hu)]
  exact hu
inductive Ob:Type 1
 | it {α:Type} (E:El α) (cs:List Value) (x:α)
 | box (b:Nat) (cs:List Value)
 | mp (b:Nat) (m:List (Value×Value))
def Ob.ok (φ:CM):Ob->Rws->Prop
 | .it E cs x,L=>E.R φ L cs x
 | .box b cs,L=>L=[(b,.cs cs)]
 | .mp b m,L=>L=[(b,.mp m)]
theorem Ob.ok_mono {φ ψ:CM} (a:CLe φ ψ):∀ {o:Ob} {L:Rws},o.ok φ L->o.ok ψ L
 | .it E _ _,_,h=>E.mono a h
 | .box _ _,_,h=>h
 | .mp _ _,_,h=>h
def Rel (φ:CM):List Ob->Rws->Prop
 | [],L=>L=[]
 | o::os,L=>∃ a c,L=a++c/\o.ok φ a/\Rel φ os c
theorem Rel.mono {φ ψ:CM} (e:CLe φ ψ):∀ {os:List Ob} {L:Rws},Rel φ os L->Rel ψ os L
 | [],_,h=>h
 | _::_,_,⟨L1,L2,a,b,c⟩=>⟨L1,L2,a,Ob.ok_mono e b,Rel.mono e c⟩
theorem Rel.app {φ:CM} {pos:List Ob} {M:Rws} (a:Rel φ pos M):∀ {os:List Ob} {L:Rws},Rel φ os L->Rel φ (os++pos) (L++M)
 | [],L,h=>by
  have h':L=[]:=h
  subst h';exact a
 | o::os,L,⟨L1,L2,b,c,e⟩=>⟨L1,L2++M,by rw [b,List.append_assoc],c,Rel.app a e⟩
theorem Rel.at {φ:CM}:∀ {os:List Ob} {L:Rws} {i:Nat} {o:Ob},Rel φ os L->os[i]?=some o ->
  ∃ r Lo u,L=r++Lo++u/\o.ok φ Lo/\Rel φ (os.eraseIdx i) (r++u)/\∀ ψ w l,CLe φ ψ->w.ok ψ l->Rel ψ (os.set i w) (r++l++u)
 | [],_,i,o,_,ho=>by simp at ho
 | a::os,L,i,o,⟨r,u,e,b,c⟩,ho=>by
  cases i with
  | zero=>
   simp at ho;subst ho
   exact ⟨[],r,u,by simpa using e,b,c,fun ψ w l x hr=>⟨l,u,by simp,hr,c.mono x⟩⟩
  | succ i=>
   obtain ⟨y,Mo,M2,f,g,j,k⟩:=Rel.at c (by simpa using ho)
   refine ⟨r++y,Mo,M2,by rw [e,f];simp,g,⟨r,y++M2,by simp,b,j⟩,fun ψ w l x hr=>?_⟩
   exact ⟨r,y++l++M2,by simp,Ob.ok_mono x b,k ψ w l x hr⟩
structure S0 (ψ:CM) (h0 h:Heap) (φ:CM) (L:Rws):Prop where
 ext:ExtH h0 h
 row:∀ b r,(b,r)∈L->RowX h b r
 low:∀ b,b∈L.bs->h0.size<=b
 nod:L.bs.Nodup
 fle:CLe φ (hcell h)
 dis:∀ p u,φ p=some u->p.block∉L.bs
 bas:CLe ψ φ
 old:∀ p u,φ p=some u->p.block<h0.size->ψ p=some u
def S (ψ:CM) (h0 h:Heap) (os:List Ob):Prop:=∃ φ L,S0 ψ h0 h φ L/\Rel φ os L
section
variable {ψ φ:CM} {h0 h h':Heap} {L L':Rws} {os:List Ob}
theorem S0.sta (s:S0 ψ h0 h φ L):Sta h0 h L fun x=>CLe φ (hcell x):=
 ⟨s.ext,s.row,s.low,s.nod,fun h' a p u hp=>Zcs a (s.dis p u hp) (s.fle p u hp)⟩
theorem S0.of_sta {D:Heap->Prop} (s:S0 ψ h0 h φ L) (t:Sta h0 h' L' D) (c:D h'->CLe φ (hcell h')) (a:L'.bs=L.bs):S0 ψ h0 h' φ L':=
 ⟨t.ext,t.row,t.low,t.nod,c t.now,fun p u hp=>by rw [a];exact s.dis p u hp,s.bas,s.old⟩
theorem S0.of_sta' (s:S0 ψ h0 h φ L) (t:Sta h0 h' L' fun x=>CLe φ (hcell x)) (a:L'.bs=L.bs):S0 ψ h0 h' φ L':=s.of_sta t (fun h=>h) a
theorem S0.lt (s:S0 ψ h0 h φ L) {b:Nat} (a:b∈L.bs):b<h.size:=s.sta.lt a
theorem S0.perm (s:S0 ψ h0 h φ L) (hp:L.Perm L'):S0 ψ h0 h φ L':=by
 have a:L.bs.Perm L'.bs:=hp.map _
 exact ⟨s.ext,fun b cs c=>s.row b cs (hp.mem_iff.2 c),fun b c=>s.low b (a.mem_iff.2 c),a.nodup_iff.1 s.nod,s.fle,fun p u hp c=>s.dis p u hp (a.mem_iff.2 c),s.bas,s.old⟩
theorem S0.sub (s:S0 ψ h0 h φ L) (hs:L'.Sublist L):S0 ψ h0 h φ L':=by
 have a:L'.bs.Sublist L.bs:=hs.map _
 exact ⟨s.ext,fun b cs c=>s.row b cs (hs.subset c),fun b c=>s.low b (a.subset c),a.nodup s.nod,s.fle,fun p u hp c=>s.dis p u hp (a.subset c),s.bas,s.old⟩
theorem S0.new (s:S0 ψ h0 h φ L) (cs:List Value) (t:TypeId):S0 ψ h0 (h.push (.cells cs.toArray t)) φ ((h.size,.cs cs)::L):=by
 have t':=s.sta.new cs t
 refine ⟨t'.ext,t'.row,t'.low,t'.nod,t'.now,fun p u hp a=>?_,s.bas,s.old⟩
 rcases List.mem_cons.1 a with e|e
 ·have:=ZeR (s.fle p u hp)
  have c:p.block=h.size:=e
  omega
 ·exact s.dis p u hp e
theorem S0.rows (s:S0 ψ h0 h φ L):RowsC (hcell h) L:=fun b row c j u a=>RowIs.cell (s.row b _ c) a
theorem S0.freeze (s:S0 ψ h0 h φ (L'++L)):∃ l,CLe φ l/\RowsC l L'/\S0 ψ h0 h l L:=by
 classical
 refine ⟨fun p=>if p.block∈L'.bs then hcell h p else φ p,fun p u hp=>?_,fun b row g j u w=>?_,?_⟩
 ·have e:=s.dis p u hp
  have:p.block∉L'.bs:=fun g=>e (by unfold Rws.bs at *;rw [List.map_append];exact List.mem_append_left _ g)
  simp only [this,if_false];exact hp
 ·have a:b∈L'.bs:=List.mem_map.2 ⟨_,g,rfl⟩
  simp only [a,if_true]
  exact RowIs.cell (s.row b _ (List.mem_append_left _ g)) w
 ·have c:S0 ψ h0 h φ L:=s.sub (List.sublist_append_right ..)
  have k:L'.bs++L.bs=(L'++L).bs:=by unfold Rws.bs;rw [List.map_append]
  refine ⟨c.ext,c.row,c.low,c.nod,fun p u hp=>?_,fun p u hp g=>?_,fun p u hp=>?_,fun p u hp r=>?_⟩
  ·by_cases a:p.block∈L'.bs
   ·simp only [a,if_true] at hp;exact hp
   ·simp only [a,if_false] at hp;exact s.fle p u hp
  ·by_cases a:p.block∈L'.bs
   ·have:=s.nod
    rw [<-k] at this
    exact (List.nodup_append.1 this).2.2 _ a _ g rfl
   ·simp only [a,if_false] at hp;exact c.dis p u hp g
  ·have o:=s.bas p u hp
   have e:=s.dis p u o
   have:p.block∉L'.bs:=fun g=>e (by rw [<-k];exact List.mem_append_left _ g)
   simp only [this,if_false];exact o
  ·by_cases a:p.block∈L'.bs
   ·have:=s.low p.block (by rw [<-k];exact List.mem_append_left _ a)
    omega
   ·simp only [a,if_false] at hp;exact s.old p u hp r
theorem S0.call {o:CM} {M:Rws} (s:S0 ψ h0 h φ L) (t:S0 φ h h' o M):S0 ψ h0 h' o (M++L):=by
 have k:(M++L).bs=M.bs++L.bs:=by unfold Rws.bs;rw [List.map_append]
 refine ⟨s.ext.trans t.ext,fun b cs j=>?_,fun b j=>?_,?_,t.fle,fun p u hp j=>?_,s.bas.trans t.bas,fun p u hp l=>?_⟩
 ·rcases List.mem_append.1 j with e|e
  ·exact t.row b cs e
  ·exact (s.row b cs e).ext t.ext
 ·rw [k] at j
  rcases List.mem_append.1 j with e|e
  ·exact Nat.le_trans s.ext.1 (t.low b e)
  ·exact s.low b e
 ·rw [k]
  refine List.nodup_append.2 ⟨t.nod,s.nod,fun a r b c e=>?_⟩
  subst e
  have f:=t.low a r
  have g:=s.lt c
  omega
 ·rw [k] at j
  rcases List.mem_append.1 j with e|e
  ·exact t.dis p u hp e
  ·exact s.dis p u (t.old p u hp (s.lt e)) e
 ·exact s.old p u (t.old p u hp (Nat.lt_of_lt_of_le l s.ext.1)) l
end
end Go.Vc
