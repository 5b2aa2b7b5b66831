import Derived.Test.YtccncimchmimdaaGreatDoorVcLib
import Derived.Below
namespace Go.Vc
set_option linter.unusedVariables false
set_option linter.unusedSimpArgs false
open Go
theorem ExtBut.mono {B g:Nat->Prop} {a b:Heap} (h:ExtBut B a b) (j:∀ x,B x->g x):ExtBut g a b:=⟨h.1,fun x c e=>h.2 x c fun k=>e (j x k)⟩
theorem ExtBut.ext {B:Nat->Prop} {c a b:Heap} (h:ExtBut B a b) (g:ExtH c a) (j:∀ x,B x->c.size<=x):ExtH c b:=
 ⟨Nat.le_trans g.1 h.1,fun x e=>(h.2 x (Nat.lt_of_lt_of_le e g.1) fun f=>by have:=j x f;omega).trans (g.2 x e)⟩
theorem Zs0 {h c:Heap} {p:Addr} (a:c[p.block]?=h[p.block]?):hcell c p=hcell h p:=by unfold hcell;rw [a]
theorem Zcs {B:Nat->Prop} {h c:Heap} {p:Addr} {u:Value} (b:ExtBut B h c) (hp:¬ B p.block) (a:hcell h p=some u):hcell c p=some u:=by
 rw [Zs0 (b.2 p.block (ZeR a) hp)];exact a
def world (h:Heap):World:=⟨h,fun _ _=>0,0,default,#[]⟩
theorem ZBm {h:Heap} {p:Addr} {u v:Value} (a:hcell h p=some u):hcell (hset h p v) p=some v:=
 World.cell?_setCell_same (world h) p v a
theorem ZFM {h:Heap} {p q:Addr} {v:Value} (a:p≠q):hcell (hset h p v) q=hcell h q:=
 World.cell?_setCell_other (world h) p q v a
theorem Zzc {h:Heap} {p:Addr} {v:Value}:(hset h p v).size=h.size:=World.size_setCell (world h) p v
theorem ZEd {h:Heap} {p:Addr} {v:Value} {b:Nat} (a:b≠p.block):(hset h p v)[b]?=h[b]?:=Go.RowKit.Below.heap_setCell (world h) p v b a
theorem ZDo {h:Heap} {p q:Addr} {v:Value}:hfroz (hset h p v) q=hfroz h q:=by
 unfold hfroz hset
 rw [Array.getElem?_modify]
 by_cases a:p.block=q.block
 ·rw [if_pos a]
  cases h[q.block]? with
  | none=>rfl
  | some o=>cases o<;>rfl
 ·rw [if_neg a]
theorem ExtBut.hset (h:Heap) (p:Addr) (v:Value):ExtBut (·=p.block) h (hset h p v):=⟨by rw [Zzc];exact Nat.le_refl _,fun b _ a=>ZEd a⟩
def Wr (h:Heap) (p:Addr):Prop:=(∃ u,hcell h p=some u)/\hfroz h p=false
theorem Wr.hset {h:Heap} {p q:Addr} {v:Value} (a:Wr h q):Wr (hset h p v) q:=by
 obtain ⟨⟨u,e⟩,g⟩:=a
 refine ⟨?_,by rw [ZDo];exact g⟩
 by_cases c:p=q
 ·subst c;exact ⟨v,ZBm e⟩
 ·exact ⟨u,by rw [ZFM c];exact e⟩
theorem Wr.but {B:Nat->Prop} {h e:Heap} {p:Addr} (a:ExtBut B h e) (hp:¬ B p.block) (j:Wr h p):Wr e p:=by
 obtain ⟨⟨u,c⟩,g⟩:=j
 have b:=a.2 p.block (ZeR c) hp
 exact ⟨⟨u,Zcs a hp c⟩,by unfold hfroz at g ⊢;rw [b];exact g⟩
theorem Wr.ext {h c:Heap} {p:Addr} (a:ExtH h c) (e:Wr h p):Wr c p:=Wr.but (B:=fun _=>False) (eZ a) (fun h=>h) e
theorem ZBz {h:Heap} {p:Addr} {v:Value} {K:Heap->Prop} (c:Wr h p) (a:v.oneCell'=true) (e:K (hset h p v)):vStore1 h p v K:=⟨a,c.1,c.2,e⟩
def RowAt (h:Heap) (b off:Nat) (cs:List Value):Prop:=∃ arr t,h[b]?=some (.cells arr t)/\∀ j u,cs[j]?=some u->arr[off+j]?=some u
theorem Z7 (b off j:Nat):(⟨b,off,none⟩:Addr).add j=⟨b,off+j,none⟩:=by
 unfold Addr.add
 by_cases a:j=0
 ·subst a;rfl
 ·rw [if_neg a]
theorem RowAt.cell {h:Heap} {b off:Nat} {cs:List Value} (g:RowAt h b off cs) {j:Nat} {u:Value} (e:cs[j]?=some u):hcell h ⟨b,off+j,none⟩=some u:=by
 obtain ⟨arr,t,a,c⟩:=g
 unfold hcell;rw [a];exact c j u e
theorem RowAt.wr {h:Heap} {b off:Nat} {cs:List Value} (e:RowAt h b off cs) {j:Nat} (k:j<cs.length):Wr h ⟨b,off+j,none⟩:=by
 obtain ⟨u,g⟩:=ZaV k
 refine ⟨⟨u,e.cell g⟩,?_⟩
 obtain ⟨arr,t,a,c⟩:=e
 unfold hfroz;rw [a]
 simp
theorem RowAt.lt {h:Heap} {b off:Nat} {cs:List Value} (c:RowAt h b off cs):b<h.size:=by
 obtain ⟨arr,t,a,_⟩:=c
 rcases Nat.lt_or_ge b h.size with h'|h'
 ·exact h'
 ·rw [Array.getElem?_eq_none h'] at a;cases a
theorem RowAt.but {B:Nat->Prop} {h g:Heap} {b off:Nat} {cs:List Value} (j:RowAt h b off cs) (a:ExtBut B h g) (c:¬ B b):RowAt g b off cs:=by
 have k:=j.lt
 obtain ⟨arr,t,e,f⟩:=j
 exact ⟨arr,t,by rw [a.2 b k c];exact e,f⟩
theorem RowAt.ext {h c:Heap} {b off:Nat} {cs:List Value} (e:RowAt h b off cs) (a:ExtH h c):RowAt c b off cs:=e.but (B:=fun _=>False) (eZ a) (fun h=>h)
theorem RowAt.push (h:Heap) (cs:List Value) (t:TypeId):RowAt (h.push (.cells cs.toArray t)) h.size 0 cs:=by
 refine ⟨cs.toArray,t,by simp,fun j u a=>?_⟩
 simpa using a
theorem RowAt.set {h:Heap} {b off:Nat} {cs:List Value} (r:RowAt h b off cs) {j:Nat} (o:j<cs.length) (v:Value):RowAt (hset h ⟨b,off+j,none⟩ v) b off (cs.set j v):=by
 obtain ⟨arr,t,e,a⟩:=r
 refine ⟨arr.setIfInBounds (off+j) v,t,?_,fun i u g=>?_⟩
 ·unfold hset
  rw [Array.getElem?_modify,if_pos rfl,e]
  simp
 ·rw [List.getElem?_set] at g
  by_cases k:j=i
  ·subst k
   rw [if_pos rfl,if_pos o] at g
   cases g
   obtain ⟨f,c⟩:=ZaV o
   have:=a j f c
   have l:off+j<arr.size:=by
    rcases Nat.lt_or_ge (off+j) arr.size with h'|h'
    ·exact h'
    ·rw [Array.getElem?_eq_none h'] at this;cases this
   simp [l]
  ·rw [if_neg k] at g
   rw [Array.getElem?_setIfInBounds_ne ω]
   exact a i u g
def CapAt (h:Heap) (b n:Nat):Prop:=∃ arr t,h[b]?=some (.cells arr t)/\n<=arr.size
theorem CapAt.but {B:Nat->Prop} {h g:Heap} {b n:Nat} (k:CapAt h b n) (c:ExtBut B h g) (e:¬ B b):CapAt g b n:=by
 obtain ⟨arr,t,a,f⟩:=k
 have j:b<h.size:=by
  rcases Nat.lt_or_ge b h.size with g|g
  ·exact g
  ·rw [Array.getElem?_eq_none g] at a;cases a
 exact ⟨arr,t,by rw [c.2 b j e];exact a,f⟩
theorem CapAt.ext {h c:Heap} {b n:Nat} (e:CapAt h b n) (a:ExtH h c):CapAt c b n:=e.but (B:=fun _=>False) (eZ a) (fun h=>h)
theorem CapAt.hset {h:Heap} {b n:Nat} (e:CapAt h b n) (p:Addr) (v:Value):CapAt (hset h p v) b n:=by
 obtain ⟨arr,t,a,c⟩:=e
 unfold Vc.hset
 rw [CapAt,Array.getElem?_modify]
 by_cases hp:p.block=b
 ·rw [if_pos hp,a]
  refine ⟨if p.spot.isSome then arr else arr.setIfInBounds p.off v,t,rfl,?_⟩
  split<;>simpa using c
 ·rw [if_neg hp];exact ⟨arr,t,a,c⟩
theorem CapAt.wr {h:Heap} {b n j:Nat} (g:CapAt h b n) (k:j<n):Wr h ⟨b,j,none⟩:=by
 obtain ⟨arr,t,a,c⟩:=g
 have e:j<arr.size:=ω
 refine ⟨⟨arr[j],?_⟩,?_⟩
 ·unfold hcell;rw [a];simp [e]
 ·unfold hfroz;rw [a];simp
def OwnSl (h:Heap) (v:Value) (b:Nat) (cs:List Value):Prop:=
 ∃ off c,v=.slice (some ⟨b,off,none⟩) cs.length c/\cs.length<=c/\RowAt h b off cs/\CapAt h b (off+c)
theorem OwnSl.ext {h j:Heap} {v:Value} {b:Nat} {cs:List Value} (k:OwnSl h v b cs) (a:ExtH h j):OwnSl j v b cs:=by
 obtain ⟨off,c,e,f,g,i⟩:=k;exact ⟨off,c,e,f,g.ext a,i.ext a⟩
theorem OwnSl.but {B:Nat->Prop} {h k:Heap} {v:Value} {b:Nat} {cs:List Value} (l:OwnSl h v b cs) (a:ExtBut B h k) (e:¬ B b):OwnSl k v b cs:=by
 obtain ⟨off,c,f,g,i,j⟩:=l;exact ⟨off,c,f,g,i.but a e,j.but a e⟩
theorem OwnSl.lt {h:Heap} {v:Value} {b:Nat} {cs:List Value} (e:OwnSl h v b cs):b<h.size:=by
 obtain ⟨off,c,_,_,a,_⟩:=e;exact a.lt
theorem OwnSl.vLen {h:Heap} {v:Value} {b:Nat} {cs:List Value} (e:OwnSl h v b cs) {K:Nat->Prop} (a:K cs.length):vLen v K:=by
 obtain ⟨off,c,rfl,_,_,_⟩:=e;exact a
theorem OwnSl.sl {α:Type} {E:Elem α} {h:Heap} {v:Value} {b:Nat} {xs:List α} {f:α->Value} (k:OwnSl h v b (xs.map f)) (l:∀ x∈xs,E h [f x] x):SlAt 1 E h v xs:=by
 obtain ⟨off,c,rfl,a,e,_⟩:=k
 refine .inr ⟨⟨b,off,none⟩,c,by simp,by simpa using a,fun i x hi=>⟨[f x],rfl,fun j u g=>?_,l x (List.mem_of_getElem? hi)⟩⟩
 cases j with
 | zero=>
  simp at g;subst g
  rw [Z7,Z7]
  simpa using e.cell (j:=i) (by rw [List.getElem?_map,hi];rfl)
 | succ j=>simp at g
theorem OwnSl.one {h:Heap} {v:Value} {b:Nat} {cs:List Value} (a:OwnSl h v b cs):v.oneCell'=true:=by
 obtain ⟨off,c,rfl,_⟩:=a;rfl
theorem Zo {v:Value} {A:Unit->Prop} (h:v.oneCell'=true) (a:A ()):vOne v A:=by unfold vOne;rw [h];exact a
theorem Zdw {C:Ctx} {g:Nat} {A:Unit->Prop} (h:C.okf g=true) (a:A ()):vOkf C g A:=by unfold vOkf;rw [h];exact a
def OwnO (h:Heap) (v:Value) (a:Option Nat) (cs:List Value):Prop:=
 match a with
 | none=>v=.slice none 0 0/\cs=[]
 | some b=>OwnSl h v b cs
theorem OwnO.ext {h e:Heap} {v:Value} {c:Option Nat} {cs:List Value} (g:OwnO h v c cs) (a:ExtH h e):OwnO e v c cs:=by
 cases c with
 | none=>exact g
 | some b=>exact OwnSl.ext g a
theorem OwnO.but {B:Nat->Prop} {h g:Heap} {v:Value} {e:Option Nat} {cs:List Value} (j:OwnO h v e cs) (a:ExtBut B h g) (c:∀ b,e=some b->¬ B b):OwnO g v e cs:=by
 cases e with
 | none=>exact j
 | some b=>exact OwnSl.but j a (c b rfl)
theorem OwnO.one {h:Heap} {v:Value} {a:Option Nat} {cs:List Value} (c:OwnO h v a cs):v.oneCell'=true:=by
 cases a with
 | none=>obtain ⟨rfl,_⟩:=c;rfl
 | some b=>exact OwnSl.one c
theorem OwnO.vLen {h:Heap} {v:Value} {a:Option Nat} {cs:List Value} (e:OwnO h v a cs) {K:Nat->Prop} (c:K cs.length):vLen v K:=by
 cases a with
 | none=>obtain ⟨rfl,rfl⟩:=e;exact c
 | some b=>exact OwnSl.vLen e c
theorem OwnO.sl {α:Type} {E:Elem α} {h:Heap} {v:Value} {e:Option Nat} {xs:List α} {f:α->Value} (g:OwnO h v e (xs.map f)) (j:∀ x∈xs,E h [f x] x):SlAt 1 E h v xs:=by
 cases e with
 | none=>obtain ⟨a,c⟩:=g;exact .inl ⟨a,by simpa using c⟩
 | some b=>exact OwnSl.sl g j
theorem OwnO.lt {h:Heap} {v:Value} {b:Nat} {cs:List Value} (a:OwnO h v (some b) cs):b<h.size:=OwnSl.lt a
def AllC {α:Type} (z:Nat) (E:Elem α) (h:Heap):List (List Value)->List α->Prop
 | [],[]=>True
 | c::cs,x::xs=>c.length=z/\E h c x/\AllC z E h cs xs
 | _,_=>False
theorem AllC.ext {α:Type} {z:Nat} {E:Elem α} (j:Mono E) {h g:Heap} (a:ExtH h g):∀ {css:List (List Value)} {xs:List α},AllC z E h css xs->AllC z E g css xs
 | [],[],_=>trivial
 | [],_::_,h=>h.elim
 | _::_,[],h=>h.elim
 | _::_,_::_,⟨b,c,e⟩=>⟨b,j _ _ _ _ a c,AllC.ext j a e⟩
end Go.Vc
