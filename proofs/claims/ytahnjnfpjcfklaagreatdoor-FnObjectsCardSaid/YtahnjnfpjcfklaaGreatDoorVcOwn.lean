import Derived.Test.YtahnjnfpjcfklaaGreatDoorVcLib
import Derived.Below
namespace Go.Vc
set_option linter.unusedVariables false
set_option linter.unusedSimpArgs false
open Go
theorem ExtBut.mono {B B':Nat->Prop} {a b:Heap} (h:ExtBut B a b) (g:∀ x,B x->B' x):ExtBut B' a b:=⟨h.1,fun x e f=>h.2 x e fun j=>f (g x j)⟩
theorem ExtBut.ext {B:Nat->Prop} {e a b:Heap} (h:ExtBut B a b) (j:ExtH e a) (k:∀ x,B x->e.size<=x):ExtH e b:=
 ⟨Nat.le_trans j.1 h.1,fun x f=>(h.2 x (Nat.lt_of_lt_of_le f j.1) fun g=>by have:=k x g;omega).trans (j.2 x f)⟩
theorem ZuL {h e:Heap} {p:Addr} (a:e[p.block]?=h[p.block]?):hcell e p=hcell h p:=by unfold hcell;rw [a]
theorem Zb2 {B:Nat->Prop} {h g:Heap} {p:Addr} {u:Value} (e:ExtBut B h g) (hp:¬ B p.block) (a:hcell h p=some u):hcell g p=some u:=by
 rw [ZuL (e.2 p.block (Zc4 a) hp)];exact a
def world (h:Heap):World:=⟨h,fun _ _=>0,0,default,#[]⟩
theorem ZAn {h:Heap} {p:Addr} {u v:Value} (a:hcell h p=some u):hcell (hset h p v) p=some v:=
 World.cell?_setCell_same (world h) p v a
theorem ZHL {h:Heap} {p q:Addr} {v:Value} (a:p≠q):hcell (hset h p v) q=hcell h q:=
 World.cell?_setCell_other (world h) p q v a
theorem ZDh {h:Heap} {p:Addr} {v:Value}:(hset h p v).size=h.size:=World.size_setCell (world h) p v
theorem ZCQ {h:Heap} {p:Addr} {v:Value} {b:Nat} (a:b≠p.block):(hset h p v)[b]?=h[b]?:=Go.RowKit.Below.heap_setCell (world h) p v b a
theorem ZCP {h:Heap} {p q:Addr} {v:Value}:hfroz (hset h p v) q=hfroz h q:=by
 unfold hfroz hset;rw [Array.getElem?_modify];by_cases a:p.block=q.block
 ·rw [if_pos a];cases h[q.block]? with
  | none=>rfl
  | some o=>cases o<;>rfl
 ·rw [if_neg a]
theorem ExtBut.hset (h:Heap) (p:Addr) (v:Value):ExtBut (·=p.block) h (hset h p v):=⟨by rw [ZDh];exact Nat.le_refl _,fun b _ a=>ZCQ a⟩
def Wr (h:Heap) (p:Addr):Prop:=(∃ u,hcell h p=some u)/\hfroz h p=false
theorem Wr.hset {h:Heap} {p q:Addr} {v:Value} (a:Wr h q):Wr (hset h p v) q:=by
 obtain ⟨⟨u,g⟩,j⟩:=a;refine ⟨?_,by rw [ZCP];exact j⟩;by_cases e:p=q
 ·subst e;exact ⟨v,ZAn g⟩
 ·exact ⟨u,by rw [ZHL e];exact g⟩
theorem Wr.but {B:Nat->Prop} {h k:Heap} {p:Addr} (a:ExtBut B h k) (hp:¬ B p.block) (l:Wr h p):Wr k p:=by
 obtain ⟨⟨u,j⟩,g⟩:=l;have e:=a.2 p.block (Zc4 j) hp;exact ⟨⟨u,Zb2 a hp j⟩,by unfold hfroz at g ⊢;rw [e];exact g⟩
theorem Wr.ext {h e:Heap} {p:Addr} (a:ExtH h e) (g:Wr h p):Wr e p:=Wr.but (B:=fun _=>False) (eZ a) (fun h=>h) g
theorem ZDn {h:Heap} {p:Addr} {v:Value} {K:Heap->Prop} (a:Wr h p) (h1:v.oneCell'=true) (e:K (hset h p v)):vStore1 h p v K:=⟨h1,a.1,a.2,e⟩
def RowAt (h:Heap) (b off:Nat) (cs:List Value):Prop:=∃ arr t,h[b]?=some (.cells arr t)/\∀ j u,cs[j]?=some u->arr[off+j]?=some u
theorem Z5 (b off j:Nat):(⟨b,off,none⟩:Addr).add j=⟨b,off+j,none⟩:=by
 unfold Addr.add;by_cases a:j=0
 ·subst a;rfl
 ·rw [if_neg a]
theorem RowAt.cell {h:Heap} {b off:Nat} {cs:List Value} (e:RowAt h b off cs) {j:Nat} {u:Value} (g:cs[j]?=some u):hcell h ⟨b,off+j,none⟩=some u:=by
 obtain ⟨arr,t,h1,a⟩:=e;unfold hcell;rw [h1];exact a j u g
theorem RowAt.wr {h:Heap} {b off:Nat} {cs:List Value} (e:RowAt h b off cs) {j:Nat} (k:j<cs.length):Wr h ⟨b,off+j,none⟩:=by
 obtain ⟨u,g⟩:=Za2 k;refine ⟨⟨u,e.cell g⟩,?_⟩;obtain ⟨arr,t,h1,a⟩:=e;unfold hfroz;rw [h1];simp
theorem RowAt.lt {h:Heap} {b off:Nat} {cs:List Value} (a:RowAt h b off cs):b<h.size:=by
 obtain ⟨arr,t,h1,_⟩:=a;rcases Nat.lt_or_ge b h.size with h'|h'
 ·exact h'
 ·rw [Array.getElem?_eq_none h'] at h1;cases h1
theorem RowAt.but {B:Nat->Prop} {h j:Heap} {b off:Nat} {cs:List Value} (g:RowAt h b off cs) (a:ExtBut B h j) (e:¬ B b):RowAt j b off cs:=by
 have k:=g.lt;obtain ⟨arr,t,h1,f⟩:=g;exact ⟨arr,t,by rw [a.2 b k e];exact h1,f⟩
theorem RowAt.ext {h e:Heap} {b off:Nat} {cs:List Value} (g:RowAt h b off cs) (a:ExtH h e):RowAt e b off cs:=g.but (B:=fun _=>False) (eZ a) (fun h=>h)
theorem RowAt.push (h:Heap) (cs:List Value) (t:TypeId):RowAt (h.push (.cells cs.toArray t)) h.size 0 cs:=by
 refine ⟨cs.toArray,t,by simp,fun j u a=>?_⟩;simpa using a
theorem RowAt.set {h:Heap} {b off:Nat} {cs:List Value} (r:RowAt h b off cs) {j:Nat} (l:j<cs.length) (v:Value):RowAt (hset h ⟨b,off+j,none⟩ v) b off (cs.set j v):=by
 obtain ⟨arr,t,h1,a⟩:=r;refine ⟨arr.setIfInBounds (off+j) v,t,?_,fun i u g=>?_⟩
 ·unfold hset;rw [Array.getElem?_modify,if_pos rfl,h1];simp
 ·rw [List.getElem?_set] at g;by_cases k:j=i
  ·subst k;rw [if_pos rfl,if_pos l] at g;cases g;obtain ⟨f,e⟩:=Za2 l;have:=a j f e;have o:off+j<arr.size:=by
    rcases Nat.lt_or_ge (off+j) arr.size with h'|h'
    ·exact h'
    ·rw [Array.getElem?_eq_none h'] at this;cases this
   simp [o]
  ·rw [if_neg k] at g;rw [Array.getElem?_setIfInBounds_ne ω];exact a i u g
def CapAt (h:Heap) (b n:Nat):Prop:=∃ arr t,h[b]?=some (.cells arr t)/\n<=arr.size
theorem CapAt.but {B:Nat->Prop} {h g:Heap} {b n:Nat} (k:CapAt h b n) (a:ExtBut B h g) (e:¬ B b):CapAt g b n:=by
 obtain ⟨arr,t,h1,f⟩:=k;have j:b<h.size:=by
  rcases Nat.lt_or_ge b h.size with g|g
  ·exact g
  ·rw [Array.getElem?_eq_none g] at h1;cases h1
 exact ⟨arr,t,by rw [a.2 b j e];exact h1,f⟩
theorem CapAt.ext {h e:Heap} {b n:Nat} (g:CapAt h b n) (a:ExtH h e):CapAt e b n:=g.but (B:=fun _=>False) (eZ a) (fun h=>h)
theorem CapAt.hset {h:Heap} {b n:Nat} (e:CapAt h b n) (p:Addr) (v:Value):CapAt (hset h p v) b n:=by
 obtain ⟨arr,t,h1,a⟩:=e;unfold Vc.hset;rw [CapAt,Array.getElem?_modify];by_cases hp:p.block=b
 ·rw [if_pos hp,h1];refine ⟨if p.spot.isSome then arr else arr.setIfInBounds p.off v,t,rfl,?_⟩;split<;>simpa using a
 ·rw [if_neg hp];exact ⟨arr,t,h1,a⟩
theorem CapAt.wr {h:Heap} {b n j:Nat} (g:CapAt h b n) (k:j<n):Wr h ⟨b,j,none⟩:=by
 obtain ⟨arr,t,h1,a⟩:=g;have e:j<arr.size:=ω;refine ⟨⟨arr[j],?_⟩,?_⟩
 ·unfold hcell;rw [h1];simp [e]
 ·unfold hfroz;rw [h1];simp
def OwnSl (h:Heap) (v:Value) (b:Nat) (cs:List Value):Prop:=
 ∃ off c,v=.slice (some ⟨b,off,none⟩) cs.length c/\cs.length<=c/\RowAt h b off cs/\CapAt h b (off+c)
theorem OwnSl.ext {h j:Heap} {v:Value} {b:Nat} {cs:List Value} (k:OwnSl h v b cs) (a:ExtH h j):OwnSl j v b cs:=by
 obtain ⟨off,c,h1,e,f,g⟩:=k;exact ⟨off,c,h1,e,f.ext a,g.ext a⟩
theorem OwnSl.but {B:Nat->Prop} {h j:Heap} {v:Value} {b:Nat} {cs:List Value} (k:OwnSl h v b cs) (a:ExtBut B h j) (e:¬ B b):OwnSl j v b cs:=by
 obtain ⟨off,c,h1,f,g,i⟩:=k;exact ⟨off,c,h1,f,g.but a e,i.but a e⟩
theorem OwnSl.lt {h:Heap} {v:Value} {b:Nat} {cs:List Value} (e:OwnSl h v b cs):b<h.size:=by
 obtain ⟨off,c,_,_,a,_⟩:=e;exact a.lt
theorem OwnSl.vLen {h:Heap} {v:Value} {b:Nat} {cs:List Value} (e:OwnSl h v b cs) {K:Nat->Prop} (a:K cs.length):vLen v K:=by
 obtain ⟨off,c,rfl,_,_,_⟩:=e;exact a
theorem OwnSl.sl {α:Type} {E:Elem α} {h:Heap} {v:Value} {b:Nat} {xs:List α} {f:α->Value} (k:OwnSl h v b (xs.map f)) (l:∀ x∈xs,E h [f x] x):SlAt 1 E h v xs:=by
 obtain ⟨off,c,rfl,a,e,_⟩:=k;refine .inr ⟨⟨b,off,none⟩,c,by simp,by simpa using a,fun i x hi=>⟨[f x],rfl,fun j u g=>?_,l x (List.mem_of_getElem? hi)⟩⟩;cases j with
 | zero=>
  simp at g;subst g;rw [Z5,Z5];simpa using e.cell (j:=i) (by rw [List.getElem?_map,hi];rfl)
 | succ j=>simp at g
theorem OwnSl.one {h:Heap} {v:Value} {b:Nat} {cs:List Value} (a:OwnSl h v b cs):v.oneCell'=true:=by
 obtain ⟨off,c,rfl,_⟩:=a;rfl
theorem Zh {v:Value} {A:Prop} (h:v.oneCell'=true) (a:A):vOne v A:=by unfold vOne;rw [h];exact a
theorem Zcr {C:Ctx} {g:Nat} {A:Prop} (h:C.okf g=true) (a:A):vOkf C g A:=by unfold vOkf;rw [h];exact a
def OwnO (h:Heap) (v:Value) (a:Option Nat) (cs:List Value):Prop:=
 match a with
 | none=>v=.slice none 0 0/\cs=[]
 | some b=>OwnSl h v b cs
theorem OwnO.ext {h g:Heap} {v:Value} {e:Option Nat} {cs:List Value} (j:OwnO h v e cs) (a:ExtH h g):OwnO g v e cs:=by
 cases e with
 | none=>exact j
 | some b=>exact OwnSl.ext j a
theorem OwnO.but {B:Nat->Prop} {h j:Heap} {v:Value} {g:Option Nat} {cs:List Value} (k:OwnO h v g cs) (a:ExtBut B h j) (e:∀ b,g=some b->¬ B b):OwnO j v g cs:=by
 cases g with
 | none=>exact k
 | some b=>exact OwnSl.but k a (e b rfl)
theorem OwnO.one {h:Heap} {v:Value} {a:Option Nat} {cs:List Value} (e:OwnO h v a cs):v.oneCell'=true:=by
 cases a with
 | none=>obtain ⟨rfl,_⟩:=e;rfl
 | some b=>exact OwnSl.one e
theorem OwnO.vLen {h:Heap} {v:Value} {e:Option Nat} {cs:List Value} (g:OwnO h v e cs) {K:Nat->Prop} (a:K cs.length):vLen v K:=by
 cases e with
 | none=>obtain ⟨rfl,rfl⟩:=g;exact a
 | some b=>exact OwnSl.vLen g a
theorem OwnO.sl {α:Type} {E:Elem α} {h:Heap} {v:Value} {e:Option Nat} {xs:List α} {f:α->Value} (g:OwnO h v e (xs.map f)) (j:∀ x∈xs,E h [f x] x):SlAt 1 E h v xs:=by
 cases e with
 | none=>obtain ⟨h1,a⟩:=g;exact .inl ⟨h1,by simpa using a⟩
 | some b=>exact OwnSl.sl g j
theorem OwnO.lt {h:Heap} {v:Value} {b:Nat} {cs:List Value} (a:OwnO h v (some b) cs):b<h.size:=OwnSl.lt a
def AllC {α:Type} (z:Nat) (E:Elem α) (h:Heap):List (List Value)->List α->Prop
 | [],[]=>True
 | c::cs,x::xs=>c.length=z/\E h c x/\AllC z E h cs xs
 | _,_=>False
theorem AllC.ext {α:Type} {z:Nat} {E:Elem α} (g:Mono E) {h j:Heap} (a:ExtH h j):∀ {css:List (List Value)} {xs:List α},AllC z E h css xs->AllC z E j css xs
 | [],[],_=>trivial
 | [],_::_,h=>h.elim
 | _::_,[],h=>h.elim
 | _::_,_::_,⟨h1,e,f⟩=>⟨h1,g _ _ _ _ a e,AllC.ext g a f⟩
end Go.Vc
