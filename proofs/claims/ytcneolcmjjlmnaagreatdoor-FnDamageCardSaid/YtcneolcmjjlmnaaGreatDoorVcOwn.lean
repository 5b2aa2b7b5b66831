import Derived.Test.YtcneolcmjjlmnaaGreatDoorVcLib
import Derived.Below
open Option renaming some->Jg,none->Jh
open Go renaming Value->Jl
namespace Go.Vc
set_option linter.unusedVariables false
set_option linter.unusedSimpArgs false
open Go
theorem ExtBut.mono {B B':Nat->Prop} {a b:Heap} (h:ExtBut B a b) (j:∀x,B x->B' x):ExtBut B' a b:=⟨h.1,λx e f=>h.2 x e λg=>f (j x g)⟩
theorem ExtBut.ext {B:Nat->Prop} {e a b:Heap} (h:ExtBut B a b) (j:ExtH e a) (k:∀x,B x->e.size<=x):ExtH e b:=
 ⟨Nat.le_trans j.1 h.1,λx f=>(h.2 x (Nat.lt_of_lt_of_le f j.1) λg=>by have:=k x g;omega).trans (j.2 x f)⟩
theorem ZwC {h e:Heap} {p:Addr} (a:e[p.block]?=h[p.block]?):hcell e p=hcell h p:=by unfold hcell;rw [a]
theorem Zcq {B:Nat->Prop} {h g:Heap} {p:Addr} {u:Jl} (e:ExtBut B h g) (hp:¬B p.block) (a:hcell h p=Jg u):hcell g p=Jg u:=by
 rw [ZwC (e.2 p.block (Zda a) hp)];exact a
def world (h:Heap):World:=⟨h,λ_ _=>0,0,default,#[]⟩
theorem ZKx {h:Heap} {p:Addr} {u v:Jl} (a:hcell h p=Jg u):hcell (hset h p v) p=Jg v:=
 World.cell?_setCell_same (world h) p v a
theorem ZNB {h:Heap} {p q:Addr} {v:Jl} (e:p≠q):hcell (hset h p v) q=hcell h q:=
 World.cell?_setCell_other (world h) p q v e
theorem ZB5 {h:Heap} {p:Addr} {v:Jl}:(hset h p v).size=h.size:=World.size_setCell (world h) p v
theorem ZAQ {h:Heap} {p:Addr} {v:Jl} {b:Nat} (a:b≠p.block):(hset h p v)[b]?=h[b]?:=Go.RowKit.Below.heap_setCell (world h) p v b a
theorem ZNq {h:Heap} {p q:Addr} {v:Jl}:hfroz (hset h p v) q=hfroz h q:=by
 unfold hfroz hset;grind
theorem ExtBut.hset (h:Heap) (p:Addr) (v:Jl):ExtBut (·=p.block) h (hset h p v):=⟨by rw [ZB5];exact Nat.le_refl _,λb _ a=>ZAQ a⟩
def Wr (h:Heap) (p:Addr):Prop:=(∃u,hcell h p=Jg u)/\hfroz h p=false
theorem Wr.hset {h:Heap} {p q:Addr} {v:Jl} (a:Wr h q):Wr (hset h p v) q:=by
 obtain ⟨⟨u,j⟩,e⟩:=a;refine ⟨?_,by rw [ZNq];exact e⟩;by_cases g:p=q
 .grind [ZKx]
 .grind [ZNB]
theorem Wr.but {B:Nat->Prop} {h k:Heap} {p:Addr} (a:ExtBut B h k) (hp:¬B p.block) (l:Wr h p):Wr k p:=by
 obtain ⟨⟨u,g⟩,j⟩:=l;have e:=a.2 p.block (Zda g) hp;exact ⟨⟨u,Zcq a hp g⟩,by unfold hfroz at j ⊢;rw [e];exact j⟩
theorem Wr.ext {h e:Heap} {p:Addr} (a:ExtH h e) (g:Wr h p):Wr e p:=Wr.but (B:=λ_=>False) (eZ a) (λh=>h) g
theorem ZIf {h:Heap} {p:Addr} {v:Jl} {K:Heap->Prop} (e:Wr h p) (h1:v.oneCell'=true) (g:K (hset h p v)):vStore1 h p v K:=⟨h1,e.1,e.2,g⟩
def RowAt (h:Heap) (b off:Nat) (cs:Jc):Prop:=∃arr t,h[b]?=Jg (.cells arr t)/\∀j u,cs[j]?=Jg u->arr[off+j]?=Jg u
theorem ZY (b off j:Nat):(⟨b,off,Jh⟩:Addr).add j=⟨b,off+j,Jh⟩:=by
 simp [Addr.add]
theorem RowAt.cell {h:Heap} {b off:Nat} {cs:Jc} (e:RowAt h b off cs) {j:Nat} {u:Jl} (g:cs[j]?=Jg u):hcell h ⟨b,off+j,Jh⟩=Jg u:=by
 obtain ⟨arr,t,h1,a⟩:=e;grind [hcell]
theorem RowAt.wr {h:Heap} {b off:Nat} {cs:Jc} (e:RowAt h b off cs) {j:Nat} (k:j<cs.length):Wr h ⟨b,off+j,Jh⟩:=by
 obtain ⟨u,g⟩:=Zbs k;refine ⟨⟨u,e.cell g⟩,?_⟩;obtain ⟨arr,t,h1,a⟩:=e;grind [hfroz]
theorem RowAt.lt {h:Heap} {b off:Nat} {cs:Jc} (e:RowAt h b off cs):b<h.size:=by
 obtain ⟨arr,t,h1,_⟩:=e;grind
theorem RowAt.but {B:Nat->Prop} {h j:Heap} {b off:Nat} {cs:Jc} (g:RowAt h b off cs) (a:ExtBut B h j) (e:¬B b):RowAt j b off cs:=by
 have k:=g.lt;obtain ⟨arr,t,h1,f⟩:=g;exact ⟨arr,t,by rw [a.2 b k e];exact h1,f⟩
theorem RowAt.ext {h e:Heap} {b off:Nat} {cs:Jc} (g:RowAt h b off cs) (a:ExtH h e):RowAt e b off cs:=g.but (B:=λ_=>False) (eZ a) (λh=>h)
theorem RowAt.push (h:Heap) (cs:Jc) (t:TypeId):RowAt (h.push (.cells cs.toArray t)) h.size 0 cs:=by
 refine ⟨cs.toArray,t,by simp,λj u e=>?_⟩;grind
theorem RowAt.set {h:Heap} {b off:Nat} {cs:Jc} (e:RowAt h b off cs) {j:Nat} (k:j<cs.length) (v:Jl):RowAt (hset h ⟨b,off+j,Jh⟩ v) b off (cs.set j v):=by
 obtain ⟨arr,t,h1,a⟩:=e;refine ⟨arr.setIfInBounds (off+j) v,t,?_,λi u g=>?_⟩
 .unfold hset;grind
 .grind
def CapAt (h:Heap) (b n:Nat):Prop:=∃arr t,h[b]?=Jg (.cells arr t)/\n<=arr.size
theorem CapAt.but {B:Nat->Prop} {h g:Heap} {b n:Nat} (j:CapAt h b n) (a:ExtBut B h g) (e:¬B b):CapAt g b n:=by
 obtain ⟨arr,t,h1,f⟩:=j;have k:b<h.size:=by
  grind
 exact ⟨arr,t,by rw [a.2 b k e];exact h1,f⟩
theorem CapAt.ext {h e:Heap} {b n:Nat} (g:CapAt h b n) (a:ExtH h e):CapAt e b n:=g.but (B:=λ_=>False) (eZ a) (λh=>h)
theorem CapAt.hset {h:Heap} {b n:Nat} (e:CapAt h b n) (p:Addr) (v:Jl):CapAt (hset h p v) b n:=by
 grind [Vc.hset,CapAt]
theorem CapAt.wr {h:Heap} {b n j:Nat} (e:CapAt h b n) (k:j<n):Wr h ⟨b,j,Jh⟩:=by
 obtain ⟨arr,t,h1,a⟩:=e;have g:j<arr.size:=Z;refine ⟨⟨arr[j],?_⟩,?_⟩
 .grind [hcell]
 .grind [hfroz]
def OwnSl (h:Heap) (v:Jl) (b:Nat) (cs:Jc):Prop:=
 ∃off c,v=.slice (Jg ⟨b,off,Jh⟩) cs.length c/\cs.length<=c/\RowAt h b off cs/\CapAt h b (off+c)
theorem OwnSl.ext {h j:Heap} {v:Jl} {b:Nat} {cs:Jc} (k:OwnSl h v b cs) (a:ExtH h j):OwnSl j v b cs:=by
 obtain ⟨off,c,h1,e,f,g⟩:=k;exact ⟨off,c,h1,e,f.ext a,g.ext a⟩
theorem OwnSl.but {B:Nat->Prop} {h j:Heap} {v:Jl} {b:Nat} {cs:Jc} (k:OwnSl h v b cs) (a:ExtBut B h j) (e:¬B b):OwnSl j v b cs:=by
 obtain ⟨off,c,h1,f,g,i⟩:=k;exact ⟨off,c,h1,f,g.but a e,i.but a e⟩
theorem OwnSl.lt {h:Heap} {v:Jl} {b:Nat} {cs:Jc} (e:OwnSl h v b cs):b<h.size:=by
 obtain ⟨off,c,_,_,a,_⟩:=e;exact a.lt
theorem OwnSl.vLen {h:Heap} {v:Jl} {b:Nat} {cs:Jc} (g:OwnSl h v b cs) {K:Nat->Prop} (e:K cs.length):vLen v K:=by
 obtain ⟨off,c,rfl,_,_,_⟩:=g;exact e
theorem OwnSl.sl {α:Type} {E:Elem α} {h:Heap} {v:Jl} {b:Nat} {xs:List α} {f:α->Jl} (l:OwnSl h v b (xs.map f)) (k:∀x∈xs,E h [f x] x):SlAt 1 E h v xs:=by
 obtain ⟨off,c,rfl,a,e,_⟩:=l;refine .inr ⟨⟨b,off,Jh⟩,c,by simp,by simpa using a,λi x hi=>⟨[f x],rfl,λj u g=>?_,k x (List.mem_of_getElem? hi)⟩⟩;cases j with
 | zero=>
  simp at g;subst g;rw [ZY,ZY];simpa using e.cell (j:=i) (by rw [List.getElem?_map,hi];rfl)
 | succ j=>simp at g
theorem OwnSl.one {h:Heap} {v:Jl} {b:Nat} {cs:Jc} (e:OwnSl h v b cs):v.oneCell'=true:=by
 obtain ⟨off,c,rfl,_⟩:=e;rfl
theorem ZD {v:Jl} {A:Prop} (h:v.oneCell'=true) (e:A):vOne v A:=by unfold vOne;rw [h];exact e
theorem Zb9 {C:Ctx} {g:Nat} {A:Prop} (h:C.okf g=true) (e:A):vOkf C g A:=by unfold vOkf;rw [h];exact e
def OwnO (h:Heap) (v:Jl) (e:Jm Nat) (cs:Jc):Prop:=
 match e with
 | none=>v=.slice Jh 0 0/\cs=[]
 | some b=>OwnSl h v b cs
theorem OwnO.ext {h j:Heap} {v:Jl} {e:Jm Nat} {cs:Jc} (g:OwnO h v e cs) (a:ExtH h j):OwnO j v e cs:=by
 cases e with
 | none=>exact g
 | some b=>exact OwnSl.ext g a
theorem OwnO.but {B:Nat->Prop} {h k:Heap} {v:Jl} {g:Jm Nat} {cs:Jc} (j:OwnO h v g cs) (a:ExtBut B h k) (e:∀b,g=Jg b->¬B b):OwnO k v g cs:=by
 cases g with
 | none=>exact j
 | some b=>exact OwnSl.but j a (e b rfl)
theorem OwnO.one {h:Heap} {v:Jl} {g:Jm Nat} {cs:Jc} (e:OwnO h v g cs):v.oneCell'=true:=by
 cases g with
 | none=>obtain ⟨rfl,_⟩:=e;rfl
 | some b=>exact OwnSl.one e
theorem OwnO.vLen {h:Heap} {v:Jl} {j:Jm Nat} {cs:Jc} (g:OwnO h v j cs) {K:Nat->Prop} (e:K cs.length):vLen v K:=by
 cases j with
 | none=>obtain ⟨rfl,rfl⟩:=g;exact e
 | some b=>exact OwnSl.vLen g e
theorem OwnO.sl {α:Type} {E:Elem α} {h:Heap} {v:Jl} {g:Jm Nat} {xs:List α} {f:α->Jl} (e:OwnO h v g (xs.map f)) (j:∀x∈xs,E h [f x] x):SlAt 1 E h v xs:=by
 cases g with
 | none=>obtain ⟨h1,a⟩:=e;exact .inl ⟨h1,by simpa using a⟩
 | some b=>exact OwnSl.sl e j
theorem OwnO.lt {h:Heap} {v:Jl} {b:Nat} {cs:Jc} (e:OwnO h v (Jg b) cs):b<h.size:=OwnSl.lt e
def AllC {α:Type} (z:Nat) (E:Elem α) (h:Heap):List Jc->List α->Prop
 | [],[]=>True
 | c::cs,x::xs=>c.length=z/\E h c x/\AllC z E h cs xs
 | _,_=>False
theorem AllC.ext {α:Type} {z:Nat} {E:Elem α} (j:Mono E) {h g:Heap} (a:ExtH h g):∀{css:List Jc} {xs:List α},AllC z E h css xs->AllC z E g css xs
 | [],[],_=>trivial
 | [],_::_,h=>h.elim
 | _::_,[],h=>h.elim
 | _::_,_::_,⟨h1,e,f⟩=>⟨h1,j _ _ _ _ a e,AllC.ext j a f⟩
end Go.Vc
