import Derived.Test.YtcneolcmjjlmnaaGreatDoorVcSoundE
open Option renaming some->Jg
open Go renaming Value->Jl
namespace Go.Vc
set_option linter.unusedVariables false
set_option linter.unusedSimpArgs false
open Go
def I64 (x:Int):Prop:=-9223372036854775808<=x/\x<=9223372036854775807
abbrev Elem (α:Type):=Heap->Jc->α->Prop
def Mono {α:Type} (E:Elem α):Prop:=∀h e cs x,ExtH h e->E h cs x->E e cs x
def eI64:Elem Int:=λ_ cs x=>cs=[.int .i64 x]/\I64 x
def eB:Elem Bool:=λ_ cs x=>cs=[.bool x]
def eStr:Elem Jd:=λ_ cs x=>cs=[.string x]
def CellsAt (h:Heap) (p:Addr) (cs:Jc):Prop:=∀j u,cs[j]?=Jg u->hcell h (p.add j)=Jg u
def ElemAt {α:Type} (z:Nat) (E:Elem α) (h:Heap) (p:Addr) (x:α):Prop:=∃cs,cs.length=z/\CellsAt h p cs/\E h cs x
def SlAt {α:Type} (z:Nat) (E:Elem α) (h:Heap) (v:Jl) (xs:List α):Prop:=
 (v=.slice none 0 0/\xs=[])\/∃a c,v=.slice (Jg a) xs.length c/\xs.length<=c/\∀i x,xs[i]?=Jg x->ElemAt z E h (a.add (i*z)) x
def eSl {α:Type} (z:Nat) (E:Elem α):Elem (List α):=λh cs xs=>∃v,cs=[v]/\SlAt z E h v xs
theorem CellsAt.ext {h g:Heap} {p:Addr} {cs:Jc} (a:ExtH h g) (e:CellsAt h p cs):CellsAt g p cs:=λj u k=>Zgp a (e j u k)
theorem ElemAt.ext {α:Type} {z:Nat} {E:Elem α} (k:Mono E) {h g:Heap} {p:Addr} {x:α} (a:ExtH h g) (j:ElemAt z E h p x):ElemAt z E g p x:=by
 obtain ⟨cs,h1,e,f⟩:=j;exact ⟨cs,h1,e.ext a,k _ _ _ _ a f⟩
theorem SlAt.ext {α:Type} {z:Nat} {E:Elem α} (k:Mono E) {h j:Heap} {v:Jl} {xs:List α} (e:ExtH h j) (hs:SlAt z E h v xs):SlAt z E j v xs:=by
 rcases hs with hs|⟨a,c,h1,f,g⟩
 .exact .inl hs
 .exact .inr ⟨a,c,h1,f,λi x hi=>(g i x hi).ext k e⟩
theorem add_zero (p:Addr):p.add 0=p:=rfl
theorem ElemAt.i64 {h:Heap} {p:Addr} {x:Int} (g:ElemAt 1 eI64 h p x):hcell h p=Jg (.int .i64 x)/\I64 x:=by
 obtain ⟨cs,_,a,rfl,e⟩:=g;exact ⟨a 0 _ rfl,e⟩
theorem ElemAt.str {h:Heap} {p:Addr} {x:Jd} (e:ElemAt 1 eStr h p x):hcell h p=Jg (.string x):=by
 obtain ⟨cs,_,a,rfl⟩:=e;exact a 0 _ rfl
theorem ElemAt.bool {h:Heap} {p:Addr} {x:Bool} (e:ElemAt 1 eB h p x):hcell h p=Jg (.bool x):=by
 obtain ⟨cs,_,a,rfl⟩:=e;exact a 0 _ rfl
theorem ElemAt.sl {α:Type} {z:Nat} {E:Elem α} {h:Heap} {p:Addr} {xs:List α} (g:ElemAt 1 (eSl z E) h p xs):∃v,hcell h p=Jg v/\SlAt z E h v xs:=by
 obtain ⟨cs,_,a,v,rfl,e⟩:=g;exact ⟨v,a 0 _ rfl,e⟩
theorem SlAt.one {α:Type} {z:Nat} {E:Elem α} {h:Heap} {v:Jl} {xs:List α} (hs:SlAt z E h v xs):v.oneCell'=true:=by
 rcases hs with ⟨rfl,_⟩|⟨a,c,rfl,_⟩<;>rfl
theorem ZfU {b:Bool} {A B:Prop} (e:b=true->A) (a:b=false->B):bif b then A else B:=by
 grind
theorem Zlv {b:Bool} {A B:Prop} (h:b=true) (e:A):bif b then A else B:=by subst h;exact e
theorem Zok {b:Bool} {A B:Prop} (h:b=false) (a:B):bif b then A else B:=by subst h;exact a
theorem CallsQ.mono {q:Prop} {P:Program} {f:FuncId} {j:Array Jl} {h:Heap} {R k:Jl->Heap->Prop} (a:CallsQ q P f j h R) (o:∀v l,R v l->k v l):CallsQ q P f j h k:=
 λw u=>(a w u).mono λ_ _ ⟨v,h1,e,g⟩=>⟨v,h1,e,o v _ g⟩
theorem CallsQ.weak {q:Prop} {P:Program} {f:FuncId} {j:Array Jl} {h:Heap} {R:Jl->Heap->Prop} (e:CallsQ q P f j h R):CallsH P f j h R:=
 λw k=>(e w k).mono λ_ _ ⟨v,h1,a,g⟩=>⟨v,h1,⟨a.1,a.2.1,a.2.2.1,False.elim⟩,g⟩
theorem CallsH.mono {P:Program} {f:FuncId} {j:Array Jl} {h:Heap} {R k:Jl->Heap->Prop} (a:CallsH P f j h R) (o:∀v l,R v l->k v l):CallsH P f j h k:=
 λw u=>(a w u).mono λ_ _ ⟨v,h1,e,g⟩=>⟨v,h1,e,o v _ g⟩
theorem CallsH.eq {P:Program} {f:FuncId} {g:Array Jl} {h:Heap} {R:Jl->Heap->Prop} {u:Jl} (a:CallsH P f g h λv k=>v=u/\k=h) (j:R u h):CallsH P f g h R:=
 a.mono λ_ _ ⟨h1,e⟩=>by subst h1;subst e;exact j
theorem Zbs {α:Type} {xs:List α} {k:Nat} (h:k<xs.length):∃x,xs[k]?=Jg x:=⟨xs[k],by simp [h]⟩
theorem Zad {α:Type} {xs:List α} {k:Nat} {x:α} (h:xs[k]?=Jg x):k<xs.length:=by
 grind
def Agr {α:Type} (xs e:List α) (k:Nat):Prop:=∀j,j<k->xs[j]?=e[j]?
theorem Agr.zero {α:Type} (xs e:List α):Agr xs e 0:=λj h=>by omega
theorem Agr.succ {α:Type} {xs e:List α} {k:Nat} (h:Agr xs e k) (o:xs[k]?=e[k]?):Agr xs e (k+1):=λj l=>by
 by_cases g:j=k
 .grind
 .exact h j Z
theorem Agr.all {α:Type} {xs e:List α} {k:Nat} (h:Agr xs e k) (l:xs.length<=k) (o:xs.length=e.length):xs=e:=by
 apply List.ext_getElem?;intro j;by_cases g:j<k
 .exact h j g
 .grind
end Go.Vc
