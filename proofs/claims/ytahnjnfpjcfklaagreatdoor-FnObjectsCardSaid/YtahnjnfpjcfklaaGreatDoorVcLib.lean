import Derived.Test.YtahnjnfpjcfklaaGreatDoorVcSoundE
namespace Go.Vc
set_option linter.unusedVariables false
set_option linter.unusedSimpArgs false
open Go
def I64 (x:Int):Prop:=-9223372036854775808<=x/\x<=9223372036854775807
abbrev Elem (α:Type):=Heap->List Value->α->Prop
def Mono {α:Type} (E:Elem α):Prop:=∀ h a cs x,ExtH h a->E h cs x->E a cs x
def eI64:Elem Int:=fun _ cs x=>cs=[.int .i64 x]/\I64 x
def eB:Elem Bool:=fun _ cs x=>cs=[.bool x]
def eStr:Elem ByteArray:=fun _ cs x=>cs=[.string x]
def CellsAt (h:Heap) (p:Addr) (cs:List Value):Prop:=∀ j u,cs[j]?=some u->hcell h (p.add j)=some u
def ElemAt {α:Type} (z:Nat) (E:Elem α) (h:Heap) (p:Addr) (x:α):Prop:=∃ cs,cs.length=z/\CellsAt h p cs/\E h cs x
def SlAt {α:Type} (z:Nat) (E:Elem α) (h:Heap) (v:Value) (xs:List α):Prop:=
 (v=.slice none 0 0/\xs=[])\/∃ a c,v=.slice (some a) xs.length c/\xs.length<=c/\∀ i x,xs[i]?=some x->ElemAt z E h (a.add (i*z)) x
def eSl {α:Type} (z:Nat) (E:Elem α):Elem (List α):=fun h cs xs=>∃ v,cs=[v]/\SlAt z E h v xs
theorem CellsAt.ext {h g:Heap} {p:Addr} {cs:List Value} (a:ExtH h g) (e:CellsAt h p cs):CellsAt g p cs:=fun j u k=>Zfr a (e j u k)
theorem ElemAt.ext {α:Type} {z:Nat} {E:Elem α} (k:Mono E) {h g:Heap} {p:Addr} {x:α} (a:ExtH h g) (j:ElemAt z E h p x):ElemAt z E g p x:=by
 obtain ⟨cs,h1,e,f⟩:=j;exact ⟨cs,h1,e.ext a,k _ _ _ _ a f⟩
theorem SlAt.ext {α:Type} {z:Nat} {E:Elem α} (k:Mono E) {h j:Heap} {v:Value} {xs:List α} (e:ExtH h j) (hs:SlAt z E h v xs):SlAt z E j v xs:=by
 rcases hs with hs|⟨a,c,h1,f,g⟩
 ·exact .inl hs
 ·exact .inr ⟨a,c,h1,f,fun i x hi=>(g i x hi).ext k e⟩
theorem add_zero (p:Addr):p.add 0=p:=rfl
theorem ElemAt.i64 {h:Heap} {p:Addr} {x:Int} (g:ElemAt 1 eI64 h p x):hcell h p=some (.int .i64 x)/\I64 x:=by
 obtain ⟨cs,_,a,rfl,e⟩:=g;exact ⟨a 0 _ rfl,e⟩
theorem ElemAt.str {h:Heap} {p:Addr} {x:ByteArray} (e:ElemAt 1 eStr h p x):hcell h p=some (.string x):=by
 obtain ⟨cs,_,a,rfl⟩:=e;exact a 0 _ rfl
theorem ElemAt.bool {h:Heap} {p:Addr} {x:Bool} (e:ElemAt 1 eB h p x):hcell h p=some (.bool x):=by
 obtain ⟨cs,_,a,rfl⟩:=e;exact a 0 _ rfl
theorem ElemAt.sl {α:Type} {z:Nat} {E:Elem α} {h:Heap} {p:Addr} {xs:List α} (g:ElemAt 1 (eSl z E) h p xs):∃ v,hcell h p=some v/\SlAt z E h v xs:=by
 obtain ⟨cs,_,a,v,rfl,e⟩:=g;exact ⟨v,a 0 _ rfl,e⟩
theorem SlAt.one {α:Type} {z:Nat} {E:Elem α} {h:Heap} {v:Value} {xs:List α} (hs:SlAt z E h v xs):v.oneCell'=true:=by
 rcases hs with ⟨rfl,_⟩|⟨a,c,rfl,_⟩<;>rfl
theorem ZeC {b:Bool} {A B:Prop} (e:b=true->A) (a:b=false->B):bif b then A else B:=by
 cases b
 ·exact a rfl
 ·exact e rfl
theorem Zkc {b:Bool} {A B:Prop} (h:b=true) (a:A):bif b then A else B:=by subst h;exact a
theorem Zir {b:Bool} {A B:Prop} (h:b=false) (a:B):bif b then A else B:=by subst h;exact a
theorem CallsQ.mono {q:Prop} {P:Program} {f:FuncId} {j:Array Value} {h:Heap} {R l:Value->Heap->Prop} (a:CallsQ q P f j h R) (r:∀ v k,R v k->l v k):CallsQ q P f j h l:=
 fun w o=>(a w o).mono fun _ _ ⟨v,h1,e,g⟩=>⟨v,h1,e,r v _ g⟩
theorem CallsQ.weak {q:Prop} {P:Program} {f:FuncId} {j:Array Value} {h:Heap} {R:Value->Heap->Prop} (e:CallsQ q P f j h R):CallsH P f j h R:=
 fun w k=>(e w k).mono fun _ _ ⟨v,h1,a,g⟩=>⟨v,h1,⟨a.1,a.2.1,a.2.2.1,False.elim⟩,g⟩
theorem CallsH.mono {P:Program} {f:FuncId} {j:Array Value} {h:Heap} {R l:Value->Heap->Prop} (a:CallsH P f j h R) (r:∀ v k,R v k->l v k):CallsH P f j h l:=
 fun w o=>(a w o).mono fun _ _ ⟨v,h1,e,g⟩=>⟨v,h1,e,r v _ g⟩
theorem CallsH.eq {P:Program} {f:FuncId} {g:Array Value} {h:Heap} {R:Value->Heap->Prop} {u:Value} (a:CallsH P f g h fun v k=>v=u/\k=h) (j:R u h):CallsH P f g h R:=
 a.mono fun _ _ ⟨h1,e⟩=>by subst h1;subst e;exact j
theorem Za2 {α:Type} {xs:List α} {k:Nat} (h:k<xs.length):∃ x,xs[k]?=some x:=⟨xs[k],by simp [h]⟩
theorem Z0 {α:Type} {xs:List α} {k:Nat} {x:α} (h:xs[k]?=some x):k<xs.length:=by
 rcases Nat.lt_or_ge k xs.length with h'|h'
 ·exact h'
 ·rw [List.getElem?_eq_none h'] at h;cases h
def Agr {α:Type} (xs a:List α) (k:Nat):Prop:=∀ j,j<k->xs[j]?=a[j]?
theorem Agr.zero {α:Type} (xs a:List α):Agr xs a 0:=fun j h=>by omega
theorem Agr.succ {α:Type} {xs a:List α} {k:Nat} (h:Agr xs a k) (g:xs[k]?=a[k]?):Agr xs a (k+1):=fun j l=>by
 by_cases e:j=k
 ·subst e;exact g
 ·exact h j ω
theorem Agr.all {α:Type} {xs a:List α} {k:Nat} (h:Agr xs a k) (l:xs.length<=k) (g:xs.length=a.length):xs=a:=by
 apply List.ext_getElem?;intro j;by_cases e:j<k
 ·exact h j e
 ·rw [List.getElem?_eq_none ω,List.getElem?_eq_none ω]
end Go.Vc
