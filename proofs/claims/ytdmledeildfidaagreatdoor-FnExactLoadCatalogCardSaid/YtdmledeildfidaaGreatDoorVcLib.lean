import Derived.Test.YtdmledeildfidaaGreatDoorVcSoundE
namespace Go.Vc
set_option linter.unusedVariables false
set_option linter.unusedSimpArgs false
open Go
def I64 (x:Int):Prop:=-9223372036854775808<=x/\x<=9223372036854775807
abbrev Elem (α:Type):=Heap->List Value->α->Prop
def Mono {e:Type} (E:Elem e):Prop:=∀ h a cs x,ExtH h a->E h cs x->E a cs x
def eI64:Elem Int:=fun _ cs x=>cs=[.int .i64 x]/\I64 x
def eB:Elem Bool:=fun _ cs x=>cs=[.bool x]
def eStr:Elem ByteArray:=fun _ cs x=>cs=[.string x]
def CellsAt (h:Heap) (p:Addr) (cs:List Value):Prop:=∀ j u,cs[j]?=some u->hcell h (p.add j)=some u
def ElemAt {a:Type} (z:Nat) (E:Elem a) (h:Heap) (p:Addr) (x:a):Prop:=∃ cs,cs.length=z/\CellsAt h p cs/\E h cs x
def SlAt {e:Type} (z:Nat) (E:Elem e) (h:Heap) (v:Value) (xs:List e):Prop:=
 (v=.slice none 0 0/\xs=[])\/∃ a c,v=.slice (some a) xs.length c/\xs.length<=c/\∀ i x,xs[i]?=some x->ElemAt z E h (a.add (i*z)) x
def eSl {a:Type} (z:Nat) (E:Elem a):Elem (List a):=fun h cs xs=>∃ v,cs=[v]/\SlAt z E h v xs
theorem CellsAt.ext {h e:Heap} {p:Addr} {cs:List Value} (a:ExtH h e) (c:CellsAt h p cs):CellsAt e p cs:=fun j u g=>Zf5 a (c j u g)
theorem ElemAt.ext {g:Type} {z:Nat} {E:Elem g} (l:Mono E) {h j:Heap} {p:Addr} {x:g} (a:ExtH h j) (k:ElemAt z E h p x):ElemAt z E j p x:=by
 obtain ⟨cs,h1,c,e⟩:=k;exact ⟨cs,h1,c.ext a,l _ _ _ _ a e⟩
theorem SlAt.ext {j:Type} {z:Nat} {E:Elem j} (l:Mono E) {h k:Heap} {v:Value} {xs:List j} (e:ExtH h k) (hs:SlAt z E h v xs):SlAt z E k v xs:=by
 rcases hs with hs|⟨a,c,h1,f,g⟩
 ·exact .inl hs
 ·exact .inr ⟨a,c,h1,f,fun i x hi=>(g i x hi).ext l e⟩
theorem add_zero (p:Addr):p.add 0=p:=rfl
theorem ElemAt.i64 {h:Heap} {p:Addr} {x:Int} (e:ElemAt 1 eI64 h p x):hcell h p=some (.int .i64 x)/\I64 x:=by
 obtain ⟨cs,_,a,rfl,c⟩:=e;exact ⟨a 0 _ rfl,c⟩
theorem ElemAt.str {h:Heap} {p:Addr} {x:ByteArray} (e:ElemAt 1 eStr h p x):hcell h p=some (.string x):=by
 obtain ⟨cs,_,a,rfl⟩:=e;exact a 0 _ rfl
theorem ElemAt.bool {h:Heap} {p:Addr} {x:Bool} (e:ElemAt 1 eB h p x):hcell h p=some (.bool x):=by
 obtain ⟨cs,_,a,rfl⟩:=e;exact a 0 _ rfl
theorem ElemAt.sl {e:Type} {z:Nat} {E:Elem e} {h:Heap} {p:Addr} {xs:List e} (g:ElemAt 1 (eSl z E) h p xs):∃ v,hcell h p=some v/\SlAt z E h v xs:=by
 obtain ⟨cs,_,a,v,rfl,c⟩:=g;exact ⟨v,a 0 _ rfl,c⟩
theorem SlAt.one {e:Type} {z:Nat} {E:Elem e} {h:Heap} {v:Value} {xs:List e} (hs:SlAt z E h v xs):v.oneCell'=true:=by
 rcases hs with ⟨rfl,_⟩|⟨a,c,rfl,_⟩<;>rfl
theorem Zes {b:Bool} {A B:Prop} (e:b=true->A) (a:b=false->B):bif b then A else B:=by
 cases b
 ·exact a rfl
 ·exact e rfl
theorem ZiW {b:Bool} {A B:Prop} (h:b=true) (a:A):bif b then A else B:=by subst h;exact a
theorem Zkw {b:Bool} {A B:Prop} (h:b=false) (a:B):bif b then A else B:=by subst h;exact a
theorem CallsQ.mono {q:Prop} {P:Program} {f:FuncId} {g:Array Value} {h:Heap} {R j:Value->Heap->Prop} (a:CallsQ q P f g h R) (l:∀ v k,R v k->j v k):CallsQ q P f g h j:=
 fun w o=>(a w o).mono fun _ _ ⟨v,h1,c,e⟩=>⟨v,h1,c,l v _ e⟩
theorem CallsQ.weak {q:Prop} {P:Program} {f:FuncId} {g:Array Value} {h:Heap} {R:Value->Heap->Prop} (c:CallsQ q P f g h R):CallsH P f g h R:=
 fun w j=>(c w j).mono fun _ _ ⟨v,h1,a,e⟩=>⟨v,h1,⟨a.1,a.2.1,a.2.2.1,False.elim⟩,e⟩
theorem CallsH.mono {P:Program} {f:FuncId} {g:Array Value} {h:Heap} {R j:Value->Heap->Prop} (a:CallsH P f g h R) (l:∀ v k,R v k->j v k):CallsH P f g h j:=
 fun w o=>(a w o).mono fun _ _ ⟨v,h1,c,e⟩=>⟨v,h1,c,l v _ e⟩
theorem CallsH.eq {P:Program} {f:FuncId} {e:Array Value} {h:Heap} {R:Value->Heap->Prop} {u:Value} (a:CallsH P f e h fun v j=>v=u/\j=h) (g:R u h):CallsH P f e h R:=
 a.mono fun _ _ ⟨h1,c⟩=>by subst h1;subst c;exact g
theorem ZaK {a:Type} {xs:List a} {k:Nat} (h:k<xs.length):∃ x,xs[k]?=some x:=⟨xs[k],by simp [h]⟩
theorem ZY {a:Type} {xs:List a} {k:Nat} {x:a} (h:xs[k]?=some x):k<xs.length:=by
 rcases Nat.lt_or_ge k xs.length with h'|h'
 ·exact h'
 ·rw [List.getElem?_eq_none h'] at h;cases h
def Agr {a:Type} (xs e:List a) (k:Nat):Prop:=∀ j,j<k->xs[j]?=e[j]?
theorem Agr.zero {a:Type} (xs e:List a):Agr xs e 0:=fun j h=>by omega
theorem Agr.succ {l:Type} {xs a:List l} {k:Nat} (h:Agr xs a k) (g:xs[k]?=a[k]?):Agr xs a (k+1):=fun j o=>by
 by_cases e:j=k
 ·subst e;exact g
 ·exact h j ω
theorem Agr.all {e:Type} {xs a:List e} {k:Nat} (h:Agr xs a k) (o:xs.length<=k) (l:xs.length=a.length):xs=a:=by
 apply List.ext_getElem?;intro j;by_cases g:j<k
 ·exact h j g
 ·rw [List.getElem?_eq_none ω,List.getElem?_eq_none ω]
end Go.Vc
