import Derived.Test.YtghbgeaammnkcaaGreatDoorVcSoundE
namespace Go.Vc
set_option linter.unusedVariables false
set_option linter.unusedSimpArgs false
open Go
def I64 (x:Int):Prop:=-9223372036854775808≤x∧x≤9223372036854775807
abbrev Elem (α:Type):=Heap→List Value→α→Prop
def Mono {α:Type} (E:Elem α):Prop:=∀ h h' cs x,ExtH h h'→E h cs x→E h' cs x
def eI64:Elem Int:=fun _ cs x=>cs=[.int .i64 x]∧I64 x
def eB:Elem Bool:=fun _ cs x=>cs=[.bool x]
def eStr:Elem ByteArray:=fun _ cs x=>cs=[.string x]
def CellsAt (h:Heap) (p:Addr) (cs:List Value):Prop:=∀ j u,cs[j]?=some u→hcell h (p.add j)=some u
def ElemAt {α:Type} (z:Nat) (E:Elem α) (h:Heap) (p:Addr) (x:α):Prop:=∃ cs,cs.length=z∧CellsAt h p cs∧E h cs x
def SlAt {α:Type} (z:Nat) (E:Elem α) (h:Heap) (v:Value) (xs:List α):Prop:=
 (v=.slice none 0 0∧xs=[])∨∃ a c,v=.slice (some a) xs.length c∧xs.length≤c∧∀ i x,xs[i]?=some x→ElemAt z E h (a.add (i*z)) x
def eSl {α:Type} (z:Nat) (E:Elem α):Elem (List α):=fun h cs xs=>∃ v,cs=[v]∧SlAt z E h v xs
theorem CellsAt.ext {h h':Heap} {p:Addr} {cs:List Value} (a:ExtH h h') (b:CellsAt h p cs):CellsAt h' p cs:=fun j u hu=>ZhV a (b j u hu)
theorem ElemAt.ext {α:Type} {z:Nat} {E:Elem α} (hE:Mono E) {h h':Heap} {p:Addr} {x:α} (a:ExtH h h') (he:ElemAt z E h p x):ElemAt z E h' p x:=by
 obtain ⟨cs,b,c,e⟩:=he;exact ⟨cs,b,c.ext a,hE _ _ _ _ a e⟩
theorem SlAt.ext {α:Type} {z:Nat} {E:Elem α} (hE:Mono E) {h h':Heap} {v:Value} {xs:List α} (b:ExtH h h') (hs:SlAt z E h v xs):SlAt z E h' v xs:=by
 rcases hs with hs|⟨a,c,e,f,g⟩
 ·exact .inl hs
 ·exact .inr ⟨a,c,e,f,fun i x hi=>(g i x hi).ext hE b⟩
theorem add_zero (p:Addr):p.add 0=p:=rfl
theorem ElemAt.i64 {h:Heap} {p:Addr} {x:Int} (he:ElemAt 1 eI64 h p x):hcell h p=some (.int .i64 x)∧I64 x:=by
 obtain ⟨cs,_,a,rfl,b⟩:=he;exact ⟨a 0 _ rfl,b⟩
theorem ElemAt.str {h:Heap} {p:Addr} {x:ByteArray} (he:ElemAt 1 eStr h p x):hcell h p=some (.string x):=by
 obtain ⟨cs,_,a,rfl⟩:=he;exact a 0 _ rfl
theorem ElemAt.bool {h:Heap} {p:Addr} {x:Bool} (he:ElemAt 1 eB h p x):hcell h p=some (.bool x):=by
 obtain ⟨cs,_,a,rfl⟩:=he;exact a 0 _ rfl
theorem ElemAt.sl {α:Type} {z:Nat} {E:Elem α} {h:Heap} {p:Addr} {xs:List α} (he:ElemAt 1 (eSl z E) h p xs):∃ v,hcell h p=some v∧SlAt z E h v xs:=by
 obtain ⟨cs,_,a,v,rfl,b⟩:=he;exact ⟨v,a 0 _ rfl,b⟩
theorem SlAt.one {α:Type} {z:Nat} {E:Elem α} {h:Heap} {v:Value} {xs:List α} (hs:SlAt z E h v xs):v.oneCell'=true:=by
 rcases hs with ⟨rfl,_⟩|⟨a,c,rfl,_⟩<;>rfl
theorem ZDH {b:Bool} {A B:Prop} (h:b=true) (ha:A):bif b then A else B:=by subst h;exact ha
theorem ZDz {b:Bool} {A B:Prop} (h:b=false) (a:B):bif b then A else B:=by subst h;exact a
theorem CallsQ.mono {q:Prop} {P:Program} {f:FuncId} {args:Array Value} {h:Heap} {R R':Value→Heap→Prop} (a:CallsQ q P f args h R) (hr:∀ v h',R v h'→R' v h'):CallsQ q P f args h R':=
 fun w hw=>(a w hw).mono fun _ _ ⟨v,b,c,e⟩=>⟨v,b,c,hr v _ e⟩
theorem CallsQ.weak {q:Prop} {P:Program} {f:FuncId} {args:Array Value} {h:Heap} {R:Value→Heap→Prop} (b:CallsQ q P f args h R):CallsH P f args h R:=
 fun w hw=>(b w hw).mono fun _ _ ⟨v,c,a,e⟩=>⟨v,c,⟨a.1,a.2.1,a.2.2.1,False.elim⟩,e⟩
theorem CallsH.mono {P:Program} {f:FuncId} {args:Array Value} {h:Heap} {R R':Value→Heap→Prop} (a:CallsH P f args h R) (hr:∀ v h',R v h'→R' v h'):CallsH P f args h R':=
 fun w hw=>(a w hw).mono fun _ _ ⟨v,b,c,e⟩=>⟨v,b,c,hr v _ e⟩
theorem CallsH.eq {P:Program} {f:FuncId} {args:Array Value} {h:Heap} {R:Value→Heap→Prop} {u:Value} (a:CallsH P f args h fun v h'=>v=u∧h'=h) (hr:R u h):CallsH P f args h R:=
 a.mono fun _ _ ⟨b,c⟩=>by subst b;subst c;exact hr
theorem ZcD {α:Type} {xs:List α} {k:Nat} (h:k<xs.length):∃ x,xs[k]?=some x:=⟨xs[k],by simp [h]⟩
theorem ZY {α:Type} {xs:List α} {k:Nat} {x:α} (h:xs[k]?=some x):k<xs.length:=by
 rcases Nat.lt_or_ge k xs.length with h'|h'
 ·exact h'
 ·rw [List.getElem?_eq_none h'] at h;cases h
def Agr {α:Type} (xs ys:List α) (k:Nat):Prop:=∀ j,j<k→xs[j]?=ys[j]?
theorem Agr.zero {α:Type} (xs ys:List α):Agr xs ys 0:=fun j h=>by omega
theorem Agr.succ {α:Type} {xs ys:List α} {k:Nat} (h:Agr xs ys k) (he:xs[k]?=ys[k]?):Agr xs ys (k+1):=fun j hj=>by
 by_cases hjk:j=k
 ·subst hjk;exact he
 ·exact h j (by omega)
theorem Agr.all {α:Type} {xs ys:List α} {k:Nat} (h:Agr xs ys k) (hk:xs.length≤k) (hl:xs.length=ys.length):xs=ys:=by
 apply List.ext_getElem?
 intro j
 by_cases hj:j<k
 ·exact h j hj
 ·rw [List.getElem?_eq_none (by omega),List.getElem?_eq_none (by omega)]
end Go.Vc
