import Derived.Test.YtccncimchmimdaaGreatDoorVcTop
import Derived.Test.YtccncimchmimdaaGreatDoorVcSt
import Derived.Deep.Slices
namespace Go.Vc
set_option linter.unusedVariables false
set_option linter.unusedSimpArgs false
open Go Go.ChangeShapes Go.WideShapes Go.ChangeAt
section
variable {H:Type} {enc:TypeId×Value->H} {P:Program}
def Reads {H:Type} (enc:TypeId×Value->H) (P:Program) {α:Type} (E:Elem α) (t:TypeId):Prop:=
 ∀ (W:World) (e:Nat) (c:Nat->Bool) (g:Bool) (fuel:Nat) (cs:List Value) (x:DataW H×List MemPlace),DataW.trod enc P W e c g fuel t cs=some x->∃ a,E W.heap cs a
theorem Zu6 {t:TypeId} (g:P.underlying t=some (.int .i64)):Reads enc P eI64 t:=by
 intro W e c j fuel cs x h
 obtain ⟨n,rfl,_,a⟩:=DataW.trod_int g h
 simp only [Lit.wf,Bool.and_eq_true,decide_eq_true_eq] at a
 exact ⟨n,rfl,a.1,a.2⟩
theorem ZA5 {α:Type} [Inhabited α] {E:Elem α} {t e:TypeId} {z:Nat} (ht:P.underlying t=some (.slice e)) (hz:P.cellsOf e=z) (hE:Reads enc P E e):Reads enc P (eSlB z E) t:=by
 intro W a0 a1 a2 fuel cs x h
 rcases DataW.trod_slice ht h with ⟨rfl,_⟩|⟨a,len,cap,elems,rest,n,_,rfl,_,_,hle,hcm,hlen,hel,_⟩
 ·exact ⟨[],_,rfl,.inl ⟨rfl,rfl⟩,by simp⟩
 ·rw [hz] at hel
  obtain ⟨f,hf⟩:=Go.Deep.choose_lt (α:=α) (n:=len) (p:=fun i y=>ElemAt z E W.heap (a.add (i*z)) y) fun i hi=>by
   have b:=hel i hi
   obtain ⟨y,w⟩:=ZaV (xs:=elems) (k:=i) ω
   rw [w] at b
   cases g:W.cells? a0 (a.add (i*z)) z with
   | none=>rw [g] at b;cases b
   | some c=>
    rw [g] at b
    obtain ⟨s,l,o⟩:=World.cells?_some g
    obtain ⟨v,r⟩:=hE W a0 a1 a2 n c y b
    exact ⟨v,c,l,fun j u hu=>(o j (by have:=Z1 hu;omega)).trans hu,r⟩
  refine ⟨(List.range len).map f,_,rfl,.inr ⟨a,cap,by simp,by simpa using hle,fun i y w=>?_⟩,?_⟩
  ·have hi:i<len:=by have:=Z1 w;simpa using this
   rw [List.getElem?_map,List.getElem?_range hi] at w
   cases w
   exact hf i hi
  ·unfold maxLen at hcm
   simp only [List.length_map,List.length_range];omega
theorem Zsp {j:Array Field} {t:TypeId} {W:World} {g:Nat} {c:Nat->Bool} {e:Bool} {fuel:Nat} {cs:List Value} {x:DataW H×List MemPlace} (u:P.underlying t=some (.struct j)) (h:DataW.trod enc P W g c e fuel t cs=some x):
  cs.length=P.cellsOf t/\∀ (i:Nat) (f:Field) (α:Type) (E:Elem α),j[i]?=some f->Reads enc P E f.type->∃ a,E W.heap ((cs.drop f.offset).take (P.cellsOf f.type)) a:=by
 obtain ⟨xs,n,_,_,l,b,o⟩:=DataW.trod_struct u h
 refine ⟨l,fun i f α E hi w=>?_⟩
 obtain ⟨y,r⟩:=ZaV (xs:=xs) (k:=i) (by rw [b];rw [Array.getElem?_eq_some_iff] at hi;exact hi.1)
 exact w W g c e n _ y ((o i f hi).trans r)
def fldAt (P:Program) (t:TypeId) (i:Nat):Option (TypeId×Nat):=
 match P.underlying t with
 | some (.struct fs)=>(fs[i]?).map fun f=>(f.type,f.offset)
 | _=>none
theorem Zqq {t:TypeId} {i:Nat} {u:TypeId×Nat} (h:fldAt P t i=some u):∃ a f,P.underlying t=some (.struct a)/\a[i]?=some f/\f.type=u.1/\f.offset=u.2:=by
 unfold fldAt at h
 split at h
 ·rename_i a c
  cases hf:a[i]? with
  | none=>rw [hf] at h;cases h
  | some f=>rw [hf] at h;cases h;exact ⟨a,f,c,hf,rfl,rfl⟩
 ·cases h
theorem Znw {t:TypeId} {W:World} {g:Nat} {c:Nat->Bool} {e:Bool} {fuel:Nat} {cs:List Value} {x:DataW H×List MemPlace} (h:DataW.trod enc P W g c e fuel t cs=some x) (i:Nat) {t':TypeId} {off z:Nat} {α:Type} {E:Elem α}
  (k:fldAt P t i=some (t',off)) (hz:P.cellsOf t'=z) (o:Reads enc P E t'):∃ a,E W.heap ((cs.drop off).take z) a:=by
 obtain ⟨r,f,l,j,rfl,rfl⟩:=Zqq k
 subst hz
 exact (Zsp l h).2 i f α E j o
theorem Zyl {t:TypeId} {W:World} {e:Nat} {c:Nat->Bool} {g:Bool} {fuel:Nat} {cs:List Value} {x:DataW H×List MemPlace} (h:DataW.trod enc P W e c g fuel t cs=some x) {u:TypeId×Nat} {n:Nat} (j:fldAt P t 0=some u) (a:P.cellsOf t=n):cs.length=n:=by
 obtain ⟨l,f,k,j,_,_⟩:=Zqq j
 rw [<-a];exact (Zsp k h).1
theorem ZvJ {u:TypeId×Nat} {t:TypeId} {W:World} {r:Reach} {j e:Nat} {g:Nat->Bool} {h:Bool} {v:Value} {d:DataW H} {l:List MemPlace} {α:Type} {E:Elem α} (hs:fldAt P t 0=some u) (b:Value.okWide P W r j t v)
  (c:DataW.Trod enc P W e g h t v d l) (w:Reads enc P E t):∃ cs a,v=.agg (List.toArray cs)/\E W.heap cs a:=by
 obtain ⟨y,f,o,_⟩:=Zqq hs
 obtain ⟨cs,rfl,_⟩:=okWide_struct o b
 obtain ⟨fuel,k⟩:=c
 obtain ⟨a,x⟩:=w W e g h fuel _ _ k
 exact ⟨cs.toList,a,by simp,x⟩
theorem ZxL {t:TypeId} {W:World} {r:Reach} {k g:Nat} {h:Nat->Bool} {j:Bool} {v:Value} {d:DataW H} {u:List MemPlace} (l:P.underlying t=some (.int .i64)) (b:Value.okWide P W r k t v)
  (c:DataW.Trod enc P W g h j t v d u):∃ n,v=.int .i64 n/\I64 n:=by
 obtain ⟨n,rfl⟩:=okWide_int l b
 obtain ⟨fuel,o⟩:=c
 obtain ⟨x,a,e⟩:=Zu6 (enc:=enc) l W g h j fuel _ _ o
 simp only [Value.cells,List.cons.injEq,and_true,Value.int.injEq,true_and] at a
 subst a
 exact ⟨_,rfl,e⟩
end
end Go.Vc
