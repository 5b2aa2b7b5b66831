import Derived.Test.YtghbgeaammnkcaaGreatDoorVcTop
import Derived.Test.YtghbgeaammnkcaaGreatDoorVcSt
import Derived.Deep.Slices
namespace Go.Vc
set_option linter.unusedVariables false
set_option linter.unusedSimpArgs false
open Go Go.ChangeShapes Go.WideShapes Go.ChangeAt
section
variable {H:Type} {enc:TypeId×Value→H} {P:Program}
def Reads {H:Type} (enc:TypeId×Value→H) (P:Program) {α:Type} (E:Elem α) (t:TypeId):Prop:=
 ∀ (W:World) (base:Nat) (spare:Nat→Bool) (held:Bool) (fuel:Nat) (cs:List Value) (x:DataW H×List MemPlace),DataW.trod enc P W base spare held fuel t cs=some x→∃ a,E W.heap cs a
theorem ZAi {t:TypeId} (ht:P.underlying t=some (.int .i64)):Reads enc P eI64 t:=by
 intro W base spare held fuel cs x h
 obtain ⟨n,rfl,_,hw⟩:=DataW.trod_int ht h
 simp only [Lit.wf,Bool.and_eq_true,decide_eq_true_eq] at hw
 exact ⟨n,rfl,hw.1,hw.2⟩
theorem Zyc {α:Type} [Inhabited α] {E:Elem α} {t e:TypeId} {z:Nat} (ht:P.underlying t=some (.slice e)) (hz:P.cellsOf e=z) (hE:Reads enc P E e):Reads enc P (eSlB z E) t:=by
 intro W base spare held fuel cs x h
 rcases DataW.trod_slice ht h with ⟨rfl,_⟩|⟨a,len,cap,elems,rest,n,_,rfl,_,_,hle,hcm,hlen,hel,_⟩
 ·exact ⟨[],_,rfl,.inl ⟨rfl,rfl⟩,by simp⟩
 ·rw [hz] at hel
  obtain ⟨f,hf⟩:=Go.Deep.choose_lt (α:=α) (n:=len) (p:=fun i y=>ElemAt z E W.heap (a.add (i*z)) y) fun i hi=>by
   have b:=hel i hi
   obtain ⟨y,hy⟩:=ZcD (xs:=elems) (k:=i) (by omega)
   rw [hy] at b
   cases g:W.cells? base (a.add (i*z)) z with
   | none=>rw [g] at b;cases b
   | some c=>
    rw [g] at b
    obtain ⟨r,l,m⟩:=World.cells?_some g
    obtain ⟨v,o⟩:=hE W base spare held n c y b
    exact ⟨v,c,l,fun j u hu=>(m j (by have:=ZY hu;omega)).trans hu,o⟩
  refine ⟨(List.range len).map f,_,rfl,.inr ⟨a,cap,by simp,by simpa using hle,fun i y hy=>?_⟩,?_⟩
  ·have hi:i<len:=by have:=ZY hy;simpa using this
   rw [List.getElem?_map,List.getElem?_range hi] at hy
   cases hy
   exact hf i hi
  ·unfold maxLen at hcm
   simp only [List.length_map,List.length_range];omega
theorem Zr0 {fs:Array Field} {t:TypeId} {W:World} {base:Nat} {spare:Nat→Bool} {held:Bool} {fuel:Nat} {cs:List Value} {x:DataW H×List MemPlace} (ht:P.underlying t=some (.struct fs)) (h:DataW.trod enc P W base spare held fuel t cs=some x):
  cs.length=P.cellsOf t∧∀ (i:Nat) (f:Field) (α:Type) (E:Elem α),fs[i]?=some f→Reads enc P E f.type→∃ a,E W.heap ((cs.drop f.offset).take (P.cellsOf f.type)) a:=by
 obtain ⟨xs,n,_,_,hl,b,hf⟩:=DataW.trod_struct ht h
 refine ⟨hl,fun i f α E hi hE=>?_⟩
 obtain ⟨y,hy⟩:=ZcD (xs:=xs) (k:=i) (by rw [b];rw [Array.getElem?_eq_some_iff] at hi;exact hi.1)
 exact hE W base spare held n _ y ((hf i f hi).trans hy)
def fldAt (P:Program) (t:TypeId) (i:Nat):Option (TypeId×Nat):=
 match P.underlying t with
 | some (.struct fs)=>(fs[i]?).map fun f=>(f.type,f.offset)
 | _=>none
theorem Zoo {t:TypeId} {i:Nat} {u:TypeId×Nat} (h:fldAt P t i=some u):∃ fs f,P.underlying t=some (.struct fs)∧fs[i]?=some f∧f.type=u.1∧f.offset=u.2:=by
 unfold fldAt at h
 split at h
 ·rename_i fs hu
  cases hf:fs[i]? with
  | none=>rw [hf] at h;cases h
  | some f=>rw [hf] at h;cases h;exact ⟨fs,f,hu,hf,rfl,rfl⟩
 ·cases h
theorem Zqc {t:TypeId} {W:World} {base:Nat} {spare:Nat→Bool} {held:Bool} {fuel:Nat} {cs:List Value} {x:DataW H×List MemPlace} (h:DataW.trod enc P W base spare held fuel t cs=some x) (i:Nat) {t':TypeId} {off z:Nat} {α:Type} {E:Elem α}
  (hf:fldAt P t i=some (t',off)) (hz:P.cellsOf t'=z) (hE:Reads enc P E t'):∃ a,E W.heap ((cs.drop off).take z) a:=by
 obtain ⟨fs,f,hu,hg,rfl,rfl⟩:=Zoo hf
 subst hz
 exact (Zr0 hu h).2 i f α E hg hE
theorem ZFh {t:TypeId} {W:World} {base:Nat} {spare:Nat→Bool} {held:Bool} {fuel:Nat} {cs:List Value} {x:DataW H×List MemPlace} (h:DataW.trod enc P W base spare held fuel t cs=some x) {u:TypeId×Nat} {n:Nat} (hf:fldAt P t 0=some u) (a:P.cellsOf t=n):cs.length=n:=by
 obtain ⟨fs,f,hu,hf,_,_⟩:=Zoo hf
 rw [←a];exact (Zr0 hu h).1
theorem ZCi {u:TypeId×Nat} {t:TypeId} {W:World} {r:Reach} {base base':Nat} {spare:Nat→Bool} {held:Bool} {v:Value} {d:DataW H} {ps:List MemPlace} {α:Type} {E:Elem α} (hs:fldAt P t 0=some u) (b:Value.okWide P W r base t v)
  (c:DataW.Trod enc P W base' spare held t v d ps) (hE:Reads enc P E t):∃ cs a,v=.agg (List.toArray cs)∧E W.heap cs a:=by
 obtain ⟨fs,f,ht,_⟩:=Zoo hs
 obtain ⟨cs,rfl,_⟩:=okWide_struct ht b
 obtain ⟨fuel,hf⟩:=c
 obtain ⟨a,ha⟩:=hE W base' spare held fuel _ _ hf
 exact ⟨cs.toList,a,by simp,ha⟩
end
end Go.Vc
