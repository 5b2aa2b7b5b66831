import Derived.Test.YtahnjnfpjcfklaaGreatDoorVcTop
import Derived.Test.YtahnjnfpjcfklaaGreatDoorVcSt
import Derived.Deep.Slices
namespace Go.Vc
set_option linter.unusedVariables false
set_option linter.unusedSimpArgs false
open Go Go.ChangeShapes Go.WideShapes Go.ChangeAt
section
variable {H:Type} {enc:TypeId×Value->H} {P:Program}
def Reads {H:Type} (enc:TypeId×Value->H) (P:Program) {α:Type} (E:Elem α) (t:TypeId):Prop:=
 ∀ (W:World) (h:Nat) (e:Nat->Bool) (g:Bool) (fuel:Nat) (cs:List Value) (x:DataW H×List MemPlace),DataW.trod enc P W h e g fuel t cs=some x->∃ a,E W.heap cs a
theorem Zql {α:Type} [Inhabited α] {E:Elem α} {t e:TypeId} {z:Nat} (ht:P.underlying t=some (.slice e)) (hz:P.cellsOf e=z) (hE:Reads enc P E e):Reads enc P (eSlB z E) t:=by
 intro W a2 a3 a4 fuel cs x h;rcases DataW.trod_slice ht h with ⟨rfl,_⟩|⟨a,len,cap,elems,rest,n,_,rfl,_,_,hle,hcm,hlen,hel,_⟩
 ·exact ⟨[],_,rfl,.inl ⟨rfl,rfl⟩,by simp⟩
 ·rw [hz] at hel;obtain ⟨f,hf⟩:=Go.Deep.choose_lt (α:=α) (n:=len) (p:=fun i y=>ElemAt z E W.heap (a.add (i*z)) y) fun i hi=>by
   have h1:=hel i hi;obtain ⟨y,w⟩:=Za2 (xs:=elems) (k:=i) ω;rw [w] at h1;cases g:W.cells? a2 (a.add (i*z)) z with
   | none=>rw [g] at h1;cases h1
   | some c=>
    rw [g] at h1;obtain ⟨s,l,o⟩:=World.cells?_some g;obtain ⟨v,r⟩:=hE W a2 a3 a4 n c y h1;exact ⟨v,c,l,fun j u hu=>(o j (by have:=Z0 hu;omega)).trans hu,r⟩
  refine ⟨(List.range len).map f,_,rfl,.inr ⟨a,cap,by simp,by simpa using hle,fun i y w=>?_⟩,?_⟩
  ·have hi:i<len:=by have:=Z0 w;simpa using this
   rw [List.getElem?_map,List.getElem?_range hi] at w;cases w;exact hf i hi
  ·unfold maxLen at hcm;simp only [List.length_map,List.length_range];omega
theorem Zuu {e:TypeId} {t:TypeId} {W:World} {r:Reach} {w k:Nat} {j:Nat->Bool} {o:Bool} {v:Value} {d:DataW H} {ps:List MemPlace} {α:Type} {z:Nat} {E:Elem α} (ht:P.underlying t=some (.slice e)) (f:Value.okWide P W r w t v)
  (g:DataW.Trod enc P W k j o t v d ps) (hE:Reads enc P (eSlB z E) t):∃ a,SlB z E W.heap v a:=by
 obtain ⟨a,l,c,rfl⟩:=okWide_slice ht f;obtain ⟨fuel,hf⟩:=g;obtain ⟨x,u,h1,h⟩:=hE W k j o fuel _ _ hf;simp only [Value.cells,List.cons.injEq,and_true] at h1;subst h1;exact ⟨x,h⟩
end
end Go.Vc
