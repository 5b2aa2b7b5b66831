import Derived.Test.YtepnljbkgjbbmaaGreatDoorVcTop
import Derived.Test.YtepnljbkgjbbmaaGreatDoorVcSt
import Derived.Deep.Slices
namespace Go.Vc
set_option linter.unusedVariables false
set_option linter.unusedSimpArgs false
open Go Go.ChangeShapes Go.WideShapes Go.ChangeAt
section
variable {H:Type} {enc:TypeId×Value->H} {P:Program}
def Reads {H:Type} (enc:TypeId×Value->H) (P:Program) {α:Type} (E:Elem α) (t:TypeId):Prop:=
 ∀ (W:World) (g:Nat) (e:Nat->Bool) (h:Bool) (fuel:Nat) (cs:List Value) (x:DataW H×List MemPlace),DataW.trod enc P W g e h fuel t cs=some x->∃ a,E W.heap cs a
theorem Zqw {t:TypeId} (g:P.underlying t=some (.int .i64)):Reads enc P eI64 t:=by
 intro W j e k fuel cs x h
 obtain ⟨n,rfl,_,a⟩:=DataW.trod_int g h
 simp only [Lit.wf,Bool.and_eq_true,decide_eq_true_eq] at a
 exact ⟨n,rfl,a.1,a.2⟩
theorem Zsu {t:TypeId} (e:P.underlying t=some .string):Reads enc P eStB t:=by
 intro W g a j fuel cs x h
 obtain ⟨s,rfl,_,hs⟩:=DataW.trod_string e h
 exact ⟨s,rfl,hs⟩
theorem ZFS {α:Type} [Inhabited α] {E:Elem α} {t e:TypeId} {z:Nat} (ht:P.underlying t=some (.slice e)) (hz:P.cellsOf e=z) (hE:Reads enc P E e):Reads enc P (eSlB z E) t:=by
 intro W w a1 a2 fuel cs x h
 rcases DataW.trod_slice ht h with ⟨rfl,_⟩|⟨a,len,cap,elems,rest,n,_,rfl,_,_,hle,hcm,hlen,hel,_⟩
 ·exact ⟨[],_,rfl,.inl ⟨rfl,rfl⟩,by simp⟩
 ·rw [hz] at hel
  obtain ⟨f,hf⟩:=Go.Deep.choose_lt (α:=α) (n:=len) (p:=fun i y=>ElemAt z E W.heap (a.add (i*z)) y) fun i hi=>by
   have h1:=hel i hi
   obtain ⟨y,hy⟩:=ZaC (xs:=elems) (k:=i) ω
   rw [hy] at h1
   cases g:W.cells? w (a.add (i*z)) z with
   | none=>rw [g] at h1;cases h1
   | some c=>
    rw [g] at h1
    obtain ⟨s,l,o⟩:=World.cells?_some g
    obtain ⟨v,r⟩:=hE W w a1 a2 n c y h1
    exact ⟨v,c,l,fun j u hu=>(o j (by have:=ZT hu;omega)).trans hu,r⟩
  refine ⟨(List.range len).map f,_,rfl,.inr ⟨a,cap,by simp,by simpa using hle,fun i y hy=>?_⟩,?_⟩
  ·have hi:i<len:=by have:=ZT hy;simpa using this
   rw [List.getElem?_map,List.getElem?_range hi] at hy
   cases hy
   exact hf i hi
  ·unfold maxLen at hcm
   simp only [List.length_map,List.length_range];omega
theorem Zqf {l:Array Field} {t:TypeId} {W:World} {g:Nat} {e:Nat->Bool} {j:Bool} {fuel:Nat} {cs:List Value} {x:DataW H×List MemPlace} (w:P.underlying t=some (.struct l)) (h:DataW.trod enc P W g e j fuel t cs=some x):
  cs.length=P.cellsOf t/\∀ (i:Nat) (f:Field) (α:Type) (E:Elem α),l[i]?=some f->Reads enc P E f.type->∃ a,E W.heap ((cs.drop f.offset).take (P.cellsOf f.type)) a:=by
 obtain ⟨xs,n,_,_,r,c,hf⟩:=DataW.trod_struct w h
 refine ⟨r,fun i f α E hi o=>?_⟩
 obtain ⟨y,u⟩:=ZaC (xs:=xs) (k:=i) (by rw [c];rw [Array.getElem?_eq_some_iff] at hi;exact hi.1)
 exact o W g e j n _ y ((hf i f hi).trans u)
def fldAt (P:Program) (t:TypeId) (i:Nat):Option (TypeId×Nat):=
 match P.underlying t with
 | some (.struct fs)=>(fs[i]?).map fun f=>(f.type,f.offset)
 | _=>none
theorem ZnL {t:TypeId} {i:Nat} {u:TypeId×Nat} (h:fldAt P t i=some u):∃ a f,P.underlying t=some (.struct a)/\a[i]?=some f/\f.type=u.1/\f.offset=u.2:=by
 unfold fldAt at h
 split at h
 ·rename_i a e
  cases hf:a[i]? with
  | none=>rw [hf] at h;cases h
  | some f=>rw [hf] at h;cases h;exact ⟨a,f,e,hf,rfl,rfl⟩
 ·cases h
theorem Zd5 {t:TypeId} {W:World} {g:Nat} {e:Nat->Bool} {j:Bool} {fuel:Nat} {cs:List Value} {x:DataW H×List MemPlace} (h:DataW.trod enc P W g e j fuel t cs=some x) (i:Nat) {t':TypeId} {off z:Nat} {α:Type} {E:Elem α}
  (r:fldAt P t i=some (t',off)) (hz:P.cellsOf t'=z) (k:Reads enc P E t'):∃ a,E W.heap ((cs.drop off).take z) a:=by
 obtain ⟨u,f,o,l,rfl,rfl⟩:=ZnL r
 subst hz
 exact (Zqf o h).2 i f α E l k
theorem Zob {t:TypeId} {W:World} {g:Nat} {e:Nat->Bool} {j:Bool} {fuel:Nat} {cs:List Value} {x:DataW H×List MemPlace} (h:DataW.trod enc P W g e j fuel t cs=some x) {u:TypeId×Nat} {n:Nat} (k:fldAt P t 0=some u) (a:P.cellsOf t=n):cs.length=n:=by
 obtain ⟨o,f,l,k,_,_⟩:=ZnL k
 rw [<-a];exact (Zqf l h).1
theorem Zvj {u:TypeId×Nat} {t:TypeId} {W:World} {r:Reach} {k g:Nat} {h:Nat->Bool} {j:Bool} {v:Value} {d:DataW H} {o:List MemPlace} {α:Type} {E:Elem α} (hs:fldAt P t 0=some u) (c:Value.okWide P W r k t v)
  (e:DataW.Trod enc P W g h j t v d o) (l:Reads enc P E t):∃ cs a,v=.agg (List.toArray cs)/\E W.heap cs a:=by
 obtain ⟨fs,f,x,_⟩:=ZnL hs
 obtain ⟨cs,rfl,_⟩:=okWide_struct x c
 obtain ⟨fuel,y⟩:=e
 obtain ⟨a,w⟩:=l W g h j fuel _ _ y
 exact ⟨cs.toList,a,by simp,w⟩
theorem ZC8 {t:TypeId} {W:World} {r:Reach} {k g:Nat} {h:Nat->Bool} {j:Bool} {v:Value} {d:DataW H} {o:List MemPlace} (l:P.underlying t=some (.int .i64)) (a:Value.okWide P W r k t v)
  (c:DataW.Trod enc P W g h j t v d o):∃ n,v=.int .i64 n/\I64 n:=by
 obtain ⟨n,rfl⟩:=okWide_int l a
 obtain ⟨fuel,u⟩:=c
 obtain ⟨x,h1,e⟩:=Zqw (enc:=enc) l W g h j fuel _ _ u
 simp only [Value.cells,List.cons.injEq,and_true,Value.int.injEq,true_and] at h1
 subst h1
 exact ⟨_,rfl,e⟩
theorem Zzt {t:TypeId} {W:World} {r:Reach} {k g:Nat} {h:Nat->Bool} {j:Bool} {v:Value} {d:DataW H} {o:List MemPlace} (l:P.underlying t=some .string) (a:Value.okWide P W r k t v)
  (c:DataW.Trod enc P W g h j t v d o):∃ s:ByteArray,v=.string s/\s.size<=9223372036854775807:=by
 obtain ⟨n,rfl⟩:=okWide_string l a
 obtain ⟨fuel,u⟩:=c
 obtain ⟨x,h1,e⟩:=Zsu (enc:=enc) l W g h j fuel _ _ u
 simp only [Value.cells,List.cons.injEq,and_true,Value.string.injEq] at h1
 subst h1
 exact ⟨_,rfl,e⟩
end
end Go.Vc
