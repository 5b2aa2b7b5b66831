import Derived.Test.YtmmbnjijjdakmaaGreatDoorPuBase
import Derived.Test.YtmmbnjijjdakmaaGreatDoorVcLib
namespace Go.Vc
set_option linter.unusedVariables false
set_option linter.unusedSimpArgs false
open Go
def M63:Nat:=9223372036854775807
theorem wrapN {k n:Nat} (h:k<n) (hn:n≤M63):IntKind.i64.wrap ((k:Int)+1)=((k+1:Nat):Int):=by
 unfold M63 at hn
 rw [Zak (by omega) (by omega)];omega
theorem Z5 {α:Type} {xs:List α} {k:Nat} {x:α} (h:xs[k]?=some x):k<xs.length:=by
 rcases Nat.lt_or_ge k xs.length with h'|h'
 ·exact h'
 ·rw [List.getElem?_eq_none h'] at h;cases h
theorem Zb6 {α:Type} {xs:List α} {k:Nat} (h:k<xs.length):∃ x,xs[k]?=some x:=⟨xs[k],by simp [h]⟩
theorem Zir {α:Type} {xs:List α} {k:Nat} {x:α} (h:xs[k]?=some x):gIdx xs (k:Int)=some x:=by
 unfold gIdx;rw [if_pos (by omega),Int.toNat_natCast,h]
theorem lt_t {α:Type} {xs:List α} {k:Nat} (h:k<xs.length):decide ((k:Int)<(xs.length:Int))=true:=by simpa using h
theorem lt_f {α:Type} {xs:List α}:decide ((xs.length:Int)<(xs.length:Int))=false:=by simp
theorem ZY (x y:ByteArray):(x.toList==y.toList)=true↔x=y:=by
 rw [ByteArray.toList_eq,ByteArray.toList_eq]
 constructor
 ·intro h
  have h':x.data.toList=y.data.toList:=by simpa using h
  exact WideShapes.bytes_inj h'
 ·rintro rfl;simp
def IsQ (o:Option Bool) (p:Prop):Prop:=∃ c,o=some c∧(c=true↔p)
theorem IsQ.t {p:Prop} (h:p):IsQ (some true) p:=⟨true,rfl,by simp [h]⟩
theorem IsQ.f {p:Prop} (h:¬ p):IsQ (some false) p:=⟨false,rfl,by simp [h]⟩
theorem IsQ.eq {o:Option Bool} {p:Prop} (h:IsQ o p) (hp:p):o=some true:=by
 obtain ⟨c,h1,h2⟩:=h;rw [h1,h2.2 hp]
theorem IsQ.ne {o:Option Bool} {p:Prop} (h:IsQ o p) (hp:¬ p):o=some false:=by
 obtain ⟨c,h1,h2⟩:=h
 cases c with
 | false=>exact h1
 | true=>exact absurd (h2.1 rfl) hp
theorem IsQ.congr {o:Option Bool} {p q:Prop} (h:IsQ o p) (hpq:p↔q):IsQ o q:=by
 obtain ⟨c,h1,h2⟩:=h;exact ⟨c,h1,h2.trans hpq⟩
theorem IsQ.bind_id {o:Option Bool} {p:Prop} (h:IsQ o p):IsQ (o.bind fun r=>some r) p:=by
 obtain ⟨c,rfl,h2⟩:=h;exact ⟨c,rfl,h2⟩
theorem q_ne {x y:Int} {o:Option Bool} {q:Prop} (h1:x=y→IsQ o q) (h2:x≠y→¬ q):IsQ (bif x !=y then some false else o) q:=by
 by_cases h:x=y
 ·subst h;have:(x !=x)=false:=by simp
  rw [this];exact h1 rfl
 ·have:(x !=y)=true:=by simpa using h
  rw [this];exact IsQ.f (h2 h)
def Step {ρ:Type} (o:Option (Int ⊕ ρ)) (k:Nat) (f:ρ) (p:Prop):Prop:=∃ c:Bool,(c=true↔p)∧o=some (bif c then .inl (IntKind.i64.wrap ((k:Int)+1)) else .inr f)
theorem Zya {α ρ:Type} {xs ys:List α} {B:Int→Option (Int ⊕ ρ)} {t f:ρ} (hl:xs.length=ys.length) (hN:xs.length≤M63)
  (hs:∀ (k:Nat) x y,xs[k]?=some x→ys[k]?=some y→Step (B (k:Int)) k f (x=y)) (he:B (xs.length:Int)=some (.inr t)):∃ c:Bool,loop B 0=some (bif c then t else f)∧(c=true↔xs=ys):=by
 have key:∀ (d k:Nat),k+d=xs.length→(∀ j,j<k→xs[j]?=ys[j]?)→∃ c:Bool,loop B (k:Int)=some (bif c then t else f)∧(c=true↔xs=ys):=by
  intro d
  induction d with
  | zero=>
   intro k hk ha
   obtain rfl:k=xs.length:=by omega
   have hxy:xs=ys:=List.ext_getElem? fun j=>by
    by_cases hj:j<xs.length
    ·exact ha j hj
    ·rw [List.getElem?_eq_none (by omega),List.getElem?_eq_none (by omega)]
   exact ⟨true,Zc he,by simp [hxy]⟩
  | succ d ih=>
   intro k hk ha
   obtain ⟨x,hx⟩:=Zb6 (xs:=xs) (k:=k) (by omega)
   obtain ⟨y,hy⟩:=Zb6 (xs:=ys) (k:=k) (by omega)
   obtain ⟨c,hc,hB⟩:=hs k x y hx hy
   cases c with
   | false=>
    refine ⟨false,Zc hB,by simp;intro e;subst e;rw [hx] at hy;cases hy;exact absurd (hc.2 rfl) (by simp)⟩
   | true=>
    have hxy:=hc.1 rfl
    subst hxy
    have hB':B (k:Int)=some (.inl ((k+1:Nat):Int)):=by rw [hB,←wrapN (n:=xs.length) (by omega) hN];rfl
    rw [ZI hB']
    refine ih (k+1) (by omega) fun j hj=>?_
    by_cases hjk:j=k
    ·subst hjk;rw [hx,hy]
    ·exact ha j (by omega)
 exact key xs.length 0 (by omega) fun j hj=>by omega
theorem ZfM {α:Type} {xs ys:List α} {B:Int→Option (Int ⊕ Bool)} (hN:xs.length≤M63)
  (hs:∀ (k:Nat) x y,xs[k]?=some x→ys[k]?=some y→Step (B (k:Int)) k false (x=y)) (he:B (xs.length:Int)=some (.inr true)):
  IsQ (bif ((xs.length:Int):Int) !=(ys.length:Int) then some false else loop B 0) (xs=ys):=by
 refine q_ne (fun h=>?_) fun h e=>h (by rw [e])
 obtain ⟨c,h1,h2⟩:=Zya (t:=true) (f:=false) (by omega) hN hs he
 refine ⟨c,?_,h2⟩
 rw [h1];cases c<;>rfl
theorem Zb0 {ρ:Type} {o:Option (Int ⊕ ρ)} {k:Nat} {f:ρ} {p:Prop} {c:Bool} (hc:c=true↔p) (h:o=some (bif c then .inl (IntKind.i64.wrap ((k:Int)+1)) else .inr f)):Step o k f p:=⟨c,hc,h⟩
theorem ZnS {α:Type} {b n:Nat} {z:α} (h:n*b≤140737488355328) (h2:n≤4611686018427387904):gMake b z (n:Int) (n:Int)=some (List.replicate n z):=by
 unfold gMake
 have h':((n*b:Nat):Int)≤140737488355328:=by omega
 rw [Int.natCast_mul] at h'
 rw [if_pos ⟨by omega,by omega,h',by omega⟩,Int.toNat_natCast]
def OkS (s:ByteArray):Prop:=s.size≤M63
def OkL {α:Type} (ok:α→Prop) (l:List α):Prop:=l.length≤M63∧∀ x∈l,ok x
end Go.Vc
