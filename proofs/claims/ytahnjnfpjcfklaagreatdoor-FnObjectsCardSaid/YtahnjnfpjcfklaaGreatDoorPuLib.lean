import Derived.Test.YtahnjnfpjcfklaaGreatDoorPuBase
import Derived.Test.YtahnjnfpjcfklaaGreatDoorVcLib
namespace Go.Vc
set_option linter.unusedVariables false
set_option linter.unusedSimpArgs false
open Go
def M63:Nat:=9223372036854775807
theorem wrapN {k n:Nat} (h:k<n) (a:n<=M63):IntKind.i64.wrap ((k:Int)+1)=((k+1:Nat):Int):=by
 unfold M63 at a;rw [Zbd ω ω];omega
theorem Zao {α:Type} {xs:List α} {k:Nat} {x:α} (h:xs[k]?=some x):k<xs.length:=by
 rcases Nat.lt_or_ge k xs.length with h'|h'
 ·exact h'
 ·rw [List.getElem?_eq_none h'] at h;cases h
theorem ZbQ {α:Type} {xs:List α} {k:Nat} (h:k<xs.length):∃ x,xs[k]?=some x:=⟨xs[k],by simp [h]⟩
theorem Zbr (x y:ByteArray):(x.toList==y.toList)=true↔x=y:=by
 rw [ByteArray.toList_eq,ByteArray.toList_eq];constructor
 ·intro h;have a:x.data.toList=y.data.toList:=by simpa using h
  exact WideShapes.bytes_inj a
 ·rintro rfl;simp
def IsQ (o:Option Bool) (p:Prop):Prop:=∃ c,o=some c/\(c=true↔p)
theorem IsQ.t {p:Prop} (h:p):IsQ (some true) p:=⟨true,rfl,by simp [h]⟩
theorem IsQ.f {p:Prop} (h:¬ p):IsQ (some false) p:=⟨false,rfl,by simp [h]⟩
theorem IsQ.eq {o:Option Bool} {p:Prop} (h:IsQ o p) (hp:p):o=some true:=by
 obtain ⟨c,h1,a⟩:=h;rw [h1,a.2 hp]
theorem IsQ.ne {o:Option Bool} {p:Prop} (h:IsQ o p) (hp:¬ p):o=some false:=by
 obtain ⟨c,h1,a⟩:=h;cases c with
 | false=>exact h1
 | true=>exact absurd (a.1 rfl) hp
theorem IsQ.congr {o:Option Bool} {p q:Prop} (h:IsQ o p) (e:p↔q):IsQ o q:=by
 obtain ⟨c,h1,a⟩:=h;exact ⟨c,h1,a.trans e⟩
theorem IsQ.bind_id {o:Option Bool} {p:Prop} (h:IsQ o p):IsQ (o.bind fun r=>some r) p:=by
 obtain ⟨c,rfl,a⟩:=h;exact ⟨c,rfl,a⟩
theorem q_ne {x y:Int} {o:Option Bool} {q:Prop} (h1:x=y->IsQ o q) (a:x≠y->¬ q):IsQ (bif x !=y then some false else o) q:=by
 by_cases h:x=y
 ·subst h;have:(x !=x)=false:=by simp
  rw [this];exact h1 rfl
 ·have:(x !=y)=true:=by simpa using h
  rw [this];exact IsQ.f (a h)
def Step {ρ:Type} (o:Option (Int ⊕ ρ)) (k:Nat) (f:ρ) (p:Prop):Prop:=∃ c:Bool,(c=true↔p)/\o=some (bif c then .inl (IntKind.i64.wrap ((k:Int)+1)) else .inr f)
theorem ZBS {α ρ:Type} {xs h:List α} {B:Int->Option (Int ⊕ ρ)} {t f:ρ} (hl:xs.length=h.length) (hN:xs.length<=M63)
  (hs:∀ (k:Nat) x y,xs[k]?=some x->h[k]?=some y->Step (B (k:Int)) k f (x=y)) (he:B (xs.length:Int)=some (.inr t)):∃ c:Bool,loop B 0=some (bif c then t else f)/\(c=true↔xs=h):=by
 have a2:∀ (d k:Nat),k+d=xs.length->(∀ j,j<k->xs[j]?=h[j]?)->∃ c:Bool,loop B (k:Int)=some (bif c then t else f)/\(c=true↔xs=h):=by
  intro d;induction d with
  | zero=>
   intro k hk u;obtain rfl:k=xs.length:=ω;have l:xs=h:=List.ext_getElem? fun j=>by
    by_cases r:j<xs.length
    ·exact u j r
    ·rw [List.getElem?_eq_none ω,List.getElem?_eq_none ω]
   exact ⟨true,Ze he,by simp [l]⟩
  | succ d ih=>
   intro k hk u;obtain ⟨x,a⟩:=ZbQ (xs:=xs) (k:=k) ω;obtain ⟨y,o⟩:=ZbQ (xs:=h) (k:=k) ω;obtain ⟨c,g,hB⟩:=hs k x y a o;cases c with
   | false=>
    refine ⟨false,Ze hB,by simp;intro e;subst e;rw [a] at o;cases o;exact absurd (g.2 rfl) (by simp)⟩
   | true=>
    have l:=g.1 rfl;subst l;have w:B (k:Int)=some (.inl ((k+1:Nat):Int)):=by rw [hB,<-wrapN (n:=xs.length) ω hN];rfl
    rw [ZO w];refine ih (k+1) ω fun j r=>?_;by_cases a4:j=k
    ·subst a4;rw [a,o]
    ·exact u j ω
 exact a2 xs.length 0 ω fun j r=>by omega
theorem ZhI {α:Type} {xs g:List α} {B:Int->Option (Int ⊕ Bool)} (j:xs.length<=M63)
  (hs:∀ (k:Nat) x y,xs[k]?=some x->g[k]?=some y->Step (B (k:Int)) k false (x=y)) (l:B (xs.length:Int)=some (.inr true)):
  IsQ (bif ((xs.length:Int):Int) !=(g.length:Int) then some false else loop B 0) (xs=g):=by
 refine q_ne (fun h=>?_) fun h e=>h (by rw [e]);obtain ⟨c,h1,a⟩:=ZBS (t:=true) (f:=false) ω j hs l;refine ⟨c,?_,a⟩;rw [h1];cases c<;>rfl
theorem ZcG {ρ:Type} {o:Option (Int ⊕ ρ)} {k:Nat} {f:ρ} {p:Prop} {c:Bool} (a:c=true↔p) (h:o=some (bif c then .inl (IntKind.i64.wrap ((k:Int)+1)) else .inr f)):Step o k f p:=⟨c,a,h⟩
theorem ZmQ {α:Type} {b n:Nat} {z:α} (h:n*b<=140737488355328) (a:n<=4611686018427387904):gMake b z (n:Int) (n:Int)=some (List.replicate n z):=by
 unfold gMake;have e:((n*b:Nat):Int)<=140737488355328:=ω;rw [Int.natCast_mul] at e;rw [if_pos ⟨by omega,by omega,e,by omega⟩,Int.toNat_natCast]
def OkL {α:Type} (ok:α->Prop) (l:List α):Prop:=l.length<=M63/\∀ x∈l,ok x
end Go.Vc
