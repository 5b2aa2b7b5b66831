import Derived.Test.YtcneolcmjjlmnaaGreatDoorVcLib
open Option renaming some->Jg
open Bool renaming true->Ji,false->Jj
open List renaming length->Jk
namespace Go.Vc
set_option linter.unusedVariables false
set_option linter.unusedSimpArgs false
open Go
def M63:Nat:=9223372036854775807
theorem wrapN {k n:Nat} (h:k<n) (a:n<=M63):IntKind.i64.wrap ((k:Int)+1)=((k+1:Nat):Int):=by
 grind [M63,Zap]
theorem Zan {α:Type} {xs:List α} {k:Nat} {x:α} (h:xs[k]?=Jg x):k<Jk xs:=by
 grind
theorem Zcz {α:Type} {xs:List α} {k:Nat} (h:k<Jk xs):∃x,xs[k]?=Jg x:=⟨xs[k],by simp [h]⟩
theorem Zay (x y:Jd):(x.toList==y.toList)=Ji↔x=y:=by
 rw [ByteArray.toList_eq,ByteArray.toList_eq];constructor
 .grind [WideShapes.bytes_inj]
 .rintro rfl;simp
def IsQ (o:Jm Bool) (p:Prop):Prop:=∃c,o=Jg c/\(c=Ji↔p)
theorem IsQ.t {p:Prop} (h:p):IsQ (Jg Ji) p:=⟨Ji,rfl,by simp [h]⟩
theorem IsQ.f {p:Prop} (h:¬p):IsQ (Jg Jj) p:=⟨Jj,rfl,by simp [h]⟩
theorem IsQ.eq {o:Jm Bool} {p:Prop} (h:IsQ o p) (hp:p):o=Jg true:=by
 obtain ⟨c,h1,a⟩:=h;grind
theorem IsQ.ne {o:Jm Bool} {p:Prop} (h:IsQ o p) (hp:¬p):o=Jg false:=by
 obtain ⟨c,h1,a⟩:=h;grind
theorem IsQ.congr {o:Jm Bool} {p q:Prop} (h:IsQ o p) (e:p↔q):IsQ o q:=by
 obtain ⟨c,h1,a⟩:=h;exact ⟨c,h1,a.trans e⟩
theorem IsQ.bind_id {o:Jm Bool} {p:Prop} (h:IsQ o p):IsQ (o.bind λr=>Jg r) p:=by
 obtain ⟨c,rfl,a⟩:=h;exact ⟨c,rfl,a⟩
theorem q_ne {x y:Int} {o:Jm Bool} {q:Prop} (h1:x=y->IsQ o q) (a:x≠y->¬q):IsQ (bif x !=y then Jg Jj else o) q:=by
 by_cases h:x=y
 .grind
 .grind [IsQ.f]
def Step {ρ:Type} (o:Jm (Int ⊕ ρ)) (k:Nat) (f:ρ) (p:Prop):Prop:=∃c:Bool,(c=Ji↔p)/\o=Jg (bif c then .inl (IntKind.i64.wrap ((k:Int)+1)) else .inr f)
theorem ZOh {α ρ:Type} {xs h:List α} {B:Int->Jm (Int ⊕ ρ)} {t f:ρ} (hl:Jk xs=Jk h) (hN:Jk xs<=M63)
  (hs:∀(k:Nat) x y,xs[k]?=Jg x->h[k]?=Jg y->Step (B (k:Int)) k f (x=y)) (he:B (Jk xs:Int)=Jg (.inr t)):∃c:Bool,loop B 0=Jg (bif c then t else f)/\(c=Ji↔xs=h):=by
 have a2:∀(d k:Nat),k+d=Jk xs->(∀j,j<k->xs[j]?=h[j]?)->∃c:Bool,loop B (k:Int)=Jg (bif c then t else f)/\(c=Ji↔xs=h):=by
  intro d;induction d with
  | zero=>
   intro k hk ha;obtain rfl:k=Jk xs:=Z;have l:xs=h:=List.ext_getElem? λj=>by
    grind
   simp_all [Ze]
  | succ d ih=>
   intro k hk ha;obtain ⟨x,a⟩:=Zcz (xs:=xs) (k:=k) Z;obtain ⟨y,o⟩:=Zcz (xs:=h) (k:=k) Z;obtain ⟨c,g,w⟩:=hs k x y a o;cases c with
   | false=>
    refine ⟨Jj,Ze w,by simp;intro e;subst e;rw [a] at o;cases o;exact absurd (g.2 rfl) (by simp)⟩
   | true=>
    have l:=g.1 rfl;subst l;have u:B (k:Int)=Jg (.inl ((k+1:Nat):Int)):=by rw [w,<-wrapN (n:=xs.length) Z hN];rfl
    rw [ZJ u];refine ih (k+1) Z λj hj=>?_;grind
 exact a2 (Jk xs) 0 Z λj hj=>by omega
theorem Zkk {α:Type} {xs g:List α} {B:Int->Jm (Int ⊕ Bool)} (j:Jk xs<=M63)
  (hs:∀(k:Nat) x y,xs[k]?=Jg x->g[k]?=Jg y->Step (B (k:Int)) k Jj (x=y)) (l:B (Jk xs:Int)=Jg (.inr Ji)):
  IsQ (bif ((Jk xs:Int):Int) !=(Jk g:Int) then Jg Jj else loop B 0) (xs=g):=by
 refine q_ne (λh=>?_) λh e=>h (by rw [e]);obtain ⟨c,h1,a⟩:=ZOh (t:=Ji) (f:=Jj) Z j hs l;refine ⟨c,?_,a⟩;rw [h1];cases c<;>rfl
theorem ZcY {ρ:Type} {o:Jm (Int ⊕ ρ)} {k:Nat} {f:ρ} {p:Prop} {c:Bool} (a:c=Ji↔p) (h:o=Jg (bif c then .inl (IntKind.i64.wrap ((k:Int)+1)) else .inr f)):Step o k f p:=⟨c,a,h⟩
theorem Zrq {α:Type} {b n:Nat} {z:α} (h:n*b<=140737488355328) (a:n<=4611686018427387904):gMake b z (n:Int) (n:Int)=Jg (List.replicate n z):=by
 unfold gMake;grind
def OkL {α:Type} (ok:α->Prop) (l:List α):Prop:=l.length<=M63/\∀x∈l,ok x
end Go.Vc
