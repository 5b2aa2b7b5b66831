import Derived.Test.YtepnljbkgjbbmaaGreatDoorPuBase
import Derived.Test.YtepnljbkgjbbmaaGreatDoorVcLib
open Go.IntKind renaming i64->ε
namespace Go.Vc
set_option linter.unusedVariables false
set_option linter.unusedSimpArgs false
open Go
def M63:Nat:=9223372036854775807
theorem wrapN {k n:Nat} (h:k<n) (a:n<=M63):ε.wrap ((k:Int)+1)=((k+1:Nat):Int):=by
 unfold M63 at a
 rw [Zaj ω ω];omega
theorem ZY {α:Type} {xs:List α} {k:Nat} {x:α} (h:xs[k]?=some x):k<xs.length:=by
 rcases Nat.lt_or_ge k xs.length with h'|h'
 ·exact h'
 ·rw [List.getElem?_eq_none h'] at h;cases h
theorem Zbf {α:Type} {xs:List α} {k:Nat} (h:k<xs.length):∃ x,xs[k]?=some x:=⟨xs[k],by simp [h]⟩
theorem Zav {α:Type} {xs:List α} {k:Nat} {x:α} (h:xs[k]?=some x):gIdx xs (k:Int)=some x:=by
 unfold gIdx;rw [if_pos ω,Int.toNat_natCast,h]
theorem lt_t {α:Type} {xs:List α} {k:Nat} (h:k<xs.length):decide ((k:Int)<(xs.length:Int))=true:=by simpa using h
theorem lt_f {α:Type} {xs:List α}:decide ((xs.length:Int)<(xs.length:Int))=false:=by simp
theorem Zbw (x y:ByteArray):(x.toList==y.toList)=true↔x=y:=by
 rw [ByteArray.toList_eq,ByteArray.toList_eq]
 constructor
 ·intro h
  have a:x.data.toList=y.data.toList:=by simpa using h
  exact WideShapes.bytes_inj a
 ·rintro rfl;simp
def IsQ (o:Option Bool) (p:Prop):Prop:=∃ c,o=some c/\(c=true↔p)
theorem IsQ.t {p:Prop} (h:p):IsQ (some true) p:=⟨true,rfl,by simp [h]⟩
theorem IsQ.f {p:Prop} (h:¬ p):IsQ (some false) p:=⟨false,rfl,by simp [h]⟩
theorem IsQ.eq {o:Option Bool} {p:Prop} (h:IsQ o p) (hp:p):o=some true:=by
 obtain ⟨c,h1,a⟩:=h;rw [h1,a.2 hp]
theorem IsQ.ne {o:Option Bool} {p:Prop} (h:IsQ o p) (hp:¬ p):o=some false:=by
 obtain ⟨c,h1,a⟩:=h
 cases c with
 | false=>exact h1
 | true=>exact absurd (a.1 rfl) hp
theorem IsQ.congr {o:Option Bool} {p q:Prop} (h:IsQ o p) (e:p↔q):IsQ o q:=by
 obtain ⟨c,h1,a⟩:=h;exact ⟨c,h1,a.trans e⟩
theorem IsQ.bind_id {o:Option Bool} {p:Prop} (h:IsQ o p):IsQ (o.bind fun r=>some r) p:=by
 obtain ⟨c,rfl,a⟩:=h;exact ⟨c,rfl,a⟩
theorem q_ne {x y:Int} {o:Option Bool} {q:Prop} (h1:x=y->IsQ o q) (a:x≠y->¬ q):IsQ (bif x !=y then some false else o) q:=by
 by_cases h:x=y
 ·subst h;have:(x !=x)=false:=by simp
  rw [this];exact h1 rfl
 ·have:(x !=y)=true:=by simpa using h
  rw [this];exact IsQ.f (a h)
theorem Zq9 {x y:ByteArray} {o:Option Bool} {q:Prop} (h1:x=y->IsQ o q) (a:x≠y->¬ q):IsQ (bif !(x.toList==y.toList) then some false else o) q:=by
 by_cases h:x=y
 ·rw [(Zbw x y).2 h];exact h1 h
 ·have:(x.toList==y.toList)=false:=by
   cases c:(x.toList==y.toList) with
   | false=>rfl
   | true=>exact absurd ((Zbw x y).1 c) h
  rw [this];exact IsQ.f (a h)
theorem q_sub {a:Option Bool} {o:Option Bool} {p q:Prop} (e:IsQ a p) (h1:p->IsQ o q) (c:¬ p->¬ q):IsQ (a.bind fun r=>bif !r then some false else o) q:=by
 by_cases h:p
 ·rw [e.eq h];exact h1 h
 ·rw [e.ne h];exact IsQ.f (c h)
def Step {ρ:Type} (o:Option (Int ⊕ ρ)) (k:Nat) (f:ρ) (p:Prop):Prop:=∃ c:Bool,(c=true↔p)/\o=some (bif c then .inl (ε.wrap ((k:Int)+1)) else .inr f)
theorem ZBF {α ρ:Type} {xs h:List α} {B:Int->Option (Int ⊕ ρ)} {t f:ρ} (hl:xs.length=h.length) (hN:xs.length<=M63)
  (hs:∀ (k:Nat) x y,xs[k]?=some x->h[k]?=some y->Step (B (k:Int)) k f (x=y)) (he:B (xs.length:Int)=some (.inr t)):∃ c:Bool,loop B 0=some (bif c then t else f)/\(c=true↔xs=h):=by
 have a1:∀ (d k:Nat),k+d=xs.length->(∀ j,j<k->xs[j]?=h[j]?)->∃ c:Bool,loop B (k:Int)=some (bif c then t else f)/\(c=true↔xs=h):=by
  intro d
  induction d with
  | zero=>
   intro k hk r
   obtain rfl:k=xs.length:=ω
   have l:xs=h:=List.ext_getElem? fun j=>by
    by_cases u:j<xs.length
    ·exact r j u
    ·rw [List.getElem?_eq_none ω,List.getElem?_eq_none ω]
   exact ⟨true,Zc he,by simp [l]⟩
  | succ d ih=>
   intro k hk r
   obtain ⟨x,a⟩:=Zbf (xs:=xs) (k:=k) ω
   obtain ⟨y,o⟩:=Zbf (xs:=h) (k:=k) ω
   obtain ⟨c,g,hB⟩:=hs k x y a o
   cases c with
   | false=>
    refine ⟨false,Zc hB,by simp;intro e;subst e;rw [a] at o;cases o;exact absurd (g.2 rfl) (by simp)⟩
   | true=>
    have l:=g.1 rfl
    subst l
    have a0:B (k:Int)=some (.inl ((k+1:Nat):Int)):=by rw [hB,<-wrapN (n:=xs.length) ω hN];rfl
    rw [Zv a0]
    refine ih (k+1) ω fun j u=>?_
    by_cases w:j=k
    ·subst w;rw [a,o]
    ·exact r j ω
 exact a1 xs.length 0 ω fun j u=>by omega
theorem Zdc {α:Type} {xs g:List α} {B:Int->Option (Int ⊕ Bool)} (j:xs.length<=M63)
  (hs:∀ (k:Nat) x y,xs[k]?=some x->g[k]?=some y->Step (B (k:Int)) k false (x=y)) (l:B (xs.length:Int)=some (.inr true)):
  IsQ (bif ((xs.length:Int):Int) !=(g.length:Int) then some false else loop B 0) (xs=g):=by
 refine q_ne (fun h=>?_) fun h e=>h (by rw [e])
 obtain ⟨c,h1,a⟩:=ZBF (t:=true) (f:=false) ω j hs l
 refine ⟨c,?_,a⟩
 rw [h1];cases c<;>rfl
theorem Zbk {ρ:Type} {o:Option (Int ⊕ ρ)} {k:Nat} {f:ρ} {p:Prop} {c:Bool} (a:c=true↔p) (h:o=some (bif c then .inl (ε.wrap ((k:Int)+1)) else .inr f)):Step o k f p:=⟨c,a,h⟩
theorem Zm6 {α j ρ:Type} {as:List α} {z:j} {c:α->j} {B:Int×List j->Option ((Int×List j) ⊕ ρ)} {g:List j->ρ} (w:as.length<=M63)
  (hs:∀ (k:Nat) a (xs:List j) x0,as[k]?=some a->xs[k]?=some x0->B ((k:Int),xs)=some (.inl (ε.wrap ((k:Int)+1),xs.set ((k:Int)).toNat (c a))))
  (x:∀ xs:List j,B ((as.length:Int),xs)=some (.inr (g xs))):loop B (0,List.replicate as.length z)=some (g (as.map c)):=by
 let f:Nat->Int×List j:=fun k=>((k:Int),(as.take k).map c++List.replicate (as.length-k) z)
 have e:f 0=(0,List.replicate as.length z):=by simp [f]
 rw [<-e,Zdb f as.length fun k u=>?_]
 ·have:f as.length=((as.length:Int),as.map c):=by simp only [f,List.take_length,Nat.sub_self,List.replicate_zero,List.append_nil]
  rw [this];exact Zc (x _)
 ·obtain ⟨a,r⟩:=Zbf (xs:=as) (k:=k) u
  have o:List.replicate (as.length-k) z=z::List.replicate (as.length-(k+1)) z:=by
   rw [show as.length-k=(as.length-(k+1))+1 by omega,List.replicate_succ]
  have l:((as.take k).map c).length=k:=by rw [List.length_map,List.length_take];omega
  have h:((as.take k).map c++List.replicate (as.length-k) z)[k]?=some z:=by
   rw [List.getElem?_append_right ω,l,o];simp
  rw [hs k a _ z r h,wrapN u w,Int.toNat_natCast]
  have:((as.take k).map c++List.replicate (as.length-k) z).set k (c a)=(as.take (k+1)).map c++List.replicate (as.length-(k+1)) z:=by
   rw [List.set_append,if_neg ω,l,o,List.take_add_one,r]
   simp
  rw [this]
theorem ZfA {α:Type} {b n:Nat} {z:α} (h:n*b<=140737488355328) (a:n<=4611686018427387904):gMake b z (n:Int) (n:Int)=some (List.replicate n z):=by
 unfold gMake
 have e:((n*b:Nat):Int)<=140737488355328:=ω
 rw [Int.natCast_mul] at e
 rw [if_pos ⟨by omega,by omega,e,by omega⟩,Int.toNat_natCast]
def Sz {α:Type} (f:α->Int->Option Int) (a e:α->Prop):Prop:=∀ x left,a x->0<=left->left<=1048576->∃ r,f x left=some r/\(r=-1\/(0<=r/\r<=left/\e x))
def OkS (s:ByteArray):Prop:=s.size<=M63
def OkL {α:Type} (ok:α->Prop) (l:List α):Prop:=l.length<=M63/\∀ x∈l,ok x
def SmL {α:Type} (a:α->Prop) (l:List α):Prop:=l.length<=1048576/\∀ x∈l,a x
theorem Zkx {left n:Int} (a:0<=left) (h1:left<=1048576) (c:0<=n) (e:n<=9223372036854775807):ε.wrap (left-n)=left-n:=Zaj ω ω
theorem ZGm {α:Type} {xs:List α} {f:α->Int->Option Int} {Ok w:α->Prop} {B:Int×Int->Option ((Int×Int) ⊕ Int)} (hf:Sz f Ok w) (a0:OkL Ok xs) {left:Int} (g:0<=left) (h1:left<=1048576)
  (hs:∀ (k:Nat) x l r,xs[k]?=some x->f x l=some r->B (l,(k:Int))=some (bif decide (r<0) then .inr (-1) else .inl (r,ε.wrap ((k:Int)+1))))
  (he:∀ l,B (l,(xs.length:Int))=some (.inr l)):∃ r,loop B (left,0)=some r/\(r=-1\/(0<=r/\r<=left/\∀ x∈xs,w x)):=by
 have a4:∀ (d k:Nat) (l:Int),k+d=xs.length->0<=l->l<=left->(∀ x∈xs.take k,w x)->∃ r,loop B (l,(k:Int))=some r/\(r=-1\/(0<=r/\r<=left/\∀ x∈xs,w x)):=by
  intro d
  induction d with
  | zero=>
   intro k l hk hl a o
   obtain rfl:k=xs.length:=ω
   rw [List.take_length] at o
   exact ⟨l,Zc (he l),.inr ⟨hl,a,o⟩⟩
  | succ d ih=>
   intro k l hk hl a o
   obtain ⟨x,c⟩:=Zbf (xs:=xs) (k:=k) ω
   obtain ⟨r,hr,u⟩:=hf x l (a0.2 x (List.mem_of_getElem? c)) hl ω
   have hB:=hs k x l r c hr
   rcases u with rfl|⟨e,j,hsm⟩
   ·refine ⟨-1,Zc ?_,.inl rfl⟩
    rw [hB];rfl
   ·have i:decide (r<0)=false:=by simpa using e
    rw [i] at hB
    have a3:B (l,(k:Int))=some (.inl (r,((k+1:Nat):Int))):=by rw [hB,<-wrapN (n:=xs.length) ω a0.1];rfl
    rw [Zv a3]
    refine ih (k+1) r ω e ω ?_
    rw [List.take_add_one,c]
    intro y hy
    rcases List.mem_append.1 hy with h|h
    ·exact o y h
    ·simp at h;subst h;exact hsm
 exact a4 xs.length 0 left ω g ω (by simp)
theorem ZrF {α:Type} {f:α->Int->Option Int} {w u:α->Prop} {p:List α->Int->Option Int} {B:List α->Int×Int->Option ((Int×Int) ⊕ Int)} (hf:Sz f w u)
  (hp:∀ xs left,p xs left=bif decide ((ε.wrap (left-(xs.length:Int)):Int)<0) then some (-1) else loop (B xs) (ε.wrap (left-(xs.length:Int)),0))
  (hs:∀ xs (k:Nat) x l r,xs[k]?=some x->f x l=some r->B xs (l,(k:Int))=some (bif decide (r<0) then .inr (-1) else .inl (r,ε.wrap ((k:Int)+1))))
  (he:∀ xs l,B xs (l,(xs.length:Int))=some (.inr l)):Sz p (OkL w) (SmL u):=by
 intro xs left o g h1
 have y:=o.1
 unfold M63 at y
 rw [hp,Zkx g h1 ω ω]
 by_cases j:left-(xs.length:Int)<0
 ·have:decide (left-(xs.length:Int)<0)=true:=by simpa using j
  rw [this];exact ⟨-1,rfl,.inl rfl⟩
 ·have:decide (left-(xs.length:Int)<0)=false:=by simpa using j
  rw [this]
  obtain ⟨r,h,e⟩:=ZGm (B:=B xs) hf o (left:=left-xs.length) ω ω (hs xs) (he xs)
  refine ⟨r,h,?_⟩
  rcases e with e|⟨a,b,c⟩
  ·exact .inl e
  ·exact .inr ⟨a,by omega,by omega,c⟩
end Go.Vc
