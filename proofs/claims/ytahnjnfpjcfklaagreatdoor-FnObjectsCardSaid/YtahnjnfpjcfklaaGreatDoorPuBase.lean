import Derived.WalkKit
namespace Go.Vc
set_option linter.unusedVariables false
set_option linter.unusedSimpArgs false
open Go
theorem ω {p:Prop} (h:p:=by omega):p:=h
theorem κ {p:Prop} (h:p:=by kernel_rfl):p:=h
def gIdx {α:Type} (xs:List α) (i:Int):Option α:=if 0<=i then xs[i.toNat]? else none
def gApp {α:Type} (bytes:Nat) (xs a:List α):Option (List α):=
 if (xs.length+a.length)*bytes<=140737488355328/\xs.length+a.length<=4611686018427387904 then some (xs++a) else none
def gMake {α:Type} (bytes:Nat) (z:α) (n c:Int):Option (List α):=
 if 0<=n/\n<=c/\c*bytes<=140737488355328/\c<=4611686018427387904 then some (List.replicate n.toNat z) else none
def gSl {α:Type} (xs:List α) (lo hi:Int):Option (List α):=
 if 0<=lo/\lo<=hi/\hi<=xs.length then some ((xs.take hi.toNat).drop lo.toNat) else none
def gStSl (s:ByteArray) (lo hi:Int):Option ByteArray:=if 0<=lo/\lo<=hi/\hi<=s.size then some (s.extract lo.toNat hi.toNat) else none
def gNz (b:Int):Option Unit:=if b≠0 then some () else none
def gNn (b:Int):Option Unit:=if 0<=b then some () else none
def gFit (a b:ByteArray):Option Unit:=if ((a.size+b.size:Nat):Int)<=IntKind.i64.max then some () else none
def mpGet {κ ν:Type} [BEq κ] (m:List (κ×ν)) (k:κ) (z:ν):ν:=match m with
 | []=>z
 | (k',v)::r=>bif k==k' then v else mpGet r k z
def mpSet {κ ν:Type} [BEq κ] (m:List (κ×ν)) (k:κ) (v:ν):List (κ×ν):=match m with
 | []=>[(k,v)]
 | (k',v')::r=>bif k==k' then (k,v)::r else (k',v')::mpSet r k v
def bstr (xs:List Int):ByteArray:=⟨(xs.map fun n=>UInt8.ofNat n.toNat).toArray⟩
def gByt (xs:List Int):Option ByteArray:=if (∀ x∈xs,0<=x/\x<=255) then some (bstr xs) else none
def gNe (a b:Int):Option Unit:=if a≠b then some () else none
theorem ZGv {a b:Int} {u:Unit} (h:gNe a b=some u):a≠b:=by unfold gNe at h;split at h<;>first|assumption|cases h
def fuel:Nat:=1000000
theorem obind {α a:Type} {o:Option α} {f:α->Option a} {r:a} (h:o.bind f=some r):∃ x,o=some x/\f x=some r:=by
 cases o with
 | none=>cases h
 | some x=>exact ⟨x,rfl,h⟩
theorem ZaK {α:Type} {xs:List α} {i:Int} {x:α} (h:gIdx xs i=some x):0<=i/\xs[i.toNat]?=some x:=by
 unfold gIdx at h;split at h
 ·exact ⟨by assumption,h⟩
 ·cases h
theorem ZcS {α:Type} {b:Nat} {xs a e:List α} (h:gApp b xs a=some e):((xs.length+a.length)*b<=140737488355328/\xs.length+a.length<=4611686018427387904)/\e=xs++a:=by
 unfold gApp at h;split at h
 ·cases h;exact ⟨by assumption,rfl⟩
 ·cases h
theorem Zz0 {α:Type} {b:Nat} {z:α} {n c:Int} {a:List α} (h:gMake b z n c=some a):(0<=n/\n<=c/\c*b<=140737488355328/\c<=4611686018427387904)/\a=List.replicate n.toNat z:=by
 unfold gMake at h;split at h
 ·cases h;exact ⟨by assumption,rfl⟩
 ·cases h
theorem Zg1 {α:Type} {xs a:List α} {lo hi:Int} (h:gSl xs lo hi=some a):(0<=lo/\lo<=hi/\hi<=xs.length)/\a=(xs.take hi.toNat).drop lo.toNat:=by
 unfold gSl at h;split at h
 ·cases h;exact ⟨by assumption,rfl⟩
 ·cases h
theorem ZHO {s t:ByteArray} {lo hi:Int} (h:gStSl s lo hi=some t):(0<=lo/\lo<=hi/\hi<=s.size)/\t=s.extract lo.toNat hi.toNat:=by
 unfold gStSl at h;split at h
 ·cases h;exact ⟨by assumption,rfl⟩
 ·cases h
section
variable {σ ρ:Type}
def loopN (B:σ->Option (σ ⊕ ρ)):Nat->σ->Option ρ
 | 0,_=>none
 | n+1,s=>(B s).bind fun a=>match a with
  | .inl s'=>loopN B n s'
  | .inr r=>some r
theorem ZmO {B:σ->Option (σ ⊕ ρ)}:∀ {n:Nat} {s:σ} {r:ρ},loopN B n s=some r->∀ {m:Nat},n<=m->loopN B m s=some r
 | 0,_,_,h,_,_=>by cases h
 | n+1,s,r,h,m,hm=>by
  cases m with
  | zero=>omega
  | succ m=>
   obtain ⟨a,h1,e⟩:=obind h;unfold loopN;rw [h1];cases a with
   | inl s'=>exact ZmO e (by omega)
   | inr r'=>exact e
theorem Zyd {B:σ->Option (σ ⊕ ρ)} {n m:Nat} {s:σ} {r e:ρ} (h:loopN B n s=some r) (k:loopN B m s=some e):r=e:=by
 have h1:=ZmO h (Nat.le_max_left n m);have a:=ZmO k (Nat.le_max_right n m);rw [h1] at a;cases a;rfl
open Classical in
noncomputable def loop (B:σ->Option (σ ⊕ ρ)) (s:σ):Option ρ:=if h:∃ n r,loopN B n s=some r then some (Classical.choose (Classical.choose_spec h)) else none
theorem Zho {B:σ->Option (σ ⊕ ρ)} {s:σ} {r:ρ}:loop B s=some r↔∃ n,loopN B n s=some r:=by
 constructor
 ·intro h;unfold loop at h;split at h
  ·rename_i a;have:=Classical.choose_spec (Classical.choose_spec a);cases h;exact ⟨_,this⟩
  ·cases h
 ·rintro ⟨n,h⟩;have a:∃ n r,loopN B n s=some r:=⟨n,r,h⟩
  unfold loop;rw [dif_pos a];rw [Zyd (Classical.choose_spec (Classical.choose_spec a)) h]
theorem ZN {B:σ->Option (σ ⊕ ρ)} {s:σ} {r:ρ} (h:loop B s=some r):∃ n,loopN B n s=some r:=Zho.1 h
theorem ZM {B:σ->Option (σ ⊕ ρ)} {n:Nat} {s:σ} {r:ρ} (h:loopN B n s=some r):∃ m a,n=m+1/\B s=some a/\(match a with|.inl s'=>loopN B m s'|.inr r=>some r)=some r:=by
 cases n with
 | zero=>cases h
 | succ m=>
  obtain ⟨a,h1,e⟩:=obind h;exact ⟨m,a,rfl,h1,e⟩
theorem ZO {B:σ->Option (σ ⊕ ρ)} {s s':σ} (h:B s=some (.inl s')):loop B s=loop B s':=by
 apply Option.ext;intro r;rw [Zho,Zho];constructor
 ·rintro ⟨n,e⟩;obtain ⟨m,a,rfl,h1,f⟩:=ZM e;rw [h] at h1;cases h1;exact ⟨m,f⟩
 ·rintro ⟨n,e⟩;refine ⟨n+1,?_⟩;unfold loopN;rw [h];exact e
theorem Ze {B:σ->Option (σ ⊕ ρ)} {s:σ} {r:ρ} (h:B s=some (.inr r)):loop B s=some r:=by
 rw [Zho];refine ⟨1,?_⟩;unfold loopN;rw [h];rfl
theorem Zqn {B:σ->Option (σ ⊕ ρ)} (f:Nat->σ):∀ (n:Nat),(∀ k,k<n->B (f k)=some (.inl (f (k+1))))->loop B (f 0)=loop B (f n)
 | 0,_=>rfl
 | n+1,h=>by rw [Zqn f n fun k a=>h k (by omega),ZO (h n (by omega))]
end
def cpt {α:Type} (f:α->α->Option Bool):α->List α->Option (List α)
 | _,[]=>some []
 | x,y::r=>(f y x).bind fun b=>(cpt f y r).map fun l=>bif b then l else y::l
def cptL {α:Type} (f:α->α->Option Bool):List α->Option (List α)
 | []=>some []
 | x::r=>(cpt f x r).map (x::·)
end Go.Vc
