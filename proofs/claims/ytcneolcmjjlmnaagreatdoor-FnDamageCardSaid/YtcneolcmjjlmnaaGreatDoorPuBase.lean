import Derived.WalkKit
open List renaming replicate->Jn,length->Jk
open Option renaming some->Jg,none->Jh
namespace Go.Vc
set_option linter.unusedVariables false
set_option linter.unusedSimpArgs false
open Go
abbrev Jm:=Option
abbrev Ja:=List (List Int)
abbrev Jb:=List Int
abbrev Jc:=List Value
abbrev Jd:=ByteArray
theorem Z {p:Prop} (h:p:=by omega):p:=h
theorem κ {p:Prop} (h:p:=by kernel_rfl):p:=h
def gIdx {α:Type} (xs:List α) (i:Int):Jm α:=if 0<=i then xs[i.toNat]? else Jh
def gApp {α:Type} (bytes:Nat) (xs e:List α):Jm (List α):=
 if (Jk xs+Jk e)*bytes<=140737488355328/\(Jk xs)+Jk e<=4611686018427387904 then Jg (xs++e) else Jh
def gMake {α:Type} (bytes:Nat) (z:α) (n c:Int):Jm (List α):=
 if 0<=n/\n<=c/\c*bytes<=140737488355328/\c<=4611686018427387904 then Jg (Jn n.toNat z) else Jh
def gSl {α:Type} (xs:List α) (lo hi:Int):Jm (List α):=
 if 0<=lo/\lo<=hi/\hi<=Jk xs then Jg ((xs.take hi.toNat).drop lo.toNat) else Jh
def gSt (s:Jd) (i:Int):Jm UInt8:=if 0<=i then s[i.toNat]? else Jh
def gStSl (s:Jd) (lo hi:Int):Jm Jd:=if 0<=lo/\lo<=hi/\hi<=s.size then Jg (s.extract lo.toNat hi.toNat) else Jh
def gNz (b:Int):Jm Unit:=if b≠0 then Jg () else Jh
def gNn (b:Int):Jm Unit:=if 0<=b then Jg () else Jh
def gFit (a b:Jd):Jm Unit:=if ((a.size+b.size:Nat):Int)<=IntKind.i64.max then Jg () else Jh
def mpGet {κ ν:Type} [BEq κ] (m:List (κ×ν)) (k:κ) (z:ν):ν:=match m with
 | []=>z
 | (k',v)::r=>bif k==k' then v else mpGet r k z
def mpSet {κ ν:Type} [BEq κ] (m:List (κ×ν)) (k:κ) (v:ν):List (κ×ν):=match m with
 | []=>[(k,v)]
 | (k',v')::r=>bif k==k' then (k,v)::r else (k',v')::mpSet r k v
def byts (s:Jd):Jb:=s.data.toList.map λb=>(b.toNat:Int)
def bstr (xs:Jb):Jd:=⟨(xs.map λn=>UInt8.ofNat n.toNat).toArray⟩
def gByt (xs:Jb):Jm Jd:=if (∀x∈xs,0<=x/\x<=255) then Jg (bstr xs) else Jh
def gNe (a b:Int):Jm Unit:=if a≠b then Jg () else Jh
theorem ZJU {a b:Int} {u:Unit} (h:gNe a b=Jg u):a≠b:=by unfold gNe at h;split at h<;>first|assumption|cases h
def fuel:Nat:=1000000
theorem obind {α e:Type} {o:Jm α} {f:α->Jm e} {r:e} (h:o.bind f=Jg r):∃x,o=Jg x/\f x=Jg r:=by
 cases o with
 | none=>cases h
 | some x=>exact ⟨x,rfl,h⟩
theorem ZaK {α:Type} {xs:List α} {i:Int} {x:α} (h:gIdx xs i=Jg x):0<=i/\xs[i.toNat]?=Jg x:=by
 unfold gIdx at h;split at h
 .exact ⟨by assumption,h⟩
 .cases h
theorem Ze5 {α:Type} {b:Nat} {xs e g:List α} (h:gApp b xs e=Jg g):((Jk xs+Jk e)*b<=140737488355328/\(Jk xs)+Jk e<=4611686018427387904)/\g=xs++e:=by
 unfold gApp at h;split at h
 .cases h;exact ⟨by assumption,rfl⟩
 .cases h
theorem ZI6 {α:Type} {b:Nat} {z:α} {n c:Int} {e:List α} (h:gMake b z n c=Jg e):(0<=n/\n<=c/\c*b<=140737488355328/\c<=4611686018427387904)/\e=Jn n.toNat z:=by
 unfold gMake at h;split at h
 .cases h;exact ⟨by assumption,rfl⟩
 .cases h
theorem Zi2 {α:Type} {xs e:List α} {lo hi:Int} (h:gSl xs lo hi=Jg e):(0<=lo/\lo<=hi/\hi<=Jk xs)/\e=(xs.take hi.toNat).drop lo.toNat:=by
 unfold gSl at h;split at h
 .cases h;exact ⟨by assumption,rfl⟩
 .cases h
theorem ZMX {s:Jd} {i:Int} {x:UInt8} (h:gSt s i=Jg x):0<=i/\s[i.toNat]?=Jg x:=by
 unfold gSt at h;split at h
 .exact ⟨by assumption,h⟩
 .cases h
theorem ZGV {s t:Jd} {lo hi:Int} (h:gStSl s lo hi=Jg t):(0<=lo/\lo<=hi/\hi<=s.size)/\t=s.extract lo.toNat hi.toNat:=by
 unfold gStSl at h;split at h
 .cases h;exact ⟨by assumption,rfl⟩
 .cases h
section
variable {σ ρ:Type}
def loopN (B:σ->Jm (σ ⊕ ρ)):Nat->σ->Jm ρ
 | 0,_=>Jh
 | n+1,s=>(B s).bind λa=>match a with
  | .inl s'=>loopN B n s'
  | .inr r=>Jg r
theorem Zqp {B:σ->Jm (σ ⊕ ρ)}:∀{n:Nat} {s:σ} {r:ρ},loopN B n s=Jg r->∀{m:Nat},n<=m->loopN B m s=Jg r
 | 0,_,_,h,_,_=>by cases h
 | n+1,s,r,h,m,hm=>by
  cases m with
  | zero=>omega
  | succ m=>
   obtain ⟨a,h1,e⟩:=obind h;unfold loopN;rw [h1];cases a with
   | inl s'=>exact Zqp e (by omega)
   | inr r'=>exact e
theorem ZGm {B:σ->Jm (σ ⊕ ρ)} {n m:Nat} {s:σ} {r e:ρ} (h:loopN B n s=Jg r) (k:loopN B m s=Jg e):r=e:=by
 have h1:=Zqp h (Nat.le_max_left n m);have a:=Zqp k (Nat.le_max_right n m);rw [h1] at a;cases a;rfl
open Classical in
noncomputable def loop (B:σ->Jm (σ ⊕ ρ)) (s:σ):Jm ρ:=if h:∃n r,loopN B n s=Jg r then Jg (Classical.choose (Classical.choose_spec h)) else Jh
theorem Zhx {B:σ->Jm (σ ⊕ ρ)} {s:σ} {r:ρ}:loop B s=Jg r↔∃n,loopN B n s=Jg r:=by
 constructor
 .intro h;unfold loop at h;split at h
  .rename_i e;have:=Classical.choose_spec (Classical.choose_spec e);cases h;exact ⟨_,this⟩
  .cases h
 .rintro ⟨n,h⟩;have e:∃n r,loopN B n s=Jg r:=⟨n,r,h⟩
  unfold loop;rw [dif_pos e];rw [ZGm (Classical.choose_spec (Classical.choose_spec e)) h]
theorem ZP {B:σ->Jm (σ ⊕ ρ)} {s:σ} {r:ρ} (h:loop B s=Jg r):∃n,loopN B n s=Jg r:=Zhx.1 h
theorem ZN {B:σ->Jm (σ ⊕ ρ)} {n:Nat} {s:σ} {r:ρ} (h:loopN B n s=Jg r):∃m a,n=m+1/\B s=Jg a/\(match a with|.inl s'=>loopN B m s'|.inr r=>Jg r)=Jg r:=by
 cases n with
 | zero=>cases h
 | succ m=>
  obtain ⟨a,h1,e⟩:=obind h;exact ⟨m,a,rfl,h1,e⟩
theorem ZJ {B:σ->Jm (σ ⊕ ρ)} {s s':σ} (h:B s=Jg (.inl s')):loop B s=loop B s':=by
 apply Option.ext;intro r;rw [Zhx,Zhx];constructor
 .rintro ⟨n,e⟩;obtain ⟨m,a,rfl,h1,f⟩:=ZN e;rw [h] at h1;cases h1;exact ⟨m,f⟩
 .rintro ⟨n,e⟩;refine ⟨n+1,?_⟩;unfold loopN;rw [h];exact e
theorem Ze {B:σ->Jm (σ ⊕ ρ)} {s:σ} {r:ρ} (h:B s=Jg (.inr r)):loop B s=Jg r:=by
 rw [Zhx];refine ⟨1,?_⟩;unfold loopN;rw [h];rfl
theorem Zvs {B:σ->Jm (σ ⊕ ρ)} (f:Nat->σ):∀(n:Nat),(∀k,k<n->B (f k)=Jg (.inl (f (k+1))))->loop B (f 0)=loop B (f n)
 | 0,_=>rfl
 | n+1,h=>by rw [Zvs f n λk e=>h k (by omega),ZJ (h n (by omega))]
end
def cpt {α:Type} (f:α->α->Jm Bool):α->List α->Jm (List α)
 | _,[]=>Jg []
 | x,y::r=>(f y x).bind λb=>(cpt f y r).map λl=>bif b then l else y::l
def cptL {α:Type} (f:α->α->Jm Bool):List α->Jm (List α)
 | []=>Jg []
 | x::r=>(cpt f x r).map (x::·)
end Go.Vc
