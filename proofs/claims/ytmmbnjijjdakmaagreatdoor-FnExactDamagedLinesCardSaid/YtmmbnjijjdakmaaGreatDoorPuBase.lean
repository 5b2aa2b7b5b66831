import Derived.WalkKit
namespace Go.Vc
set_option linter.unusedVariables false
set_option linter.unusedSimpArgs false
open Go
def gIdx {α:Type} (xs:List α) (i:Int):Option α:=if 0≤i then xs[i.toNat]? else none
def gApp {α:Type} (bytes:Nat) (xs ys:List α):Option (List α):=
 if (xs.length+ys.length)*bytes≤140737488355328∧xs.length+ys.length≤4611686018427387904 then some (xs++ys) else none
def gMake {α:Type} (bytes:Nat) (z:α) (n c:Int):Option (List α):=
 if 0≤n∧n≤c∧c*bytes≤140737488355328∧c≤4611686018427387904 then some (List.replicate n.toNat z) else none
def gSl {α:Type} (xs:List α) (lo hi:Int):Option (List α):=
 if 0≤lo∧lo≤hi∧hi≤xs.length then some ((xs.take hi.toNat).drop lo.toNat) else none
def gSt (s:ByteArray) (i:Int):Option UInt8:=if 0≤i then s[i.toNat]? else none
def gStSl (s:ByteArray) (lo hi:Int):Option ByteArray:=if 0≤lo∧lo≤hi∧hi≤s.size then some (s.extract lo.toNat hi.toNat) else none
def gNz (b:Int):Option Unit:=if b≠0 then some () else none
def gNn (b:Int):Option Unit:=if 0≤b then some () else none
def gFit (a b:ByteArray):Option Unit:=if ((a.size+b.size:Nat):Int)≤IntKind.i64.max then some () else none
def mpGet {κ ν:Type} [BEq κ] (m:List (κ×ν)) (k:κ) (z:ν):ν:=match m with
 | []=>z
 | (k',v)::r=>bif k==k' then v else mpGet r k z
def mpSet {κ ν:Type} [BEq κ] (m:List (κ×ν)) (k:κ) (v:ν):List (κ×ν):=match m with
 | []=>[(k,v)]
 | (k',v')::r=>bif k==k' then (k,v)::r else (k',v')::mpSet r k v
def byts (s:ByteArray):List Int:=s.data.toList.map fun b=>(b.toNat:Int)
def bstr (xs:List Int):ByteArray:=⟨(xs.map fun n=>UInt8.ofNat n.toNat).toArray⟩
def gByt (xs:List Int):Option ByteArray:=if (∀ x∈xs,0≤x∧x≤255) then some (bstr xs) else none
def gNe (a b:Int):Option Unit:=if a≠b then some () else none
theorem Zzo {a b:Int} {u:Unit} (h:gNe a b=some u):a≠b:=by unfold gNe at h;split at h<;>first|assumption|cases h
def fuel:Nat:=1000000
theorem obind {α β:Type} {o:Option α} {f:α→Option β} {r:β} (h:o.bind f=some r):∃ x,o=some x∧f x=some r:=by
 cases o with
 | none=>cases h
 | some x=>exact ⟨x,rfl,h⟩
theorem ZaV {α:Type} {xs:List α} {i:Int} {x:α} (h:gIdx xs i=some x):0≤i∧xs[i.toNat]?=some x:=by
 unfold gIdx at h;split at h
 ·exact ⟨by assumption,h⟩
 ·cases h
theorem Zd4 {α:Type} {b:Nat} {xs ys zs:List α} (h:gApp b xs ys=some zs):((xs.length+ys.length)*b≤140737488355328∧xs.length+ys.length≤4611686018427387904)∧zs=xs++ys:=by
 unfold gApp at h;split at h
 ·cases h;exact ⟨by assumption,rfl⟩
 ·cases h
theorem Zto {α:Type} {b:Nat} {z:α} {n c:Int} {zs:List α} (h:gMake b z n c=some zs):(0≤n∧n≤c∧c*b≤140737488355328∧c≤4611686018427387904)∧zs=List.replicate n.toNat z:=by
 unfold gMake at h;split at h
 ·cases h;exact ⟨by assumption,rfl⟩
 ·cases h
theorem Zjx {α:Type} {xs ys:List α} {lo hi:Int} (h:gSl xs lo hi=some ys):(0≤lo∧lo≤hi∧hi≤xs.length)∧ys=(xs.take hi.toNat).drop lo.toNat:=by
 unfold gSl at h;split at h
 ·cases h;exact ⟨by assumption,rfl⟩
 ·cases h
theorem Zsz {s:ByteArray} {i:Int} {x:UInt8} (h:gSt s i=some x):0≤i∧s[i.toNat]?=some x:=by
 unfold gSt at h;split at h
 ·exact ⟨by assumption,h⟩
 ·cases h
theorem Zr7 {s t:ByteArray} {lo hi:Int} (h:gStSl s lo hi=some t):(0≤lo∧lo≤hi∧hi≤s.size)∧t=s.extract lo.toNat hi.toNat:=by
 unfold gStSl at h;split at h
 ·cases h;exact ⟨by assumption,rfl⟩
 ·cases h
section
variable {σ ρ:Type}
def loopN (B:σ→Option (σ ⊕ ρ)):Nat→σ→Option ρ
 | 0,_=>none
 | n+1,s=>(B s).bind fun a=>match a with
  | .inl s'=>loopN B n s'
  | .inr r=>some r
theorem Zlt {B:σ→Option (σ ⊕ ρ)}:∀ {n:Nat} {s:σ} {r:ρ},loopN B n s=some r→∀ {m:Nat},n≤m→loopN B m s=some r
 | 0,_,_,h,_,_=>by cases h
 | n+1,s,r,h,m,hm=>by
  cases m with
  | zero=>omega
  | succ m=>
   obtain ⟨a,h1,h2⟩:=obind h
   unfold loopN
   rw [h1]
   cases a with
   | inl s'=>exact Zlt h2 (by omega)
   | inr r'=>exact h2
theorem Zww {B:σ→Option (σ ⊕ ρ)} {n m:Nat} {s:σ} {r r':ρ} (h:loopN B n s=some r) (k:loopN B m s=some r'):r=r':=by
 have h1:=Zlt h (Nat.le_max_left n m)
 have h2:=Zlt k (Nat.le_max_right n m)
 rw [h1] at h2;cases h2;rfl
open Classical in
noncomputable def loop (B:σ→Option (σ ⊕ ρ)) (s:σ):Option ρ:=if h:∃ n r,loopN B n s=some r then some (Classical.choose (Classical.choose_spec h)) else none
theorem Zf7 {B:σ→Option (σ ⊕ ρ)} {s:σ} {r:ρ}:loop B s=some r↔∃ n,loopN B n s=some r:=by
 constructor
 ·intro h
  unfold loop at h
  split at h
  ·rename_i hh
   have:=Classical.choose_spec (Classical.choose_spec hh)
   cases h
   exact ⟨_,this⟩
  ·cases h
 ·rintro ⟨n,h⟩
  have hh:∃ n r,loopN B n s=some r:=⟨n,r,h⟩
  unfold loop
  rw [dif_pos hh]
  rw [Zww (Classical.choose_spec (Classical.choose_spec hh)) h]
theorem Zv {B:σ→Option (σ ⊕ ρ)} {s:σ} {r:ρ} (h:loop B s=some r):∃ n,loopN B n s=some r:=Zf7.1 h
theorem Zo {B:σ→Option (σ ⊕ ρ)} {n:Nat} {s:σ} {r:ρ} (h:loopN B n s=some r):∃ m a,n=m+1∧B s=some a∧(match a with|.inl s'=>loopN B m s'|.inr r=>some r)=some r:=by
 cases n with
 | zero=>cases h
 | succ m=>
  obtain ⟨a,h1,h2⟩:=obind h
  exact ⟨m,a,rfl,h1,h2⟩
theorem ZI {B:σ→Option (σ ⊕ ρ)} {s s':σ} (h:B s=some (.inl s')):loop B s=loop B s':=by
 apply Option.ext
 intro r
 rw [Zf7,Zf7]
 constructor
 ·rintro ⟨n,hn⟩
  obtain ⟨m,a,rfl,h1,h2⟩:=Zo hn
  rw [h] at h1;cases h1
  exact ⟨m,h2⟩
 ·rintro ⟨n,hn⟩
  refine ⟨n+1,?_⟩
  unfold loopN;rw [h];exact hn
theorem Zc {B:σ→Option (σ ⊕ ρ)} {s:σ} {r:ρ} (h:B s=some (.inr r)):loop B s=some r:=by
 rw [Zf7]
 refine ⟨1,?_⟩
 unfold loopN;rw [h];rfl
theorem Zil {B:σ→Option (σ ⊕ ρ)} (f:Nat→σ):∀ (n:Nat),(∀ k,k<n→B (f k)=some (.inl (f (k+1))))→loop B (f 0)=loop B (f n)
 | 0,_=>rfl
 | n+1,h=>by rw [Zil f n fun k hk=>h k (by omega),ZI (h n (by omega))]
end
def vK {κ:Type} (T:κ→Prop) (C:κ):Prop:=T C
theorem useK {κ:Type} {T:κ→Prop} {C:κ} (I:κ→Prop) (hC:I C) (hT:∀ K,I K→T K):vK T C:=hT C hC
end Go.Vc
