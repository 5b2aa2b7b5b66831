import Derived.Test.YtmmbnjijjdakmaaGreatDoorPuJb
namespace Go.Proofs.YtmmbnjijjdakmaaGreatDoor
open Go Go.Vc
set_option linter.unusedSimpArgs false
set_option linter.unusedVariables false
def qd (p a:Int):Nat→Int
 | 0=>a
 | i+1=>qd p a i/p
def pwN (p:Int):Nat→Int
 | 0=>1
 | i+1=>pwN p i*p
def dig (p:Int) (k:Int) (a:Int):List Int:=tabl k fun j=>qd p a j.toNat%p
def nmN (p:Int) (xs:List Int):Nat→Int
 | 0=>0
 | m+1=>nmN p xs m*p+ix xs ((xs.length:Int)-1-(m:Int))
def nm (p:Int) (xs:List Int):Int:=nmN p xs xs.length
def axAt (p c:Int) (ws:List Int) (off:Int) (xs:List Int):List Int:=tabl xs.length fun i=>if off≤i∧i<off+(ws.length:Int) then (ix xs i+c*ix ws (i-off))%p else ix xs i
def cnvN (p:Int) (as bs xs:List Int):Nat→List Int
 | 0=>xs
 | i+1=>axAt p (ix as (i:Int)) bs (i:Int) (cnvN p as bs xs i)
def rstN (p:Int) (poly:List Int) (xs:List Int):Nat→List Int
 | 0=>xs
 | m+1=>axAt p (p-ix (rstN p poly xs m) ((xs.length:Int)-1-(m:Int))) poly ((xs.length:Int)-1-(m:Int)-((poly.length:Int)-1)) (rstN p poly xs m)
def In (p:Int) (xs:List Int):Prop:=∀ i,0≤i→i<(xs.length:Int)→0≤ix xs i∧ix xs i<p
theorem Zf2 {p a:Int} (ha:0≤a) (hp:2≤p):∀ i:Nat,0≤qd p a i∧qd p a i≤a
 | 0=>⟨ha,Int.le_refl _⟩
 | i+1=>by
  obtain ⟨h1,h2⟩:=Zf2 ha hp i
  have h3:0≤qd p a i/p:=Int.ediv_nonneg h1 (by omega)
  have h4:qd p a i/p≤qd p a i:=Int.ediv_le_self _ h1
  exact ⟨h3,Int.le_trans h4 h2⟩
theorem Zrr {p a:Int} {i:Int} (h:0≤i):qd p a (i+1).toNat=qd p a i.toNat/p:=by
 rw [show (i+1).toNat=i.toNat+1 by omega];rfl
theorem Zax {p k a:Int} (h:0≤k):((dig p k a).length:Int)=k:=by unfold dig;rw [ZJ];omega
theorem ZbA {p k a:Int} (hp:2≤p):In p (dig p k a):=fun i h0 h1=>by
 unfold dig at h1 ⊢
 rw [ZJ] at h1
 rw [Z3 h0 (by omega)]
 exact ⟨Int.emod_nonneg _ (by omega),Int.emod_lt_of_pos _ (by omega)⟩
theorem Zig {p a k:Int} (ha:0≤a) (ha2:a≤4611686018427387904) (hp:2≤p) (hp2:p≤64) (hk:0≤k) (hk2:k≤64):ZaI a p k=some (dig p k a):=by
 unfold ZaI
 have hgo:=ZA (B:=ZcG p) (fun i=>(qd p a i.toNat,k-i,tabl i fun j=>qd p a j.toNat%p)) (i:=0) (n:=k) hk fun i h0 h1=>by
  obtain ⟨g1,g2⟩:=Zf2 ha hp i.toNat
  have t1:=Int.tmod_eq_emod_of_nonneg (b:=p) g1
  have t2:=Int.tdiv_eq_ediv_of_nonneg (b:=p) g1
  obtain ⟨g3,g4⟩:=Zf2 ha hp (i.toNat+1)
  have hl:(tabl i fun j=>qd p a j.toNat%p).length=i.toNat:=ZJ
  have e:k-(i+1)=k-i-1:=by omega
  have g3':0≤qd p a i.toNat/p:=g3
  have g4':qd p a i.toNat/p≤a:=g4
  simp (disch:=omega) only [pz,ZcG,t1,t2,gApp1,hl,Zrr,ZeA,e]
 have e0:(a,k,([]:List Int))=(fun i:Int=>(qd p a i.toNat,k-i,tabl i fun j=>qd p a j.toNat%p)) 0:=by simp [qd,ZzZ]
 rw [e0,hgo]
 refine Zc ?_
 simp (disch:=omega) only [pz,ZcG,Int.sub_self]
 rfl
theorem ZZ {α:Type} {n:Int} {f g:Int→α} (h:∀ i,0≤i→i<n→f i=g i):tabl n f=tabl n g:=by
 unfold tabl
 apply List.map_congr_left
 intro j hj
 rw [List.mem_range] at hj
 exact h j (by omega) (by omega)
theorem Zcp {α:Type} [Inhabited α] {n:Int} {f g:Int→α} {k:Int} (h0:0≤k) (h1:k<n) (hg:∀ i,0≤i→i<n→i≠k→g i=f i) {y:α} (hy:y=g k):(tabl n f).set k.toNat y=tabl n g:=by
 apply ZdG
 ·rw [List.length_set,ZJ,ZJ]
 ·intro i g0 g1
  rw [List.length_set,ZJ] at g1
  by_cases h:k=i
  ·subst h
   rw [Zci h0 (by rw [ZJ];omega),Z3 h0 h1,hy]
  ·rw [Zfx h0 g0 h,Z3 g0 (by omega),Z3 g0 (by omega),hg i g0 (by omega) (by omega)]
theorem ZcS {α:Type} [Inhabited α] (xs:List α):tabl xs.length (fun i=>ix xs i)=xs:=by
 apply ZdG
 ·rw [ZJ];omega
 ·intro i g0 g1
  rw [ZJ] at g1
  rw [Z3 g0 (by omega)]
theorem ZmU {α:Type} [Inhabited α] {n:Int} {z:α}:List.replicate n.toNat z=tabl n fun _=>z:=by
 apply ZdG
 ·rw [ZJ,List.length_replicate]
 ·intro i g0 g1
  rw [List.length_replicate] at g1
  rw [Z3 g0 (by omega),ZqU g0 (by omega)]
theorem Zjy {p a k:Int} (ha:0≤a) (ha2:a≤4611686018427387904) (hp:2≤p) (hp2:p≤64) (hk:0≤k) (hk2:k≤64):ZaH a p k=some (dig p k a):=by
 unfold ZaH
 rw [ZdO hk (by omega) (by omega)]
 show loop (ZbN p (List.replicate k.toNat 0)) (a,0,List.replicate k.toNat 0)=_
 have hgo:=ZA (B:=ZbN p (List.replicate k.toNat 0)) (fun i=>(qd p a i.toNat,i,tabl k fun j=>if j<i then qd p a j.toNat%p else 0)) (i:=0) (n:=k) hk fun i h0 h1=>by
  obtain ⟨g1,g2⟩:=Zf2 ha hp i.toNat
  have t1:=Int.tmod_eq_emod_of_nonneg (b:=p) g1
  have t2:=Int.tdiv_eq_ediv_of_nonneg (b:=p) g1
  obtain ⟨g3,g4⟩:=Zf2 ha hp (i.toNat+1)
  have hl:(tabl k fun j=>if j<i then qd p a j.toNat%p else 0).length=k.toNat:=ZJ
  have hl2:(List.replicate k.toNat (0:Int)).length=k.toNat:=List.length_replicate
  have g3':0≤qd p a i.toNat/p:=g3
  have g4':qd p a i.toNat/p≤a:=g4
  have hset:(tabl k fun j=>if j<i then qd p a j.toNat%p else 0).set i.toNat (qd p a i.toNat%p)=tabl k fun j=>if j<i+1 then qd p a j.toNat%p else 0:=by
   apply Zcp h0 h1
   ·intro j j0 j1 j2
    by_cases hj:j<i
    ·rw [if_pos hj,if_pos (by omega)]
    ·rw [if_neg hj,if_neg (by omega)]
   ·rw [if_pos (by omega)]
  simp (disch:=omega) only [pz,ZbN,t1,t2,hl,hl2,Zrr,hset]
 have e0:(a,(0:Int),List.replicate k.toNat (0:Int))=(fun i:Int=>(qd p a i.toNat,i,tabl k fun j=>if j<i then qd p a j.toNat%p else 0)) 0:=by
  show _=(a,(0:Int),_)
  rw [ZmU]
  congr 2
 rw [e0,hgo]
 refine Zc ?_
 have hl2:(List.replicate k.toNat (0:Int)).length=k.toNat:=List.length_replicate
 have e1:(tabl k fun j=>if j<k then qd p a j.toNat%p else 0)=dig p k a:=by
  unfold dig
  exact ZZ fun j j0 j1=>by rw [if_pos j1]
 simp (disch:=omega) only [pz,ZbN,hl2,e1]
theorem ZmF {p:Int} (hp:2≤p):∀ m:Nat,1≤pwN p m
 | 0=>Int.le_refl _
 | m+1=>by
  have h:=ZmF hp m
  have:1*2≤pwN p m*p:=Int.mul_le_mul h hp (by omega) (by omega)
  show 1≤pwN p m*p
  omega
theorem Zlm {p:Int} (hp:2≤p) {m:Nat}:∀ d:Nat,pwN p m≤pwN p (m+d)
 | 0=>Int.le_refl _
 | d+1=>by
  have h:=Zlm (m:=m) hp d
  have h1:=ZmF hp (m+d)
  have:pwN p (m+d)*1≤pwN p (m+d)*p:=Int.mul_le_mul_of_nonneg_left (by omega) (by omega)
  show _≤pwN p (m+d)*p
  omega
theorem ZjA {p:Int} {xs:List Int} (hp:2≤p) (hx:In p xs):∀ m:Nat,m≤xs.length→0≤nmN p xs m∧nmN p xs m<pwN p m
 | 0,_=>⟨Int.le_refl _,by show (0:Int)<1;omega⟩
 | m+1,hm=>by
  obtain ⟨h1,h2⟩:=ZjA hp hx m (by omega)
  obtain ⟨h3,h4⟩:=hx ((xs.length:Int)-1-m) (by omega) (by omega)
  have h5:0≤nmN p xs m*p:=Int.mul_nonneg h1 (by omega)
  have h6:(nmN p xs m+1)*p≤pwN p m*p:=Int.mul_le_mul_of_nonneg_right (by omega) (by omega)
  rw [Int.add_mul,Int.one_mul] at h6
  refine ⟨?_,?_⟩
  ·show 0≤nmN p xs m*p+ix xs ((xs.length:Int)-1-(m:Int))
   omega
  ·show nmN p xs m*p+ix xs ((xs.length:Int)-1-(m:Int))<pwN p m*p
   omega
theorem Zo0 {p:Int} {xs:List Int} (hp:2≤p) (hp2:p≤64) (hx:In p xs) (hl:xs.length≤64) (hw:pwN p xs.length≤64):ZaP xs p=some (nm p xs):=by
 unfold ZaP
 have hgo:=ZA (B:=Zdq xs p) (fun m=>(nmN p xs m.toNat,(xs.length:Int)-1-m)) (i:=0) (n:=xs.length) (by omega) fun m h0 h1=>by
  obtain ⟨g1,g2⟩:=ZjA hp hx m.toNat (by omega)
  obtain ⟨g3,g4⟩:=ZjA hp hx (m.toNat+1) (by omega)
  have g5:=Zlm hp (m:=m.toNat+1) (xs.length-(m.toNat+1))
  rw [show m.toNat+1+(xs.length-(m.toNat+1))=xs.length by omega] at g5
  have em:nmN p xs (m.toNat+1)=nmN p xs m.toNat*p+ix xs ((xs.length:Int)-1-(m.toNat:Int)):=rfl
  rw [show (m.toNat:Int)=m by omega] at em
  have es:(m+1).toNat=m.toNat+1:=by omega
  have h5:0≤nmN p xs m.toNat*p:=Int.mul_nonneg g1 (by omega)
  obtain ⟨g6,g7⟩:=hx ((xs.length:Int)-1-m) (by omega) (by omega)
  have e2:(xs.length:Int)-1-(m+1)=(xs.length:Int)-1-m-1:=by omega
  simp (disch:=omega) only [pz,Zdq,es,em,e2]
 have e0:((0:Int),IntKind.i64.wrap ((xs.length:Int)-1))=(fun m:Int=>(nmN p xs m.toNat,(xs.length:Int)-1-m)) 0:=by
  show _=((0:Int),_)
  rw [wr64 (by omega) (by omega)]
  simp
 rw [e0,hgo]
 refine Zc ?_
 have e1:(xs.length:Int)-1-(xs.length:Int)=-1:=by omega
 have e2:(xs.length:Int).toNat=xs.length:=by omega
 simp (disch:=omega) only [pz,Zdq,e1,e2]
 rfl
theorem Zrg (xs:List Int) (p:Int):ZgT xs p=ZaP xs p:=rfl
theorem Za8 {p c off:Int} {ws xs:List Int}:(axAt p c ws off xs).length=xs.length:=by unfold axAt;rw [ZJ];omega
theorem ZiF {p c off:Int} {ws xs:List Int} (hp:2≤p) (hx:In p xs):In p (axAt p c ws off xs):=fun i h0 h1=>by
 rw [Za8] at h1
 unfold axAt
 rw [Z3 h0 (by omega)]
 split
 ·exact ⟨Int.emod_nonneg _ (by omega),Int.emod_lt_of_pos _ (by omega)⟩
 ·exact hx i h0 h1
theorem Zee {ρ:Type} {B:Int×List Int→Option ((Int×List Int) ⊕ ρ)} {p c off:Int} {ws xs:List Int} (h0:0≤off) (h1:off+(ws.length:Int)≤xs.length)
  (hs:∀ j ys,0≤j→j<(ws.length:Int)→ys.length=xs.length→ix ys (off+j)=ix xs (off+j)→B (j,ys)=some (.inl (j+1,ys.set (off+j).toNat ((ix xs (off+j)+c*ix ws j)%p)))):
  loop B (0,xs)=loop B ((ws.length:Int),axAt p c ws off xs):=by
 have hgo:=ZA (B:=B) (fun j=>(j,tabl xs.length fun i=>if off≤i∧i<off+j then (ix xs i+c*ix ws (i-off))%p else ix xs i)) (i:=0) (n:=ws.length) (by omega) fun j g0 g1=>by
  show B (j,_)=_
  rw [hs j _ g0 g1 (by rw [ZJ];omega) (by rw [Z3 (by omega) (by omega),if_neg (by omega)])]
  congr 3
  apply Zcp (by omega) (by omega)
  ·intro i i0 i1 i2
   by_cases h:off≤i∧i<off+j
   ·rw [if_pos h,if_pos (by omega)]
   ·rw [if_neg h,if_neg (by omega)]
  ·rw [if_pos (by omega),show off+j-off=j by omega]
 have e0:((0:Int),xs)=(fun j:Int=>(j,tabl xs.length fun i=>if off≤i∧i<off+j then (ix xs i+c*ix ws (i-off))%p else ix xs i)) 0:=by
  show _=((0:Int),_)
  congr 1
  refine (ZcS xs).symm.trans (ZZ fun i i0 i1=>?_)
  rw [if_neg (by omega)]
 rw [e0,hgo]
 rfl
end Go.Proofs.YtmmbnjijjdakmaaGreatDoor
namespace Go.Proofs.YtmmbnjijjdakmaaGreatDoor
set_option linter.unusedVariables false
open Go Go.Vc
set_option linter.unusedSimpArgs false
structure Fd (f:Zd):Prop where
 p2:2≤f.Prime
 p64:f.Prime≤64
 k1:1≤f.Degree
 k6:f.Degree≤6
 pl:(f.Poly.length:Int)=f.Degree+1
 mon:ix f.Poly f.Degree=1
 rng:In f.Prime f.Poly
 w64:pwN f.Prime f.Degree.toNat≤64
def sumA (f:Zd) (a b c:Int):Int:=nm f.Prime (axAt f.Prime c (dig f.Prime f.Degree b) 0 (dig f.Prime f.Degree a))
theorem ZfU {a b p:Int} (h0:0≤a) (h1:a≤p) (h2:0≤b) (h3:b≤p) (hp:p≤64):0≤a*b∧a*b≤4096:=by
 refine ⟨Int.mul_nonneg h0 h2,?_⟩
 have:=Int.mul_le_mul (Int.le_trans h1 hp) (Int.le_trans h3 hp) h2 (by omega)
 omega
theorem ZrD {f:Zd} (hf:Fd f) (a b c:Int):ZaP (axAt f.Prime c (dig f.Prime f.Degree b) 0 (dig f.Prime f.Degree a)) f.Prime=some (sumA f a b c):=by
 have:=hf.p2;have:=hf.p64;have:=hf.k1;have:=hf.k6
 have hl:=Zax (p:=f.Prime) (k:=f.Degree) (a:=a) (by omega)
 refine Zo0 (by omega) (by omega) (ZiF (by omega) (ZbA (by omega))) (by rw [Za8];omega) ?_
 rw [Za8,show (dig f.Prime f.Degree a).length=f.Degree.toNat by omega]
 exact hf.w64
theorem ZBc {f:Zd} (hf:Fd f) {a b c:Int} (ha:0≤a) (ha2:a≤4096) (hb:0≤b) (hb2:b≤4096) (hc:0≤c) (hc2:c≤f.Prime):ZfG f a b c=some (sumA f a b c):=by
 have:=hf.p2;have:=hf.p64;have:=hf.k1;have:=hf.k6
 have hla:=Zax (p:=f.Prime) (k:=f.Degree) (a:=a) (by omega)
 have hlb:=Zax (p:=f.Prime) (k:=f.Degree) (a:=b) (by omega)
 unfold ZfG
 rw [Zig ha (by omega) (by omega) (by omega) (by omega) (by omega),Zig hb (by omega) (by omega) (by omega) (by omega) (by omega)]
 show loop (Zeu f c (dig f.Prime f.Degree b)) (0,dig f.Prime f.Degree a)=_
 rw [Zee (p:=f.Prime) (c:=c) (off:=0) (ws:=dig f.Prime f.Degree b) (by omega) (by omega) fun j ys j0 j1 hy he=>by
  rw [Int.zero_add] at he ⊢
  obtain ⟨g1,g2⟩:=ZbA (p:=f.Prime) (k:=f.Degree) (a:=a) (by omega) j j0 (by omega)
  obtain ⟨g3,g4⟩:=ZbA (p:=f.Prime) (k:=f.Degree) (a:=b) (by omega) j j0 (by omega)
  obtain ⟨g5,g6⟩:=ZfU hc hc2 g3 (by omega) hf.p64
  have t1:=Int.tmod_eq_emod_of_nonneg (b:=f.Prime) (a:=ix (dig f.Prime f.Degree a) j+c*ix (dig f.Prime f.Degree b) j) (by omega)
  simp (disch:=omega) only [pz,Zeu,he,t1]]
 refine Zc ?_
 simp (disch:=omega) only [pz,Zeu,Za8,ZrD hf a b c]
theorem Ztf {x y p:Int} (h0:0≤x) (h1:0≤y) (hp:2≤p) (hy:y<p):(x+-1*y+p)%p=(x+(p-1)*y)%p:=by
 have:x+(p-1)*y=(x+-1*y+p)+p*(y-1):=by
  rw [Int.sub_mul,Int.mul_sub,Int.one_mul];omega
 rw [this,Int.add_mul_emod_self_left]
theorem ZpM {f:Zd} (hf:Fd f) {a b c s:Int} (ha:0≤a) (ha2:a≤4096) (hb:0≤b) (hb2:b≤4096) (hs:(s=1∧c=1)∨(s=-1∧c=f.Prime-1)):Zec f a b s=some (sumA f a b c):=by
 have:=hf.p2;have:=hf.p64;have:=hf.k1;have:=hf.k6
 have hla:=Zax (p:=f.Prime) (k:=f.Degree) (a:=a) (by omega)
 have hlb:=Zax (p:=f.Prime) (k:=f.Degree) (a:=b) (by omega)
 unfold Zec
 rw [Zjy ha (by omega) (by omega) (by omega) (by omega) (by omega),Zjy hb (by omega) (by omega) (by omega) (by omega) (by omega)]
 show loop (Zek f s (dig f.Prime f.Degree a) (dig f.Prime f.Degree b)) (0,dig f.Prime f.Degree a)=_
 rw [Zee (p:=f.Prime) (c:=c) (off:=0) (ws:=dig f.Prime f.Degree b) (by omega) (by omega) fun j ys j0 j1 hy he=>by
  rw [Int.zero_add] at he ⊢
  obtain ⟨g1,g2⟩:=ZbA (p:=f.Prime) (k:=f.Degree) (a:=a) (by omega) j j0 (by omega)
  obtain ⟨g3,g4⟩:=ZbA (p:=f.Prime) (k:=f.Degree) (a:=b) (by omega) j j0 (by omega)
  have hm:-64≤s*ix (dig f.Prime f.Degree b) j∧s*ix (dig f.Prime f.Degree b) j≤64∧0≤ix (dig f.Prime f.Degree a) j+s*ix (dig f.Prime f.Degree b) j+f.Prime:=by
   rcases hs with ⟨h,_⟩|⟨h,_⟩<;>subst h<;>omega
  have t1:=Int.tmod_eq_emod_of_nonneg (b:=f.Prime) (a:=ix (dig f.Prime f.Degree a) j+s*ix (dig f.Prime f.Degree b) j+f.Prime) (by omega)
  have t2:(ix (dig f.Prime f.Degree a) j+s*ix (dig f.Prime f.Degree b) j+f.Prime)%f.Prime=(ix (dig f.Prime f.Degree a) j+c*ix (dig f.Prime f.Degree b) j)%f.Prime:=by
   rcases hs with ⟨h,h'⟩|⟨h,h'⟩<;>subst h<;>subst h'
   ·rw [Int.add_emod_right]
   ·exact Ztf g1 g3 (by omega) g4
  simp (disch:=omega) only [pz,Zek,he,t1,t2]]
 refine Zc ?_
 simp (disch:=omega) only [pz,Zek,Za8,Zrg,ZrD hf a b c]
end Go.Proofs.YtmmbnjijjdakmaaGreatDoor
namespace Go.Proofs.YtmmbnjijjdakmaaGreatDoor
set_option linter.unusedVariables false
open Go Go.Vc
set_option linter.unusedSimpArgs false
theorem ZrB {xs:List Int} (h:(xs.length:Int)≤1048576):Zbh xs=some xs:=by
 unfold Zbh
 rw [ZdF (by simp;omega) (by simp;omega)]
 rfl
theorem Zbl {p:Int} {poly xs:List Int}:∀ m,(rstN p poly xs m).length=xs.length
 | 0=>rfl
 | m+1=>by show (axAt _ _ _ _ _).length=_;rw [Za8,Zbl m]
theorem ZhI {p:Int} {poly xs:List Int} (hp:2≤p) (hx:In p xs):∀ m,In p (rstN p poly xs m)
 | 0=>hx
 | m+1=>ZiF hp (ZhI hp hx m)
theorem Zqs {p:Int} {poly xs:List Int} {m:Int} (h:0≤m):rstN p poly xs (m+1).toNat=axAt p (p-ix (rstN p poly xs m.toNat) ((xs.length:Int)-1-m)) poly ((xs.length:Int)-1-m-((poly.length:Int)-1)) (rstN p poly xs m.toNat):=by
 rw [show (m+1).toNat=m.toNat+1 by omega]
 show axAt _ _ _ _ _=_
 rw [show (m.toNat:Int)=m by omega]
theorem Zur {poly ys:List Int} (hy:(ys.length:Int)≤1048576) (hk:1≤(poly.length:Int)) (h:(poly.length:Int)-1≤ys.length):loop (ρ:=(Int×List Int) ⊕ List Int) (Zca poly) ys=some (.inr (ys.take ((poly.length:Int)-1).toNat)):=by
 have hgo:=ZA (B:=Zca poly) (fun j=>ys.take ((ys.length:Int)-j).toNat) (i:=0) (n:=(ys.length:Int)-((poly.length:Int)-1)) (by omega) fun j h0 h1=>by
  have hl:(ys.take ((ys.length:Int)-j).toNat).length=((ys.length:Int)-j).toNat:=by rw [List.length_take];omega
  have e:(List.take ((((ys.length:Int)-j).toNat:Int)-1).toNat (ys.take ((ys.length:Int)-j).toNat)).drop (0:Int).toNat=ys.take ((ys.length:Int)-(j+1)).toNat:=by
   rw [show (0:Int).toNat=0 from rfl,List.drop_zero,List.take_take]
   congr 1
   omega
  simp (disch:=omega) only [pz,Zca,hl,ZaX,e]
 have e0:ys=(fun j:Int=>ys.take ((ys.length:Int)-j).toNat) 0:=by simp
 conv=>lhs;rw [e0]
 rw [hgo]
 refine Zc ?_
 have e1:(ys.length:Int)-((ys.length:Int)-((poly.length:Int)-1))=(poly.length:Int)-1:=by omega
 have hl:(ys.take ((poly.length:Int)-1).toNat).length=((poly.length:Int)-1).toNat:=by rw [List.length_take];omega
 simp (disch:=omega) only [pz,Zca,e1,hl]
theorem Zxh {p y:Int} {poly ys:List Int} (hp:2≤p) (hp2:p≤64) (hP:In p poly) (hy:In p ys) (hl:(ys.length:Int)≤4096) (h1:1≤(poly.length:Int)) (h2:(poly.length:Int)-1≤y) (h3:y<ys.length):
  Zbc poly p (y,ys)=some (.inl (y-1,axAt p (p-ix ys y) poly (y-((poly.length:Int)-1)) ys)):=by
 have hg:0≤y:=by omega
 obtain ⟨g1,g2⟩:=hy y (by omega) h3
 simp (disch:=omega) only [pz,Zbc]
 rw [Zee (p:=p) (c:=p-ix ys y) (off:=y-((poly.length:Int)-1)) (ws:=poly) (by omega) (by omega) fun j zs j0 j1 hz he=>by
  obtain ⟨g3,g4⟩:=hP j j0 j1
  obtain ⟨g5,g6⟩:=hy (y-((poly.length:Int)-1)+j) (by omega) (by omega)
  obtain ⟨g7,g8⟩:=ZfU (a:=p-ix ys y) (b:=ix poly j) (by omega) (by omega) g3 (Int.le_of_lt g4) hp2
  have t1:=Int.tmod_eq_emod_of_nonneg (b:=p) (a:=ix ys (y-((poly.length:Int)-1)+j)+(p-ix ys y)*ix poly j) (by omega)
  have e:y-(poly.length:Int)+1+j=y-((poly.length:Int)-1)+j:=by omega
  simp (disch:=omega) only [pz,ZdB,e,he,t1]]
 refine Zc ?_
 simp (disch:=omega) only [pz,ZdB]
theorem Zwq {p y:Int} {poly ys:List Int} (hp:2≤p) (hp2:p≤64) (hP:In p poly) (hy:In p ys) (hl:(ys.length:Int)≤4096) (h1:1≤(poly.length:Int)) (h2:(poly.length:Int)-1≤y) (h3:y<ys.length):
  Za1 poly p (y,ys)=some (.inl (y-1,axAt p (p-ix ys y) poly (y-((poly.length:Int)-1)) ys)):=by
 have hg:0≤y:=by omega
 obtain ⟨g1,g2⟩:=hy y (by omega) h3
 simp (disch:=omega) only [pz,Za1]
 rw [Zee (p:=p) (c:=p-ix ys y) (off:=y-((poly.length:Int)-1)) (ws:=poly) (by omega) (by omega) fun j zs j0 j1 hz he=>by
  obtain ⟨g3,g4⟩:=hP j j0 j1
  obtain ⟨g5,g6⟩:=hy (y-((poly.length:Int)-1)+j) (by omega) (by omega)
  obtain ⟨g7,g8⟩:=ZfU (a:=ix ys y) (b:=ix poly j) (by omega) (by omega) g3 (Int.le_of_lt g4) hp2
  generalize hX:ix ys (y-((poly.length:Int)-1)+j)=X at *
  generalize hM:ix ys y*ix poly j=M at *
  have b1:=Int.lt_tmod_of_pos (X-M) (by omega:(0:Int)<p)
  have b2:=Int.tmod_lt_of_pos (X-M) (by omega:(0:Int)<p)
  have t1:=Int.tmod_eq_emod_of_nonneg (b:=p) (a:=(X-M).tmod p+p) (by omega)
  have t2:((X-M).tmod p+p)%p=(X+(p-ix ys y)*ix poly j)%p:=by
   rw [Int.add_emod_right,Int.sub_mul,hM]
   have h9:=Int.mul_tdiv_add_tmod (X-M) p
   have:(X+(p*ix poly j-M))=(X-M).tmod p+p*((X-M).tdiv p+ix poly j):=by
    rw [Int.mul_add];omega
   rw [this,Int.add_mul_emod_self_left]
  simp (disch:=omega) only [pz,Zdi,he,hM,t1,t2]]
 refine Zc ?_
 simp (disch:=omega) only [pz,Zdi]
theorem Zub {p:Int} {poly xs:List Int} (hp:2≤p) (hp2:p≤64) (hP:In p poly) (hx:In p xs) (hl:(xs.length:Int)≤4096) (h1:1≤(poly.length:Int)) (h2:(poly.length:Int)-1≤xs.length):
  ZcF xs poly p=some ((rstN p poly xs ((xs.length:Int)-((poly.length:Int)-1)).toNat).take ((poly.length:Int)-1).toNat):=by
 unfold ZcF
 rw [ZrB (by omega)]
 show loop (Zbc poly p) (IntKind.i64.wrap ((xs.length:Int)-1),xs)=_
 rw [wr64 (by omega) (by omega)]
 have hgo:=ZA (B:=Zbc poly p) (fun m=>((xs.length:Int)-1-m,rstN p poly xs m.toNat)) (i:=0) (n:=(xs.length:Int)-((poly.length:Int)-1)) (by omega) fun m m0 m1=>by
  have hL:=Zbl (p:=p) (poly:=poly) (xs:=xs) m.toNat
  show Zbc poly p ((xs.length:Int)-1-m,_)=_
  rw [Zxh hp hp2 hP (ZhI hp hx _) (by omega) h1 (by omega) (by omega),Zqs m0,show (xs.length:Int)-1-(m+1)=(xs.length:Int)-1-m-1 by omega]
 have e0:((xs.length:Int)-1,xs)=(fun m:Int=>((xs.length:Int)-1-m,rstN p poly xs m.toNat)) 0:=by
  show _=((xs.length:Int)-1-0,xs)
  rw [Int.sub_zero]
 rw [e0,hgo]
 refine Zc ?_
 have hL:=Zbl (p:=p) (poly:=poly) (xs:=xs) ((xs.length:Int)-((poly.length:Int)-1)).toNat
 have e1:(xs.length:Int)-1-((xs.length:Int)-((poly.length:Int)-1))=(poly.length:Int)-2:=by omega
 simp (disch:=omega) only [pz,Zbc,e1]
 rw [Zur (by omega) h1 (by omega)]
theorem Zw0 {p:Int} {poly xs:List Int} (hp:2≤p) (hp2:p≤64) (hP:In p poly) (hx:In p xs) (hl:(xs.length:Int)≤4096) (h1:1≤(poly.length:Int)) (h2:(poly.length:Int)-1≤xs.length):
  ZcH xs poly p=some ((rstN p poly xs ((xs.length:Int)-((poly.length:Int)-1)).toNat).take ((poly.length:Int)-1).toNat):=by
 unfold ZcH
 rw [Zlx (by omega)]
 show loop (Za1 poly p) (IntKind.i64.wrap ((xs.length:Int)-1),xs)=_
 rw [wr64 (by omega) (by omega)]
 have hgo:=ZA (B:=Za1 poly p) (fun m=>((xs.length:Int)-1-m,rstN p poly xs m.toNat)) (i:=0) (n:=(xs.length:Int)-((poly.length:Int)-1)) (by omega) fun m m0 m1=>by
  have hL:=Zbl (p:=p) (poly:=poly) (xs:=xs) m.toNat
  show Za1 poly p ((xs.length:Int)-1-m,_)=_
  rw [Zwq hp hp2 hP (ZhI hp hx _) (by omega) h1 (by omega) (by omega),Zqs m0,show (xs.length:Int)-1-(m+1)=(xs.length:Int)-1-m-1 by omega]
 have e0:((xs.length:Int)-1,xs)=(fun m:Int=>((xs.length:Int)-1-m,rstN p poly xs m.toNat)) 0:=by
  show _=((xs.length:Int)-1-0,xs)
  rw [Int.sub_zero]
 rw [e0,hgo]
 refine Zc ?_
 have hL:=Zbl (p:=p) (poly:=poly) (xs:=xs) ((xs.length:Int)-((poly.length:Int)-1)).toNat
 have e1:(xs.length:Int)-1-((xs.length:Int)-((poly.length:Int)-1))=(poly.length:Int)-2:=by omega
 simp (disch:=omega) only [pz,Za1,e1,hL,ite_f,ZaX]
 rfl
def mulA (f:Zd) (a b:Int):Int:=
 nm f.Prime ((rstN f.Prime f.Poly (cnvN f.Prime (dig f.Prime f.Degree a) (dig f.Prime f.Degree b) (List.replicate (2*f.Degree-1).toNat 0) f.Degree.toNat) (f.Degree-1).toNat).take f.Degree.toNat)
theorem Zbb {p:Int} {as bs xs:List Int}:∀ m,(cnvN p as bs xs m).length=xs.length
 | 0=>rfl
 | m+1=>by show (axAt _ _ _ _ _).length=_;rw [Za8,Zbb m]
theorem ZbG {p:Int} {as bs xs:List Int} (hp:2≤p) (hx:In p xs):∀ m,In p (cnvN p as bs xs m)
 | 0=>hx
 | m+1=>ZiF hp (ZbG hp hx m)
theorem Zrz {p:Int} {as bs xs:List Int} {m:Int} (h:0≤m):cnvN p as bs xs (m+1).toNat=axAt p (ix as m) bs m (cnvN p as bs xs m.toNat):=by
 rw [show (m+1).toNat=m.toNat+1 by omega]
 show axAt _ _ _ _ _=_
 rw [show (m.toNat:Int)=m by omega]
theorem ZgR {p n:Int} (hp:2≤p):In p (List.replicate n.toNat 0):=fun i h0 h1=>by
 rw [List.length_replicate] at h1
 rw [ZqU h0 h1];omega
theorem ZoH {p:Int} {xs:List Int} {n:Int} (h:In p xs):In p (xs.take n.toNat):=fun i h0 h1=>by
 rw [List.length_take] at h1
 rw [Zdf h0 (by omega)]
 exact h i h0 (by omega)
theorem ZzG {f:Zd} (hf:Fd f) {as bs ys:List Int} {i:Int} (ha:In f.Prime as) (hb:In f.Prime bs) (hy:In f.Prime ys) (hl:(ys.length:Int)≤4096) (h0:0≤i) (h1:i<as.length) (h2:i+(bs.length:Int)≤ys.length):
  Zcv f as bs (i,ys)=some (.inl (i+1,axAt f.Prime (ix as i) bs i ys)):=by
 have:=hf.p2;have:=hf.p64
 obtain ⟨g1,g2⟩:=ha i h0 h1
 simp (disch:=omega) only [pz,Zcv]
 rw [Zee (p:=f.Prime) (c:=ix as i) (off:=i) (ws:=bs) (by omega) (by omega) fun j zs j0 j1 hz he=>by
  obtain ⟨g3,g4⟩:=hb j j0 j1
  obtain ⟨g5,g6⟩:=hy (i+j) (by omega) (by omega)
  obtain ⟨g7,g8⟩:=ZfU (a:=ix as i) (b:=ix bs j) (by omega) (Int.le_of_lt g2) g3 (Int.le_of_lt g4) hf.p64
  have t1:=Int.tmod_eq_emod_of_nonneg (b:=f.Prime) (a:=ix ys (i+j)+ix as i*ix bs j) (by omega)
  simp (disch:=omega) only [pz,Zha,he,t1]]
 refine Zc ?_
 simp (disch:=omega) only [pz,Zha]
theorem ZvI {f:Zd} (hf:Fd f) {as bs ys:List Int} {i:Int} (ha:In f.Prime as) (hb:In f.Prime bs) (hy:In f.Prime ys) (hl:(ys.length:Int)≤4096) (h0:0≤i) (h1:i<as.length) (h2:i+(bs.length:Int)≤ys.length):
  ZcE f as bs (i,ys)=some (.inl (i+1,axAt f.Prime (ix as i) bs i ys)):=by
 have:=hf.p2;have:=hf.p64
 obtain ⟨g1,g2⟩:=ha i h0 h1
 simp (disch:=omega) only [pz,ZcE]
 rw [Zee (p:=f.Prime) (c:=ix as i) (off:=i) (ws:=bs) (by omega) (by omega) fun j zs j0 j1 hz he=>by
  obtain ⟨g3,g4⟩:=hb j j0 j1
  obtain ⟨g5,g6⟩:=hy (i+j) (by omega) (by omega)
  obtain ⟨g7,g8⟩:=ZfU (a:=ix as i) (b:=ix bs j) (by omega) (Int.le_of_lt g2) g3 (Int.le_of_lt g4) hf.p64
  have t1:=Int.tmod_eq_emod_of_nonneg (b:=f.Prime) (a:=ix ys (i+j)+ix as i*ix bs j) (by omega)
  simp (disch:=omega) only [pz,ZgO,he,t1]]
 refine Zc ?_
 simp (disch:=omega) only [pz,ZgO]
end Go.Proofs.YtmmbnjijjdakmaaGreatDoor
namespace Go.Proofs.YtmmbnjijjdakmaaGreatDoor
set_option linter.unusedVariables false
open Go Go.Vc
set_option linter.unusedSimpArgs false
theorem Zqd {f:Zd} (hf:Fd f) (a b:Int):ZaP ((rstN f.Prime f.Poly (cnvN f.Prime (dig f.Prime f.Degree a) (dig f.Prime f.Degree b) (List.replicate (2*f.Degree-1).toNat 0) f.Degree.toNat) (f.Degree-1).toNat).take f.Degree.toNat) f.Prime=some (mulA f a b):=by
 have:=hf.p2;have:=hf.p64;have:=hf.k1;have:=hf.k6
 have hl:((rstN f.Prime f.Poly (cnvN f.Prime (dig f.Prime f.Degree a) (dig f.Prime f.Degree b) (List.replicate (2*f.Degree-1).toNat 0) f.Degree.toNat) (f.Degree-1).toNat).take f.Degree.toNat).length=f.Degree.toNat:=by
  rw [List.length_take,Zbl,Zbb,List.length_replicate];omega
 refine Zo0 (by omega) (by omega) (ZoH (ZhI (by omega) (ZbG (by omega) (ZgR (by omega)) _) _)) (by omega) ?_
 rw [hl]
 exact hf.w64
theorem Zj2 {f:Zd} (hf:Fd f) {a b:Int} (ha:0≤a) (ha2:a≤4096) (hb:0≤b) (hb2:b≤4096):ZdP f a b=some (mulA f a b):=by
 have:=hf.p2;have:=hf.p64;have:=hf.k1;have:=hf.k6;have hpl:=hf.pl
 have hla:=Zax (p:=f.Prime) (k:=f.Degree) (a:=a) (by omega)
 have hlb:=Zax (p:=f.Prime) (k:=f.Degree) (a:=b) (by omega)
 unfold ZdP
 rw [Zig ha (by omega) (by omega) (by omega) (by omega) (by omega),Zig hb (by omega) (by omega) (by omega) (by omega) (by omega)]
 simp (disch:=omega) only [pz,ZdO]
 have hin:=ZgR (p:=f.Prime) (n:=2*f.Degree-1) (by omega)
 have hrl:(List.replicate (2*f.Degree-1).toNat (0:Int)).length=(2*f.Degree-1).toNat:=List.length_replicate
 have hgo:=ZA (B:=Zcv f (dig f.Prime f.Degree a) (dig f.Prime f.Degree b)) (fun i=>(i,cnvN f.Prime (dig f.Prime f.Degree a) (dig f.Prime f.Degree b) (List.replicate (2*f.Degree-1).toNat 0) i.toNat)) (i:=0) (n:=f.Degree) (by omega) fun i h0 h1=>by
  have hL:=Zbb (p:=f.Prime) (as:=dig f.Prime f.Degree a) (bs:=dig f.Prime f.Degree b) (xs:=List.replicate (2*f.Degree-1).toNat 0) i.toNat
  show Zcv _ _ _ (i,_)=_
  rw [ZzG hf (ZbA (by omega)) (ZbA (by omega)) (ZbG (by omega) hin _) (by omega) h0 (by omega) (by omega),Zrz h0]
 have e0:((0:Int),List.replicate (2*f.Degree-1).toNat (0:Int))=(fun i:Int=>(i,cnvN f.Prime (dig f.Prime f.Degree a) (dig f.Prime f.Degree b) (List.replicate (2*f.Degree-1).toNat 0) i.toNat)) 0:=rfl
 rw [e0,hgo]
 refine Zc ?_
 have hL:=Zbb (p:=f.Prime) (as:=dig f.Prime f.Degree a) (bs:=dig f.Prime f.Degree b) (xs:=List.replicate (2*f.Degree-1).toNat 0) f.Degree.toNat
 have hR:=Zub (p:=f.Prime) (poly:=f.Poly) (xs:=cnvN f.Prime (dig f.Prime f.Degree a) (dig f.Prime f.Degree b) (List.replicate (2*f.Degree-1).toNat 0) f.Degree.toNat) (by omega) (by omega) hf.rng (ZbG (by omega) hin _) (by omega) (by omega) (by omega)
 rw [show ((cnvN f.Prime (dig f.Prime f.Degree a) (dig f.Prime f.Degree b) (List.replicate (2*f.Degree-1).toNat 0) f.Degree.toNat).length:Int)-((f.Poly.length:Int)-1)=f.Degree-1 by omega,show (f.Poly.length:Int)-1=f.Degree by omega] at hR
 simp (disch:=omega) only [pz,Zcv,hR,Zqd hf a b]
theorem Zrv {p c off z:Int} {ws xs:List Int} (h:off+(ws.length:Int)≤xs.length):axAt p c ws off (xs++[z])=axAt p c ws off xs++[z]:=by
 apply ZdG
 ·rw [Za8,List.length_append,List.length_append,Za8]
 ·intro i i0 i1
  rw [Za8,List.length_append] at i1
  have i2:i<(xs.length:Int)+1:=by simpa using i1
  unfold axAt
  rw [Z3 i0 (by rw [List.length_append];exact i1)]
  by_cases hi:i<(xs.length:Int)
  ·rw [Zod i0 hi,Zod i0 (by rw [ZJ];omega),Z3 i0 (by omega)]
  ·rw [if_neg (by omega),Zlc (by omega),Zlc (by rw [ZJ];omega),ZJ]
   congr 2
theorem Zou {p z:Int} {as bs xs:List Int} {k:Nat} (h:(k:Int)-1+(bs.length:Int)≤xs.length):∀ m,m≤k→cnvN p as bs (xs++[z]) m=cnvN p as bs xs m++[z]
 | 0,_=>rfl
 | m+1,hm=>by
  show axAt _ _ _ _ (cnvN p as bs (xs++[z]) m)=axAt _ _ _ _ _++[z]
  rw [Zou h m (by omega),Zrv (by rw [Zbb];omega)]
theorem Zth {p off:Int} {ws xs:List Int} (hx:In p xs):axAt p p ws off xs=xs:=by
 refine Eq.trans (ZZ fun i i0 i1=>?_) (ZcS xs)
 obtain ⟨h1,h2⟩:=hx i i0 i1
 split
 ·rw [Int.add_mul_emod_self_left,Int.emod_eq_of_lt h1 h2]
 ·rfl
theorem Zre {p:Int} {poly xs:List Int} (hp:2≤p) (hx:In p xs) (hx0:In p (xs++[0])) (h1:1≤(poly.length:Int)):∀ m:Nat,(m:Int)+((poly.length:Int)-1)≤xs.length→rstN p poly (xs++[0]) (m+1)=rstN p poly xs m++[0]
 | 0,h=>by
  show axAt p (p-ix (xs++[0]) _) _ _ (xs++[0])=xs++[0]
  rw [Zlc (by rw [List.length_append];simp),List.length_append]
  rw [show (((xs.length+[(0:Int)].length:Nat):Int)-1-((0:Nat):Int)-(xs.length:Int))=0 by simp,Zps,Int.sub_zero,Zth hx0]
 | m+1,h=>by
  have hL:=Zbl (p:=p) (poly:=poly) (xs:=xs) m
  show axAt p (p-ix (rstN p poly (xs++[0]) (m+1)) _) poly _ (rstN p poly (xs++[0]) (m+1))=axAt _ _ _ _ _++[0]
  rw [Zre hp hx hx0 h1 m (by omega),List.length_append]
  rw [show (((xs.length+[(0:Int)].length:Nat):Int)-1-((m+1:Nat):Int))=(xs.length:Int)-1-(m:Int) by simp;omega]
  rw [Zod (by omega) (by omega),Zrv (by omega)]
theorem ZAt {f:Zd} (hf:Fd f) {a b:Int} (ha:0≤a) (ha2:a≤4096) (hb:0≤b) (hb2:b≤4096):Zg0 f a b=some (mulA f a b):=by
 have:=hf.p2;have:=hf.p64;have:=hf.k1;have:=hf.k6;have hpl:=hf.pl
 have hla:=Zax (p:=f.Prime) (k:=f.Degree) (a:=a) (by omega)
 have hlb:=Zax (p:=f.Prime) (k:=f.Degree) (a:=b) (by omega)
 unfold Zg0
 rw [Zjy ha (by omega) (by omega) (by omega) (by omega) (by omega),Zjy hb (by omega) (by omega) (by omega) (by omega) (by omega)]
 simp (disch:=omega) only [pz,ZdO]
 have hin:=ZgR (p:=f.Prime) (n:=2*f.Degree-1) (by omega)
 have hin2:=ZgR (p:=f.Prime) (n:=2*f.Degree) (by omega)
 have hrl:(List.replicate (2*f.Degree).toNat (0:Int)).length=(2*f.Degree).toNat:=List.length_replicate
 have hrl2:(List.replicate (2*f.Degree-1).toNat (0:Int)).length=(2*f.Degree-1).toNat:=List.length_replicate
 have erep:List.replicate (2*f.Degree).toNat (0:Int)=List.replicate (2*f.Degree-1).toNat 0++[0]:=by
  rw [show (2*f.Degree).toNat=(2*f.Degree-1).toNat+1 by omega,List.replicate_succ']
 have hgo:=ZA (B:=ZcE f (dig f.Prime f.Degree a) (dig f.Prime f.Degree b)) (fun i=>(i,cnvN f.Prime (dig f.Prime f.Degree a) (dig f.Prime f.Degree b) (List.replicate (2*f.Degree).toNat 0) i.toNat)) (i:=0) (n:=f.Degree) (by omega) fun i h0 h1=>by
  have hL:=Zbb (p:=f.Prime) (as:=dig f.Prime f.Degree a) (bs:=dig f.Prime f.Degree b) (xs:=List.replicate (2*f.Degree).toNat 0) i.toNat
  show ZcE _ _ _ (i,_)=_
  rw [ZvI hf (ZbA (by omega)) (ZbA (by omega)) (ZbG (by omega) hin2 _) (by omega) h0 (by omega) (by omega),Zrz h0]
 have e0:((0:Int),List.replicate (2*f.Degree).toNat (0:Int))=(fun i:Int=>(i,cnvN f.Prime (dig f.Prime f.Degree a) (dig f.Prime f.Degree b) (List.replicate (2*f.Degree).toNat 0) i.toNat)) 0:=rfl
 rw [e0,hgo]
 refine Zc ?_
 have hL:=Zbb (p:=f.Prime) (as:=dig f.Prime f.Degree a) (bs:=dig f.Prime f.Degree b) (xs:=List.replicate (2*f.Degree).toNat 0) f.Degree.toNat
 have hR:=Zw0 (p:=f.Prime) (poly:=f.Poly) (xs:=cnvN f.Prime (dig f.Prime f.Degree a) (dig f.Prime f.Degree b) (List.replicate (2*f.Degree).toNat 0) f.Degree.toNat) (by omega) (by omega) hf.rng (ZbG (by omega) hin2 _) (by omega) (by omega) (by omega)
 rw [show ((cnvN f.Prime (dig f.Prime f.Degree a) (dig f.Prime f.Degree b) (List.replicate (2*f.Degree).toNat 0) f.Degree.toNat).length:Int)-((f.Poly.length:Int)-1)=f.Degree by omega,show (f.Poly.length:Int)-1=f.Degree by omega] at hR
 have hA:=Zou (p:=f.Prime) (z:=0) (as:=dig f.Prime f.Degree a) (bs:=dig f.Prime f.Degree b) (xs:=List.replicate (2*f.Degree-1).toNat 0) (k:=f.Degree.toNat) (by omega) f.Degree.toNat (Nat.le_refl _)
 have hL2:=Zbb (p:=f.Prime) (as:=dig f.Prime f.Degree a) (bs:=dig f.Prime f.Degree b) (xs:=List.replicate (2*f.Degree-1).toNat 0) f.Degree.toNat
 have hB:=Zre (p:=f.Prime) (poly:=f.Poly) (by omega) (ZbG (p:=f.Prime) (as:=dig f.Prime f.Degree a) (bs:=dig f.Prime f.Degree b) (by omega) hin f.Degree.toNat) (by rw [←hA,←erep];exact ZbG (by omega) hin2 _) (by omega) (f.Degree-1).toNat (by omega)
 rw [←erep] at hA
 rw [show (f.Degree-1).toNat+1=f.Degree.toNat by omega] at hB
 rw [hA] at hR ⊢
 rw [hB,List.take_append_of_le_length (by rw [Zbl];omega)] at hR
 simp (disch:=omega) only [pz,ZcE,hR,Zrg,Zqd hf a b]
end Go.Proofs.YtmmbnjijjdakmaaGreatDoor
