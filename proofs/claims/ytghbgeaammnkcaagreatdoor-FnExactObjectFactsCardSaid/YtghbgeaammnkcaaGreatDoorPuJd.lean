import Derived.Test.YtghbgeaammnkcaaGreatDoorPuJa
namespace Go.Proofs.YtghbgeaammnkcaaGreatDoor
open Go Go.Vc
set_option linter.unusedSimpArgs false
set_option linter.unusedVariables false
def qd (p a:Int):Nat→Int
 | 0=>a
 | i+1=>qd p a i/p
def pwN (p:Int):Nat→Int
 | 0=>1
 | i+1=>pwN p i*p
def dig (p:Int) (k:Int) (a:Int):List Int:=tabl k fun j=>qd p a j.toNat%p
def nmN (p:Int) (xs:List Int):Nat→Int
 | 0=>0
 | m+1=>nmN p xs m*p+ix xs ((xs.length:Int)-1-(m:Int))
def nm (p:Int) (xs:List Int):Int:=nmN p xs xs.length
def axAt (p c:Int) (ws:List Int) (off:Int) (xs:List Int):List Int:=tabl xs.length fun i=>if off≤i∧i<off+(ws.length:Int) then (ix xs i+c*ix ws (i-off))%p else ix xs i
def cnvN (p:Int) (as bs xs:List Int):Nat→List Int
 | 0=>xs
 | i+1=>axAt p (ix as (i:Int)) bs (i:Int) (cnvN p as bs xs i)
def rstN (p:Int) (poly:List Int) (xs:List Int):Nat→List Int
 | 0=>xs
 | m+1=>axAt p (p-ix (rstN p poly xs m) ((xs.length:Int)-1-(m:Int))) poly ((xs.length:Int)-1-(m:Int)-((poly.length:Int)-1)) (rstN p poly xs m)
def In (p:Int) (xs:List Int):Prop:=∀ i,0≤i→i<(xs.length:Int)→0≤ix xs i∧ix xs i<p
theorem Zdd {p a:Int} (ha:0≤a) (hp:2≤p):∀ i:Nat,0≤qd p a i∧qd p a i≤a
 | 0=>⟨ha,Int.le_refl _⟩
 | i+1=>by
  obtain ⟨b,c⟩:=Zdd ha hp i
  have e:0≤qd p a i/p:=Int.ediv_nonneg b (by omega)
  have f:qd p a i/p≤qd p a i:=Int.ediv_le_self _ b
  exact ⟨e,Int.le_trans f c⟩
theorem Zro {p a:Int} {i:Int} (h:0≤i):qd p a (i+1).toNat=qd p a i.toNat/p:=by
 rw [show (i+1).toNat=i.toNat+1 by omega];rfl
theorem Zas {p k a:Int} (h:0≤k):((dig p k a).length:Int)=k:=by unfold dig;rw [Zk];omega
theorem ZbK {p k a:Int} (hp:2≤p):In p (dig p k a):=fun i c b=>by
 unfold dig at b ⊢
 rw [Zk] at b
 rw [Zq c (by omega)]
 exact ⟨Int.emod_nonneg _ (by omega),Int.emod_lt_of_pos _ (by omega)⟩
theorem Zll {p a k:Int} (ha:0≤a) (o:a≤4611686018427387904) (hp:2≤p) (r:p≤64) (hk:0≤k) (s:k≤64):Zbd a p k=some (dig p k a):=by
 unfold Zbd
 have hgo:=Zj (B:=Zc1 p) (fun i=>(qd p a i.toNat,k-i,tabl i fun j=>qd p a j.toNat%p)) (i:=0) (n:=k) hk fun i t u=>by
  obtain ⟨c,v⟩:=Zdd ha hp i.toNat
  have f:=Int.tmod_eq_emod_of_nonneg (b:=p) c
  have g:=Int.tdiv_eq_ediv_of_nonneg (b:=p) c
  obtain ⟨h,l⟩:=Zdd ha hp (i.toNat+1)
  have hl:(tabl i fun j=>qd p a j.toNat%p).length=i.toNat:=Zk
  have e:k-(i+1)=k-i-1:=by omega
  have g3':0≤qd p a i.toNat/p:=h
  have g4':qd p a i.toNat/p≤a:=l
  simp (disch:=omega) only [pz,Zc1,f,g,gApp1,hl,Zro,Za6,e]
 have m:(a,k,([]:List Int))=(fun i:Int=>(qd p a i.toNat,k-i,tabl i fun j=>qd p a j.toNat%p)) 0:=by simp [qd,ZBq]
 rw [m,hgo]
 refine Zc ?_
 simp (disch:=omega) only [pz,Zc1,Int.sub_self]
 rfl
theorem ZN {α:Type} {n:Int} {f g:Int→α} (h:∀ i,0≤i→i<n→f i=g i):tabl n f=tabl n g:=by
 unfold tabl
 apply List.map_congr_left
 intro j hj
 rw [List.mem_range] at hj
 exact h j (by omega) (by omega)
theorem Zav {α:Type} [Inhabited α] {n:Int} {f g:Int→α} {k:Int} (b:0≤k) (c:k<n) (hg:∀ i,0≤i→i<n→i≠k→g i=f i) {y:α} (hy:y=g k):(tabl n f).set k.toNat y=tabl n g:=by
 apply Za1
 ·rw [List.length_set,Zk,Zk]
 ·intro i a e
  rw [List.length_set,Zk] at e
  by_cases h:k=i
  ·subst h
   rw [ZcG b (by rw [Zk];omega),Zq b c,hy]
  ·rw [Zib b a h,Zq a (by omega),Zq a (by omega),hg i a (by omega) (by omega)]
theorem Zbp {α:Type} [Inhabited α] (xs:List α):tabl xs.length (fun i=>ix xs i)=xs:=by
 apply Za1
 ·rw [Zk];omega
 ·intro i a b
  rw [Zk] at b
  rw [Zq a (by omega)]
theorem ZeK {α:Type} [Inhabited α] {n:Int} {z:α}:List.replicate n.toNat z=tabl n fun _=>z:=by
 apply Za1
 ·rw [Zk,List.length_replicate]
 ·intro i a b
  rw [List.length_replicate] at b
  rw [Zq a (by omega),Zhz a (by omega)]
theorem Zig {p a k:Int} (ha:0≤a) (v:a≤4611686018427387904) (hp:2≤p) (w:p≤64) (hk:0≤k) (x:k≤64):ZaR a p k=some (dig p k a):=by
 unfold ZaR
 rw [ZaN hk (by omega) (by omega)]
 show loop (Zca p (List.replicate k.toNat 0)) (a,0,List.replicate k.toNat 0)=_
 have hgo:=Zj (B:=Zca p (List.replicate k.toNat 0)) (fun i=>(qd p a i.toNat,i,tabl k fun j=>if j<i then qd p a j.toNat%p else 0)) (i:=0) (n:=k) hk fun i g h=>by
  obtain ⟨e,y⟩:=Zdd ha hp i.toNat
  have l:=Int.tmod_eq_emod_of_nonneg (b:=p) e
  have m:=Int.tdiv_eq_ediv_of_nonneg (b:=p) e
  obtain ⟨o,r⟩:=Zdd ha hp (i.toNat+1)
  have hl:(tabl k fun j=>if j<i then qd p a j.toNat%p else 0).length=k.toNat:=Zk
  have c:(List.replicate k.toNat (0:Int)).length=k.toNat:=List.length_replicate
  have g3':0≤qd p a i.toNat/p:=o
  have g4':qd p a i.toNat/p≤a:=r
  have hset:(tabl k fun j=>if j<i then qd p a j.toNat%p else 0).set i.toNat (qd p a i.toNat%p)=tabl k fun j=>if j<i+1 then qd p a j.toNat%p else 0:=by
   apply Zav g h
   ·intro j s f j2
    by_cases hj:j<i
    ·rw [if_pos hj,if_pos (by omega)]
    ·rw [if_neg hj,if_neg (by omega)]
   ·rw [if_pos (by omega)]
  simp (disch:=omega) only [pz,Zca,l,m,hl,c,Zro,hset]
 have t:(a,(0:Int),List.replicate k.toNat (0:Int))=(fun i:Int=>(qd p a i.toNat,i,tabl k fun j=>if j<i then qd p a j.toNat%p else 0)) 0:=by
  show _=(a,(0:Int),_)
  rw [ZeK]
  congr 2
 rw [t,hgo]
 refine Zc ?_
 have c:(List.replicate k.toNat (0:Int)).length=k.toNat:=List.length_replicate
 have u:(tabl k fun j=>if j<k then qd p a j.toNat%p else 0)=dig p k a:=by
  unfold dig
  exact ZN fun j s f=>by rw [if_pos f]
 simp (disch:=omega) only [pz,Zca,c,u]
theorem ZaQ {p:Int} (hp:2≤p):∀ m:Nat,1≤pwN p m
 | 0=>Int.le_refl _
 | m+1=>by
  have h:=ZaQ hp m
  have:1*2≤pwN p m*p:=Int.mul_le_mul h hp (by omega) (by omega)
  show 1≤pwN p m*p
  omega
theorem ZlG {p:Int} (hp:2≤p) {m:Nat}:∀ d:Nat,pwN p m≤pwN p (m+d)
 | 0=>Int.le_refl _
 | d+1=>by
  have h:=ZlG (m:=m) hp d
  have a:=ZaQ hp (m+d)
  have:pwN p (m+d)*1≤pwN p (m+d)*p:=Int.mul_le_mul_of_nonneg_left (by omega) (by omega)
  show _≤pwN p (m+d)*p
  omega
theorem Zkg {p:Int} {xs:List Int} (hp:2≤p) (a:In p xs):∀ m:Nat,m≤xs.length→0≤nmN p xs m∧nmN p xs m<pwN p m
 | 0,_=>⟨Int.le_refl _,by show (0:Int)<1;omega⟩
 | m+1,hm=>by
  obtain ⟨b,e⟩:=Zkg hp a m (by omega)
  obtain ⟨f,g⟩:=a ((xs.length:Int)-1-m) (by omega) (by omega)
  have h:0≤nmN p xs m*p:=Int.mul_nonneg b (by omega)
  have c:(nmN p xs m+1)*p≤pwN p m*p:=Int.mul_le_mul_of_nonneg_right (by omega) (by omega)
  rw [Int.add_mul,Int.one_mul] at c
  refine ⟨?_,?_⟩
  ·show 0≤nmN p xs m*p+ix xs ((xs.length:Int)-1-(m:Int))
   omega
  ·show nmN p xs m*p+ix xs ((xs.length:Int)-1-(m:Int))<pwN p m*p
   omega
theorem Zsw {p:Int} {xs:List Int} (hp:2≤p) (h:p≤64) (a:In p xs) (hl:xs.length≤64) (hw:pwN p xs.length≤64):Zbe xs p=some (nm p xs):=by
 unfold Zbe
 have hgo:=Zj (B:=ZeJ xs p) (fun m=>(nmN p xs m.toNat,(xs.length:Int)-1-m)) (i:=0) (n:=xs.length) (by omega) fun m j k=>by
  obtain ⟨c,l⟩:=Zkg hp a m.toNat (by omega)
  obtain ⟨o,r⟩:=Zkg hp a (m.toNat+1) (by omega)
  have e:=ZlG hp (m:=m.toNat+1) (xs.length-(m.toNat+1))
  rw [show m.toNat+1+(xs.length-(m.toNat+1))=xs.length by omega] at e
  have em:nmN p xs (m.toNat+1)=nmN p xs m.toNat*p+ix xs ((xs.length:Int)-1-(m.toNat:Int)):=rfl
  rw [show (m.toNat:Int)=m by omega] at em
  have es:(m+1).toNat=m.toNat+1:=by omega
  have s:0≤nmN p xs m.toNat*p:=Int.mul_nonneg c (by omega)
  obtain ⟨t,u⟩:=a ((xs.length:Int)-1-m) (by omega) (by omega)
  have b:(xs.length:Int)-1-(m+1)=(xs.length:Int)-1-m-1:=by omega
  simp (disch:=omega) only [pz,ZeJ,es,em,b]
 have f:((0:Int),IntKind.i64.wrap ((xs.length:Int)-1))=(fun m:Int=>(nmN p xs m.toNat,(xs.length:Int)-1-m)) 0:=by
  show _=((0:Int),_)
  rw [wr64 (by omega) (by omega)]
  simp
 rw [f,hgo]
 refine Zc ?_
 have g:(xs.length:Int)-1-(xs.length:Int)=-1:=by omega
 have b:(xs.length:Int).toNat=xs.length:=by omega
 simp (disch:=omega) only [pz,ZeJ,g,b]
 rfl
theorem ZrK (xs:List Int) (p:Int):Zh8 xs p=Zbe xs p:=rfl
theorem Za0 {p c off:Int} {ws xs:List Int}:(axAt p c ws off xs).length=xs.length:=by unfold axAt;rw [Zk];omega
theorem Zl1 {p c off:Int} {ws xs:List Int} (hp:2≤p) (e:In p xs):In p (axAt p c ws off xs):=fun i a b=>by
 rw [Za0] at b
 unfold axAt
 rw [Zq a (by omega)]
 split
 ·exact ⟨Int.emod_nonneg _ (by omega),Int.emod_lt_of_pos _ (by omega)⟩
 ·exact e i a b
theorem ZfB {ρ:Type} {B:Int×List Int→Option ((Int×List Int) ⊕ ρ)} {p c off:Int} {ws xs:List Int} (k:0≤off) (l:off+(ws.length:Int)≤xs.length)
  (hs:∀ j ys,0≤j→j<(ws.length:Int)→ys.length=xs.length→ix ys (off+j)=ix xs (off+j)→B (j,ys)=some (.inl (j+1,ys.set (off+j).toNat ((ix xs (off+j)+c*ix ws j)%p)))):
  loop B (0,xs)=loop B ((ws.length:Int),axAt p c ws off xs):=by
 have hgo:=Zj (B:=B) (fun j=>(j,tabl xs.length fun i=>if off≤i∧i<off+j then (ix xs i+c*ix ws (i-off))%p else ix xs i)) (i:=0) (n:=ws.length) (by omega) fun j a b=>by
  show B (j,_)=_
  rw [hs j _ a b (by rw [Zk];omega) (by rw [Zq (by omega) (by omega),if_neg (by omega)])]
  congr 3
  apply Zav (by omega) (by omega)
  ·intro i e f m
   by_cases h:off≤i∧i<off+j
   ·rw [if_pos h,if_pos (by omega)]
   ·rw [if_neg h,if_neg (by omega)]
  ·rw [if_pos (by omega),show off+j-off=j by omega]
 have g:((0:Int),xs)=(fun j:Int=>(j,tabl xs.length fun i=>if off≤i∧i<off+j then (ix xs i+c*ix ws (i-off))%p else ix xs i)) 0:=by
  show _=((0:Int),_)
  congr 1
  refine (Zbp xs).symm.trans (ZN fun i e f=>?_)
  rw [if_neg (by omega)]
 rw [g,hgo]
 rfl
end Go.Proofs.YtghbgeaammnkcaaGreatDoor
namespace Go.Proofs.YtghbgeaammnkcaaGreatDoor
set_option linter.unusedVariables false
open Go Go.Vc
set_option linter.unusedSimpArgs false
structure Fd (f:Zd):Prop where
 p2:2≤f.Prime
 p64:f.Prime≤64
 k1:1≤f.Degree
 k6:f.Degree≤6
 pl:(f.Poly.length:Int)=f.Degree+1
 mon:ix f.Poly f.Degree=1
 rng:In f.Prime f.Poly
 w64:pwN f.Prime f.Degree.toNat≤64
def sumA (f:Zd) (a b c:Int):Int:=nm f.Prime (axAt f.Prime c (dig f.Prime f.Degree b) 0 (dig f.Prime f.Degree a))
theorem Zjh {a b p:Int} (e:0≤a) (f:a≤p) (c:0≤b) (g:b≤p) (hp:p≤64):0≤a*b∧a*b≤4096:=by
 refine ⟨Int.mul_nonneg e c,?_⟩
 have:=Int.mul_le_mul (Int.le_trans f hp) (Int.le_trans g hp) c (by omega)
 omega
theorem ZuP {f:Zd} (hf:Fd f) (a b c:Int):Zbe (axAt f.Prime c (dig f.Prime f.Degree b) 0 (dig f.Prime f.Degree a)) f.Prime=some (sumA f a b c):=by
 have:=hf.p2;have:=hf.p64;have:=hf.k1;have:=hf.k6
 have hl:=Zas (p:=f.Prime) (k:=f.Degree) (a:=a) (by omega)
 refine Zsw (by omega) (by omega) (Zl1 (by omega) (ZbK (by omega))) (by rw [Za0];omega) ?_
 rw [Za0,show (dig f.Prime f.Degree a).length=f.Degree.toNat by omega]
 exact hf.w64
theorem ZtX {f:Zd} (hf:Fd f) {a b c:Int} (ha:0≤a) (o:a≤4096) (h:0≤b) (r:b≤4096) (i:0≤c) (e:c≤f.Prime):ZfH f a b c=some (sumA f a b c):=by
 have:=hf.p2;have:=hf.p64;have:=hf.k1;have:=hf.k6
 have hla:=Zas (p:=f.Prime) (k:=f.Degree) (a:=a) (by omega)
 have hlb:=Zas (p:=f.Prime) (k:=f.Degree) (a:=b) (by omega)
 unfold ZfH
 rw [Zll ha (by omega) (by omega) (by omega) (by omega) (by omega),Zll h (by omega) (by omega) (by omega) (by omega) (by omega)]
 show loop (ZfN f c (dig f.Prime f.Degree b)) (0,dig f.Prime f.Degree a)=_
 rw [ZfB (p:=f.Prime) (c:=c) (off:=0) (ws:=dig f.Prime f.Degree b) (by omega) (by omega) fun j ys g s hy he=>by
  rw [Int.zero_add] at he ⊢
  obtain ⟨t,u⟩:=ZbK (p:=f.Prime) (k:=f.Degree) (a:=a) (by omega) j g (by omega)
  obtain ⟨l,v⟩:=ZbK (p:=f.Prime) (k:=f.Degree) (a:=b) (by omega) j g (by omega)
  obtain ⟨w,x⟩:=Zjh i e l (by omega) hf.p64
  have m:=Int.tmod_eq_emod_of_nonneg (b:=f.Prime) (a:=ix (dig f.Prime f.Degree a) j+c*ix (dig f.Prime f.Degree b) j) (by omega)
  simp (disch:=omega) only [pz,ZfN,he,m]]
 refine Zc ?_
 simp (disch:=omega) only [pz,ZfN,Za0,ZuP hf a b c]
theorem ZBz {x y p:Int} (a:0≤x) (b:0≤y) (hp:2≤p) (hy:y<p):(x+-1*y+p)%p=(x+(p-1)*y)%p:=by
 have:x+(p-1)*y=(x+-1*y+p)+p*(y-1):=by
  rw [Int.sub_mul,Int.mul_sub,Int.one_mul];omega
 rw [this,Int.add_mul_emod_self_left]
theorem ZrT {f:Zd} (hf:Fd f) {a b c s:Int} (ha:0≤a) (t:a≤4096) (g:0≤b) (u:b≤4096) (hs:(s=1∧c=1)∨(s=-1∧c=f.Prime-1)):Zfa f a b s=some (sumA f a b c):=by
 have:=hf.p2;have:=hf.p64;have:=hf.k1;have:=hf.k6
 have hla:=Zas (p:=f.Prime) (k:=f.Degree) (a:=a) (by omega)
 have hlb:=Zas (p:=f.Prime) (k:=f.Degree) (a:=b) (by omega)
 unfold Zfa
 rw [Zig ha (by omega) (by omega) (by omega) (by omega) (by omega),Zig g (by omega) (by omega) (by omega) (by omega) (by omega)]
 show loop (Zgx f s (dig f.Prime f.Degree a) (dig f.Prime f.Degree b)) (0,dig f.Prime f.Degree a)=_
 rw [ZfB (p:=f.Prime) (c:=c) (off:=0) (ws:=dig f.Prime f.Degree b) (by omega) (by omega) fun j ys e v hy he=>by
  rw [Int.zero_add] at he ⊢
  obtain ⟨i,w⟩:=ZbK (p:=f.Prime) (k:=f.Degree) (a:=a) (by omega) j e (by omega)
  obtain ⟨l,m⟩:=ZbK (p:=f.Prime) (k:=f.Degree) (a:=b) (by omega) j e (by omega)
  have hm:-64≤s*ix (dig f.Prime f.Degree b) j∧s*ix (dig f.Prime f.Degree b) j≤64∧0≤ix (dig f.Prime f.Degree a) j+s*ix (dig f.Prime f.Degree b) j+f.Prime:=by
   rcases hs with ⟨h,_⟩|⟨h,_⟩<;>subst h<;>omega
  have o:=Int.tmod_eq_emod_of_nonneg (b:=f.Prime) (a:=ix (dig f.Prime f.Degree a) j+s*ix (dig f.Prime f.Degree b) j+f.Prime) (by omega)
  have r:(ix (dig f.Prime f.Degree a) j+s*ix (dig f.Prime f.Degree b) j+f.Prime)%f.Prime=(ix (dig f.Prime f.Degree a) j+c*ix (dig f.Prime f.Degree b) j)%f.Prime:=by
   rcases hs with ⟨h,h'⟩|⟨h,h'⟩<;>subst h<;>subst h'
   ·rw [Int.add_emod_right]
   ·exact ZBz i l (by omega) m
  simp (disch:=omega) only [pz,Zgx,he,o,r]]
 refine Zc ?_
 simp (disch:=omega) only [pz,Zgx,Za0,ZrK,ZuP hf a b c]
end Go.Proofs.YtghbgeaammnkcaaGreatDoor
namespace Go.Proofs.YtghbgeaammnkcaaGreatDoor
set_option linter.unusedVariables false
open Go Go.Vc
set_option linter.unusedSimpArgs false
theorem Zt4 {xs:List Int} (h:(xs.length:Int)≤1048576):Zbl xs=some xs:=by
 unfold Zbl
 rw [ZbN (by simp;omega) (by simp;omega)]
 rfl
theorem ZbW {p:Int} {poly xs:List Int}:∀ m,(rstN p poly xs m).length=xs.length
 | 0=>rfl
 | m+1=>by show (axAt _ _ _ _ _).length=_;rw [Za0,ZbW m]
theorem ZjP {p:Int} {poly xs:List Int} (hp:2≤p) (a:In p xs):∀ m,In p (rstN p poly xs m)
 | 0=>a
 | m+1=>Zl1 hp (ZjP hp a m)
theorem ZtV {p:Int} {poly xs:List Int} {m:Int} (h:0≤m):rstN p poly xs (m+1).toNat=axAt p (p-ix (rstN p poly xs m.toNat) ((xs.length:Int)-1-m)) poly ((xs.length:Int)-1-m-((poly.length:Int)-1)) (rstN p poly xs m.toNat):=by
 rw [show (m+1).toNat=m.toNat+1 by omega]
 show axAt _ _ _ _ _=_
 rw [show (m.toNat:Int)=m by omega]
theorem ZCO {poly ys:List Int} (hy:(ys.length:Int)≤1048576) (hk:1≤(poly.length:Int)) (h:(poly.length:Int)-1≤ys.length):loop (ρ:=(Int×List Int) ⊕ List Int) (Zcu poly) ys=some (.inr (ys.take ((poly.length:Int)-1).toNat)):=by
 have hgo:=Zj (B:=Zcu poly) (fun j=>ys.take ((ys.length:Int)-j).toNat) (i:=0) (n:=(ys.length:Int)-((poly.length:Int)-1)) (by omega) fun j c f=>by
  have hl:(ys.take ((ys.length:Int)-j).toNat).length=((ys.length:Int)-j).toNat:=by rw [List.length_take];omega
  have e:(List.take ((((ys.length:Int)-j).toNat:Int)-1).toNat (ys.take ((ys.length:Int)-j).toNat)).drop (0:Int).toNat=ys.take ((ys.length:Int)-(j+1)).toNat:=by
   rw [show (0:Int).toNat=0 from rfl,List.drop_zero,List.take_take]
   congr 1
   omega
  simp (disch:=omega) only [pz,Zcu,hl,Zcv,e]
 have a:ys=(fun j:Int=>ys.take ((ys.length:Int)-j).toNat) 0:=by simp
 conv=>lhs;rw [a]
 rw [hgo]
 refine Zc ?_
 have b:(ys.length:Int)-((ys.length:Int)-((poly.length:Int)-1))=(poly.length:Int)-1:=by omega
 have hl:(ys.take ((poly.length:Int)-1).toNat).length=((poly.length:Int)-1).toNat:=by rw [List.length_take];omega
 simp (disch:=omega) only [pz,Zcu,b,hl]
theorem Zvv {p y:Int} {poly ys:List Int} (hp:2≤p) (f:p≤64) (hP:In p poly) (hy:In p ys) (hl:(ys.length:Int)≤4096) (o:1≤(poly.length:Int)) (r:(poly.length:Int)-1≤y) (g:y<ys.length):
  Zbu poly p (y,ys)=some (.inl (y-1,axAt p (p-ix ys y) poly (y-((poly.length:Int)-1)) ys)):=by
 have hg:0≤y:=by omega
 obtain ⟨s,t⟩:=hy y (by omega) g
 simp (disch:=omega) only [pz,Zbu]
 rw [ZfB (p:=p) (c:=p-ix ys y) (off:=y-((poly.length:Int)-1)) (ws:=poly) (by omega) (by omega) fun j zs h i hz he=>by
  obtain ⟨k,l⟩:=hP j h i
  obtain ⟨u,v⟩:=hy (y-((poly.length:Int)-1)+j) (by omega) (by omega)
  obtain ⟨w,x⟩:=Zjh (a:=p-ix ys y) (b:=ix poly j) (by omega) (by omega) k (Int.le_of_lt l) f
  have m:=Int.tmod_eq_emod_of_nonneg (b:=p) (a:=ix ys (y-((poly.length:Int)-1)+j)+(p-ix ys y)*ix poly j) (by omega)
  have e:y-(poly.length:Int)+1+j=y-((poly.length:Int)-1)+j:=by omega
  simp (disch:=omega) only [pz,Zd7,e,he,m]]
 refine Zc ?_
 simp (disch:=omega) only [pz,Zd7]
theorem ZBF {p y:Int} {poly ys:List Int} (hp:2≤p) (e:p≤64) (hP:In p poly) (hy:In p ys) (hl:(ys.length:Int)≤4096) (o:1≤(poly.length:Int)) (r:(poly.length:Int)-1≤y) (f:y<ys.length):
  Zbj poly p (y,ys)=some (.inl (y-1,axAt p (p-ix ys y) poly (y-((poly.length:Int)-1)) ys)):=by
 have hg:0≤y:=by omega
 obtain ⟨s,t⟩:=hy y (by omega) f
 simp (disch:=omega) only [pz,Zbj]
 rw [ZfB (p:=p) (c:=p-ix ys y) (off:=y-((poly.length:Int)-1)) (ws:=poly) (by omega) (by omega) fun j zs g h hz he=>by
  obtain ⟨i,k⟩:=hP j g h
  obtain ⟨u,v⟩:=hy (y-((poly.length:Int)-1)+j) (by omega) (by omega)
  obtain ⟨w,x⟩:=Zjh (a:=ix ys y) (b:=ix poly j) (by omega) (by omega) i (Int.le_of_lt k) e
  generalize hX:ix ys (y-((poly.length:Int)-1)+j)=X at *
  generalize hM:ix ys y*ix poly j=M at *
  have b1:=Int.lt_tmod_of_pos (X-M) (by omega:(0:Int)<p)
  have b2:=Int.tmod_lt_of_pos (X-M) (by omega:(0:Int)<p)
  have l:=Int.tmod_eq_emod_of_nonneg (b:=p) (a:=(X-M).tmod p+p) (by omega)
  have m:((X-M).tmod p+p)%p=(X+(p-ix ys y)*ix poly j)%p:=by
   rw [Int.add_emod_right,Int.sub_mul,hM]
   have h9:=Int.mul_tdiv_add_tmod (X-M) p
   have:(X+(p*ix poly j-M))=(X-M).tmod p+p*((X-M).tdiv p+ix poly j):=by
    rw [Int.mul_add];omega
   rw [this,Int.add_mul_emod_self_left]
  simp (disch:=omega) only [pz,Zd1,he,hM,l,m]]
 refine Zc ?_
 simp (disch:=omega) only [pz,Zd1]
theorem ZEQ {p:Int} {poly xs:List Int} (hp:2≤p) (a:p≤64) (hP:In p poly) (c:In p xs) (hl:(xs.length:Int)≤4096) (b:1≤(poly.length:Int)) (h:(poly.length:Int)-1≤xs.length):
  ZcV xs poly p=some ((rstN p poly xs ((xs.length:Int)-((poly.length:Int)-1)).toNat).take ((poly.length:Int)-1).toNat):=by
 unfold ZcV
 rw [Zt4 (by omega)]
 show loop (Zbu poly p) (IntKind.i64.wrap ((xs.length:Int)-1),xs)=_
 rw [wr64 (by omega) (by omega)]
 have hgo:=Zj (B:=Zbu poly p) (fun m=>((xs.length:Int)-1-m,rstN p poly xs m.toNat)) (i:=0) (n:=(xs.length:Int)-((poly.length:Int)-1)) (by omega) fun m e j=>by
  have hL:=ZbW (p:=p) (poly:=poly) (xs:=xs) m.toNat
  show Zbu poly p ((xs.length:Int)-1-m,_)=_
  rw [Zvv hp a hP (ZjP hp c _) (by omega) b (by omega) (by omega),ZtV e,show (xs.length:Int)-1-(m+1)=(xs.length:Int)-1-m-1 by omega]
 have f:((xs.length:Int)-1,xs)=(fun m:Int=>((xs.length:Int)-1-m,rstN p poly xs m.toNat)) 0:=by
  show _=((xs.length:Int)-1-0,xs)
  rw [Int.sub_zero]
 rw [f,hgo]
 refine Zc ?_
 have hL:=ZbW (p:=p) (poly:=poly) (xs:=xs) ((xs.length:Int)-((poly.length:Int)-1)).toNat
 have g:(xs.length:Int)-1-((xs.length:Int)-((poly.length:Int)-1))=(poly.length:Int)-2:=by omega
 simp (disch:=omega) only [pz,Zbu,g]
 rw [ZCO (by omega) b (by omega)]
theorem ZFT {p:Int} {poly xs:List Int} (hp:2≤p) (a:p≤64) (hP:In p poly) (b:In p xs) (hl:(xs.length:Int)≤4096) (c:1≤(poly.length:Int)) (h:(poly.length:Int)-1≤xs.length):
  ZcU xs poly p=some ((rstN p poly xs ((xs.length:Int)-((poly.length:Int)-1)).toNat).take ((poly.length:Int)-1).toNat):=by
 unfold ZcU
 rw [Zpa (by omega)]
 show loop (Zbj poly p) (IntKind.i64.wrap ((xs.length:Int)-1),xs)=_
 rw [wr64 (by omega) (by omega)]
 have hgo:=Zj (B:=Zbj poly p) (fun m=>((xs.length:Int)-1-m,rstN p poly xs m.toNat)) (i:=0) (n:=(xs.length:Int)-((poly.length:Int)-1)) (by omega) fun m e j=>by
  have hL:=ZbW (p:=p) (poly:=poly) (xs:=xs) m.toNat
  show Zbj poly p ((xs.length:Int)-1-m,_)=_
  rw [ZBF hp a hP (ZjP hp b _) (by omega) c (by omega) (by omega),ZtV e,show (xs.length:Int)-1-(m+1)=(xs.length:Int)-1-m-1 by omega]
 have f:((xs.length:Int)-1,xs)=(fun m:Int=>((xs.length:Int)-1-m,rstN p poly xs m.toNat)) 0:=by
  show _=((xs.length:Int)-1-0,xs)
  rw [Int.sub_zero]
 rw [f,hgo]
 refine Zc ?_
 have hL:=ZbW (p:=p) (poly:=poly) (xs:=xs) ((xs.length:Int)-((poly.length:Int)-1)).toNat
 have g:(xs.length:Int)-1-((xs.length:Int)-((poly.length:Int)-1))=(poly.length:Int)-2:=by omega
 simp (disch:=omega) only [pz,Zbj,g,hL,ite_f,Zcv]
 rfl
def mulA (f:Zd) (a b:Int):Int:=
 nm f.Prime ((rstN f.Prime f.Poly (cnvN f.Prime (dig f.Prime f.Degree a) (dig f.Prime f.Degree b) (List.replicate (2*f.Degree-1).toNat 0) f.Degree.toNat) (f.Degree-1).toNat).take f.Degree.toNat)
theorem Zbv {p:Int} {as bs xs:List Int}:∀ m,(cnvN p as bs xs m).length=xs.length
 | 0=>rfl
 | m+1=>by show (axAt _ _ _ _ _).length=_;rw [Za0,Zbv m]
theorem Zb2 {p:Int} {as bs xs:List Int} (hp:2≤p) (a:In p xs):∀ m,In p (cnvN p as bs xs m)
 | 0=>a
 | m+1=>Zl1 hp (Zb2 hp a m)
theorem ZtJ {p:Int} {as bs xs:List Int} {m:Int} (h:0≤m):cnvN p as bs xs (m+1).toNat=axAt p (ix as m) bs m (cnvN p as bs xs m.toNat):=by
 rw [show (m+1).toNat=m.toNat+1 by omega]
 show axAt _ _ _ _ _=_
 rw [show (m.toNat:Int)=m by omega]
theorem ZiF {p n:Int} (hp:2≤p):In p (List.replicate n.toNat 0):=fun i b a=>by
 rw [List.length_replicate] at a
 rw [Zhz b a];omega
theorem Zr3 {p:Int} {xs:List Int} {n:Int} (h:In p xs):In p (xs.take n.toNat):=fun i a b=>by
 rw [List.length_take] at b
 rw [Zb7 a (by omega)]
 exact h i a (by omega)
theorem Zwg {f:Zd} (hf:Fd f) {as bs ys:List Int} {i:Int} (ha:In f.Prime as) (e:In f.Prime bs) (hy:In f.Prime ys) (hl:(ys.length:Int)≤4096) (g:0≤i) (h:i<as.length) (t:i+(bs.length:Int)≤ys.length):
  Zdk f as bs (i,ys)=some (.inl (i+1,axAt f.Prime (ix as i) bs i ys)):=by
 have:=hf.p2;have:=hf.p64
 obtain ⟨u,k⟩:=ha i g h
 simp (disch:=omega) only [pz,Zdk]
 rw [ZfB (p:=f.Prime) (c:=ix as i) (off:=i) (ws:=bs) (by omega) (by omega) fun j zs l m hz he=>by
  obtain ⟨o,r⟩:=e j l m
  obtain ⟨v,w⟩:=hy (i+j) (by omega) (by omega)
  obtain ⟨x,y⟩:=Zjh (a:=ix as i) (b:=ix bs j) (by omega) (Int.le_of_lt k) o (Int.le_of_lt r) hf.p64
  have s:=Int.tmod_eq_emod_of_nonneg (b:=f.Prime) (a:=ix ys (i+j)+ix as i*ix bs j) (by omega)
  simp (disch:=omega) only [pz,ZgK,he,s]]
 refine Zc ?_
 simp (disch:=omega) only [pz,ZgK]
theorem ZwX {f:Zd} (hf:Fd f) {as bs ys:List Int} {i:Int} (ha:In f.Prime as) (e:In f.Prime bs) (hy:In f.Prime ys) (hl:(ys.length:Int)≤4096) (g:0≤i) (h:i<as.length) (t:i+(bs.length:Int)≤ys.length):
  Zde f as bs (i,ys)=some (.inl (i+1,axAt f.Prime (ix as i) bs i ys)):=by
 have:=hf.p2;have:=hf.p64
 obtain ⟨u,k⟩:=ha i g h
 simp (disch:=omega) only [pz,Zde]
 rw [ZfB (p:=f.Prime) (c:=ix as i) (off:=i) (ws:=bs) (by omega) (by omega) fun j zs l m hz he=>by
  obtain ⟨o,r⟩:=e j l m
  obtain ⟨v,w⟩:=hy (i+j) (by omega) (by omega)
  obtain ⟨x,y⟩:=Zjh (a:=ix as i) (b:=ix bs j) (by omega) (Int.le_of_lt k) o (Int.le_of_lt r) hf.p64
  have s:=Int.tmod_eq_emod_of_nonneg (b:=f.Prime) (a:=ix ys (i+j)+ix as i*ix bs j) (by omega)
  simp (disch:=omega) only [pz,ZiT,he,s]]
 refine Zc ?_
 simp (disch:=omega) only [pz,ZiT]
end Go.Proofs.YtghbgeaammnkcaaGreatDoor
namespace Go.Proofs.YtghbgeaammnkcaaGreatDoor
set_option linter.unusedVariables false
open Go Go.Vc
set_option linter.unusedSimpArgs false
theorem Zs5 {f:Zd} (hf:Fd f) (a b:Int):Zbe ((rstN f.Prime f.Poly (cnvN f.Prime (dig f.Prime f.Degree a) (dig f.Prime f.Degree b) (List.replicate (2*f.Degree-1).toNat 0) f.Degree.toNat) (f.Degree-1).toNat).take f.Degree.toNat) f.Prime=some (mulA f a b):=by
 have:=hf.p2;have:=hf.p64;have:=hf.k1;have:=hf.k6
 have hl:((rstN f.Prime f.Poly (cnvN f.Prime (dig f.Prime f.Degree a) (dig f.Prime f.Degree b) (List.replicate (2*f.Degree-1).toNat 0) f.Degree.toNat) (f.Degree-1).toNat).take f.Degree.toNat).length=f.Degree.toNat:=by
  rw [List.length_take,ZbW,Zbv,List.length_replicate];omega
 refine Zsw (by omega) (by omega) (Zr3 (ZjP (by omega) (Zb2 (by omega) (ZiF (by omega)) _) _)) (by omega) ?_
 rw [hl]
 exact hf.w64
theorem ZkN {f:Zd} (hf:Fd f) {a b:Int} (ha:0≤a) (h:a≤4096) (e:0≤b) (j:b≤4096):ZeF f a b=some (mulA f a b):=by
 have:=hf.p2;have:=hf.p64;have:=hf.k1;have:=hf.k6;have hpl:=hf.pl
 have hla:=Zas (p:=f.Prime) (k:=f.Degree) (a:=a) (by omega)
 have hlb:=Zas (p:=f.Prime) (k:=f.Degree) (a:=b) (by omega)
 unfold ZeF
 rw [Zll ha (by omega) (by omega) (by omega) (by omega) (by omega),Zll e (by omega) (by omega) (by omega) (by omega) (by omega)]
 simp (disch:=omega) only [pz,ZaN]
 have hin:=ZiF (p:=f.Prime) (n:=2*f.Degree-1) (by omega)
 have hrl:(List.replicate (2*f.Degree-1).toNat (0:Int)).length=(2*f.Degree-1).toNat:=List.length_replicate
 have hgo:=Zj (B:=Zdk f (dig f.Prime f.Degree a) (dig f.Prime f.Degree b)) (fun i=>(i,cnvN f.Prime (dig f.Prime f.Degree a) (dig f.Prime f.Degree b) (List.replicate (2*f.Degree-1).toNat 0) i.toNat)) (i:=0) (n:=f.Degree) (by omega) fun i c l=>by
  have hL:=Zbv (p:=f.Prime) (as:=dig f.Prime f.Degree a) (bs:=dig f.Prime f.Degree b) (xs:=List.replicate (2*f.Degree-1).toNat 0) i.toNat
  show Zdk _ _ _ (i,_)=_
  rw [Zwg hf (ZbK (by omega)) (ZbK (by omega)) (Zb2 (by omega) hin _) (by omega) c (by omega) (by omega),ZtJ c]
 have g:((0:Int),List.replicate (2*f.Degree-1).toNat (0:Int))=(fun i:Int=>(i,cnvN f.Prime (dig f.Prime f.Degree a) (dig f.Prime f.Degree b) (List.replicate (2*f.Degree-1).toNat 0) i.toNat)) 0:=rfl
 rw [g,hgo]
 refine Zc ?_
 have hL:=Zbv (p:=f.Prime) (as:=dig f.Prime f.Degree a) (bs:=dig f.Prime f.Degree b) (xs:=List.replicate (2*f.Degree-1).toNat 0) f.Degree.toNat
 have hR:=ZEQ (p:=f.Prime) (poly:=f.Poly) (xs:=cnvN f.Prime (dig f.Prime f.Degree a) (dig f.Prime f.Degree b) (List.replicate (2*f.Degree-1).toNat 0) f.Degree.toNat) (by omega) (by omega) hf.rng (Zb2 (by omega) hin _) (by omega) (by omega) (by omega)
 rw [show ((cnvN f.Prime (dig f.Prime f.Degree a) (dig f.Prime f.Degree b) (List.replicate (2*f.Degree-1).toNat 0) f.Degree.toNat).length:Int)-((f.Poly.length:Int)-1)=f.Degree-1 by omega,show (f.Poly.length:Int)-1=f.Degree by omega] at hR
 simp (disch:=omega) only [pz,Zdk,hR,Zs5 hf a b]
theorem ZsJ {p c off z:Int} {ws xs:List Int} (h:off+(ws.length:Int)≤xs.length):axAt p c ws off (xs++[z])=axAt p c ws off xs++[z]:=by
 apply Za1
 ·rw [Za0,List.length_append,List.length_append,Za0]
 ·intro i a b
  rw [Za0,List.length_append] at b
  have e:i<(xs.length:Int)+1:=by simpa using b
  unfold axAt
  rw [Zq a (by rw [List.length_append];exact b)]
  by_cases hi:i<(xs.length:Int)
  ·rw [ZoY a hi,ZoY a (by rw [Zk];omega),Zq a (by omega)]
  ·rw [if_neg (by omega),ZoU (by omega),ZoU (by rw [Zk];omega),Zk]
   congr 2
theorem Zua {p z:Int} {as bs xs:List Int} {k:Nat} (h:(k:Int)-1+(bs.length:Int)≤xs.length):∀ m,m≤k→cnvN p as bs (xs++[z]) m=cnvN p as bs xs m++[z]
 | 0,_=>rfl
 | m+1,hm=>by
  show axAt _ _ _ _ (cnvN p as bs (xs++[z]) m)=axAt _ _ _ _ _++[z]
  rw [Zua h m (by omega),ZsJ (by rw [Zbv];omega)]
theorem ZDW {p off:Int} {ws xs:List Int} (a:In p xs):axAt p p ws off xs=xs:=by
 refine Eq.trans (ZN fun i b c=>?_) (Zbp xs)
 obtain ⟨e,f⟩:=a i b c
 split
 ·rw [Int.add_mul_emod_self_left,Int.emod_eq_of_lt e f]
 ·rfl
theorem ZuK {p:Int} {poly xs:List Int} (hp:2≤p) (b:In p xs) (a:In p (xs++[0])) (c:1≤(poly.length:Int)):∀ m:Nat,(m:Int)+((poly.length:Int)-1)≤xs.length→rstN p poly (xs++[0]) (m+1)=rstN p poly xs m++[0]
 | 0,h=>by
  show axAt p (p-ix (xs++[0]) _) _ _ (xs++[0])=xs++[0]
  rw [ZoU (by rw [List.length_append];simp),List.length_append]
  rw [show (((xs.length+[(0:Int)].length:Nat):Int)-1-((0:Nat):Int)-(xs.length:Int))=0 by simp,ZcL,Int.sub_zero,ZDW a]
 | m+1,h=>by
  have hL:=ZbW (p:=p) (poly:=poly) (xs:=xs) m
  show axAt p (p-ix (rstN p poly (xs++[0]) (m+1)) _) poly _ (rstN p poly (xs++[0]) (m+1))=axAt _ _ _ _ _++[0]
  rw [ZuK hp b a c m (by omega),List.length_append]
  rw [show (((xs.length+[(0:Int)].length:Nat):Int)-1-((m+1:Nat):Int))=(xs.length:Int)-1-(m:Int) by simp;omega]
  rw [ZoY (by omega) (by omega),ZsJ (by omega)]
theorem Zx5 {f:Zd} (hf:Fd f) {a b:Int} (ha:0≤a) (l:a≤4096) (g:0≤b) (m:b≤4096):ZjD f a b=some (mulA f a b):=by
 have:=hf.p2;have:=hf.p64;have:=hf.k1;have:=hf.k6;have hpl:=hf.pl
 have hla:=Zas (p:=f.Prime) (k:=f.Degree) (a:=a) (by omega)
 have hlb:=Zas (p:=f.Prime) (k:=f.Degree) (a:=b) (by omega)
 unfold ZjD
 rw [Zig ha (by omega) (by omega) (by omega) (by omega) (by omega),Zig g (by omega) (by omega) (by omega) (by omega) (by omega)]
 simp (disch:=omega) only [pz,ZaN]
 have hin:=ZiF (p:=f.Prime) (n:=2*f.Degree-1) (by omega)
 have c:=ZiF (p:=f.Prime) (n:=2*f.Degree) (by omega)
 have hrl:(List.replicate (2*f.Degree).toNat (0:Int)).length=(2*f.Degree).toNat:=List.length_replicate
 have h:(List.replicate (2*f.Degree-1).toNat (0:Int)).length=(2*f.Degree-1).toNat:=List.length_replicate
 have erep:List.replicate (2*f.Degree).toNat (0:Int)=List.replicate (2*f.Degree-1).toNat 0++[0]:=by
  rw [show (2*f.Degree).toNat=(2*f.Degree-1).toNat+1 by omega,List.replicate_succ']
 have hgo:=Zj (B:=Zde f (dig f.Prime f.Degree a) (dig f.Prime f.Degree b)) (fun i=>(i,cnvN f.Prime (dig f.Prime f.Degree a) (dig f.Prime f.Degree b) (List.replicate (2*f.Degree).toNat 0) i.toNat)) (i:=0) (n:=f.Degree) (by omega) fun i e o=>by
  have hL:=Zbv (p:=f.Prime) (as:=dig f.Prime f.Degree a) (bs:=dig f.Prime f.Degree b) (xs:=List.replicate (2*f.Degree).toNat 0) i.toNat
  show Zde _ _ _ (i,_)=_
  rw [ZwX hf (ZbK (by omega)) (ZbK (by omega)) (Zb2 (by omega) c _) (by omega) e (by omega) (by omega),ZtJ e]
 have j:((0:Int),List.replicate (2*f.Degree).toNat (0:Int))=(fun i:Int=>(i,cnvN f.Prime (dig f.Prime f.Degree a) (dig f.Prime f.Degree b) (List.replicate (2*f.Degree).toNat 0) i.toNat)) 0:=rfl
 rw [j,hgo]
 refine Zc ?_
 have hL:=Zbv (p:=f.Prime) (as:=dig f.Prime f.Degree a) (bs:=dig f.Prime f.Degree b) (xs:=List.replicate (2*f.Degree).toNat 0) f.Degree.toNat
 have hR:=ZFT (p:=f.Prime) (poly:=f.Poly) (xs:=cnvN f.Prime (dig f.Prime f.Degree a) (dig f.Prime f.Degree b) (List.replicate (2*f.Degree).toNat 0) f.Degree.toNat) (by omega) (by omega) hf.rng (Zb2 (by omega) c _) (by omega) (by omega) (by omega)
 rw [show ((cnvN f.Prime (dig f.Prime f.Degree a) (dig f.Prime f.Degree b) (List.replicate (2*f.Degree).toNat 0) f.Degree.toNat).length:Int)-((f.Poly.length:Int)-1)=f.Degree by omega,show (f.Poly.length:Int)-1=f.Degree by omega] at hR
 have hA:=Zua (p:=f.Prime) (z:=0) (as:=dig f.Prime f.Degree a) (bs:=dig f.Prime f.Degree b) (xs:=List.replicate (2*f.Degree-1).toNat 0) (k:=f.Degree.toNat) (by omega) f.Degree.toNat (Nat.le_refl _)
 have hL2:=Zbv (p:=f.Prime) (as:=dig f.Prime f.Degree a) (bs:=dig f.Prime f.Degree b) (xs:=List.replicate (2*f.Degree-1).toNat 0) f.Degree.toNat
 have hB:=ZuK (p:=f.Prime) (poly:=f.Poly) (by omega) (Zb2 (p:=f.Prime) (as:=dig f.Prime f.Degree a) (bs:=dig f.Prime f.Degree b) (by omega) hin f.Degree.toNat) (by rw [←hA,←erep];exact Zb2 (by omega) c _) (by omega) (f.Degree-1).toNat (by omega)
 rw [←erep] at hA
 rw [show (f.Degree-1).toNat+1=f.Degree.toNat by omega] at hB
 rw [hA] at hR ⊢
 rw [hB,List.take_append_of_le_length (by rw [ZbW];omega)] at hR
 simp (disch:=omega) only [pz,Zde,hR,ZrK,Zs5 hf a b]
end Go.Proofs.YtghbgeaammnkcaaGreatDoor
