import Derived.Test.YtepnljbkgjbbmaaGreatDoorPuJa
import Derived.Test.YtepnljbkgjbbmaaGreatDoorPuEv
import Derived.Test.YtepnljbkgjbbmaaGreatDoorCeFns
namespace Go.Proofs.YtepnljbkgjbbmaaGreatDoor
open Go Go.Vc
set_option linter.unusedSimpArgs false
set_option linter.unusedVariables false
def qd (p a:Int):Nat->Int
 | 0=>a
 | i+1=>qd p a i/p
def pwN (p:Int):Nat->Int
 | 0=>1
 | i+1=>pwN p i*p
def dig (p:Int) (k:Int) (a:Int):List Int:=tabl k fun j=>qd p a j.toNat%p
def nmN (p:Int) (xs:List Int):Nat->Int
 | 0=>0
 | m+1=>nmN p xs m*p+ix xs ((xs.length:Int)-1-(m:Int))
def nm (p:Int) (xs:List Int):Int:=nmN p xs xs.length
def axAt (p c:Int) (ws:List Int) (off:Int) (xs:List Int):List Int:=tabl xs.length fun i=>if off<=i/\i<off+(ws.length:Int) then (ix xs i+c*ix ws (i-off))%p else ix xs i
def cnvN (p:Int) (as bs xs:List Int):Nat->List Int
 | 0=>xs
 | i+1=>axAt p (ix as (i:Int)) bs (i:Int) (cnvN p as bs xs i)
def rstN (p:Int) (poly:List Int) (xs:List Int):Nat->List Int
 | 0=>xs
 | m+1=>axAt p (p-ix (rstN p poly xs m) ((xs.length:Int)-1-(m:Int))) poly ((xs.length:Int)-1-(m:Int)-((poly.length:Int)-1)) (rstN p poly xs m)
def In (p:Int) (xs:List Int):Prop:=∀ i,0<=i->i<(xs.length:Int)->0<=ix xs i/\ix xs i<p
theorem ZgW {p a:Int} (g:0<=a) (hp:2<=p):∀ i:Nat,0<=qd p a i/\qd p a i<=a
 | 0=>⟨g,Int.le_refl _⟩
 | i+1=>by
  obtain ⟨h1,c⟩:=ZgW g hp i
  have e:0<=qd p a i/p:=Int.ediv_nonneg h1 ω
  have f:qd p a i/p<=qd p a i:=Int.ediv_le_self _ h1
  exact ⟨e,Int.le_trans f c⟩
theorem Zui {p a:Int} {i:Int} (h:0<=i):qd p a (i+1).toNat=qd p a i.toNat/p:=by
 rw [show (i+1).toNat=i.toNat+1 by omega];rfl
theorem ZaM {p k a:Int} (h:0<=k):((dig p k a).length:Int)=k:=by unfold dig;rw [Zm];omega
theorem ZbG {p k a:Int} (hp:2<=p):In p (dig p k a):=fun i c h1=>by
 unfold dig at h1 ⊢
 rw [Zm] at h1
 rw [ZI c ω]
 exact ⟨Int.emod_nonneg _ ω,Int.emod_lt_of_pos _ ω⟩
theorem ZmN {p a k:Int} (x:0<=a) (r:a<=4611686018427387904) (hp:2<=p) (s:p<=64) (hk:0<=k) (u:k<=64):Za3 a p k=some (dig p k a):=by
 unfold Za3
 have y:=Zl (B:=Zda p) (fun i=>(qd p a i.toNat,k-i,tabl i fun j=>qd p a j.toNat%p)) (i:=0) (n:=k) hk fun i v h1=>by
  obtain ⟨c,w⟩:=ZgW x hp i.toNat
  have f:=Int.tmod_eq_emod_of_nonneg (b:=p) c
  have g:=Int.tdiv_eq_ediv_of_nonneg (b:=p) c
  obtain ⟨h,l⟩:=ZgW x hp (i.toNat+1)
  have hl:(tabl i fun j=>qd p a j.toNat%p).length=i.toNat:=Zm
  have e:k-(i+1)=k-i-1:=ω
  have a2:0<=qd p a i.toNat/p:=h
  have a3:qd p a i.toNat/p<=a:=l
  simp (disch:=omega) only [pz,Zda,f,g,gApp1,hl,Zui,ZW,e]
 have o:(a,k,([]:List Int))=(fun i:Int=>(qd p a i.toNat,k-i,tabl i fun j=>qd p a j.toNat%p)) 0:=by simp [qd,Zv2]
 rw [o,y]
 refine Zc ?_
 simp (disch:=omega) only [pz,Zda,Int.sub_self]
 rfl
theorem ZM {α:Type} {n:Int} {f g:Int->α} (h:∀ i,0<=i->i<n->f i=g i):tabl n f=tabl n g:=by
 unfold tabl
 apply List.map_congr_left
 intro j a
 rw [List.mem_range] at a
 exact h j ω ω
theorem Zam {α:Type} [Inhabited α] {n:Int} {f g:Int->α} {k:Int} (c:0<=k) (h1:k<n) (j:∀ i,0<=i->i<n->i≠k->g i=f i) {y:α} (l:y=g k):(tabl n f).set k.toNat y=tabl n g:=by
 apply ZaL
 ·rw [List.length_set,Zm,Zm]
 ·intro i a e
  rw [List.length_set,Zm] at e
  by_cases h:k=i
  ·subst h
   rw [ZdA c (by rw [Zm];omega),ZI c h1,l]
  ·rw [Zkr c a h,ZI a ω,ZI a ω,j i a ω ω]
theorem Zbe {α:Type} [Inhabited α] (xs:List α):tabl xs.length (fun i=>ix xs i)=xs:=by
 apply ZaL
 ·rw [Zm];omega
 ·intro i a c
  rw [Zm] at c
  rw [ZI a ω]
theorem ZgA {α:Type} [Inhabited α] {n:Int} {z:α}:List.replicate n.toNat z=tabl n fun _=>z:=by
 apply ZaL
 ·rw [Zm,List.length_replicate]
 ·intro i a c
  rw [List.length_replicate] at c
  rw [ZI a ω,ZcD a ω]
theorem Zjp {p a k:Int} (ha:0<=a) (w:a<=4611686018427387904) (hp:2<=p) (x:p<=64) (hk:0<=k) (y:k<=64):ZaR a p k=some (dig p k a):=by
 unfold ZaR
 rw [Zaw hk ω ω]
 show loop (Zcy p (List.replicate k.toNat 0)) (a,0,List.replicate k.toNat 0)=_
 have a3:=Zl (B:=Zcy p (List.replicate k.toNat 0)) (fun i=>(qd p a i.toNat,i,tabl k fun j=>if j<i then qd p a j.toNat%p else 0)) (i:=0) (n:=k) hk fun i g h1=>by
  obtain ⟨e,g2⟩:=ZgW ha hp i.toNat
  have h:=Int.tmod_eq_emod_of_nonneg (b:=p) e
  have l:=Int.tdiv_eq_ediv_of_nonneg (b:=p) e
  obtain ⟨o,r⟩:=ZgW ha hp (i.toNat+1)
  have hl:(tabl k fun j=>if j<i then qd p a j.toNat%p else 0).length=k.toNat:=Zm
  have c:(List.replicate k.toNat (0:Int)).length=k.toNat:=List.length_replicate
  have a5:0<=qd p a i.toNat/p:=o
  have a6:qd p a i.toNat/p<=a:=r
  have hset:(tabl k fun j=>if j<i then qd p a j.toNat%p else 0).set i.toNat (qd p a i.toNat%p)=tabl k fun j=>if j<i+1 then qd p a j.toNat%p else 0:=by
   apply Zam g h1
   ·intro j s f j2
    by_cases hj:j<i
    ·rw [if_pos hj,if_pos ω]
    ·rw [if_neg hj,if_neg ω]
   ·rw [if_pos ω]
  simp (disch:=omega) only [pz,Zcy,h,l,hl,c,Zui,hset]
 have u:(a,(0:Int),List.replicate k.toNat (0:Int))=(fun i:Int=>(qd p a i.toNat,i,tabl k fun j=>if j<i then qd p a j.toNat%p else 0)) 0:=by
  show _=(a,(0:Int),_)
  rw [ZgA]
  congr 2
 rw [u,a3]
 refine Zc ?_
 have c:(List.replicate k.toNat (0:Int)).length=k.toNat:=List.length_replicate
 have v:(tabl k fun j=>if j<k then qd p a j.toNat%p else 0)=dig p k a:=by
  unfold dig
  exact ZM fun j s f=>by rw [if_pos f]
 simp (disch:=omega) only [pz,Zcy,c,v]
theorem Zbk {p:Int} (hp:2<=p):∀ m:Nat,1<=pwN p m
 | 0=>Int.le_refl _
 | m+1=>by
  have h:=Zbk hp m
  have:1*2<=pwN p m*p:=Int.mul_le_mul h hp ω ω
  show 1<=pwN p m*p
  omega
theorem Zlk {p:Int} (hp:2<=p) {m:Nat}:∀ d:Nat,pwN p m<=pwN p (m+d)
 | 0=>Int.le_refl _
 | d+1=>by
  have h:=Zlk (m:=m) hp d
  have h1:=Zbk hp (m+d)
  have:pwN p (m+d)*1<=pwN p (m+d)*p:=Int.mul_le_mul_of_nonneg_left ω ω
  show _<=pwN p (m+d)*p
  omega
theorem ZkG {p:Int} {xs:List Int} (hp:2<=p) (a:In p xs):∀ m:Nat,m<=xs.length->0<=nmN p xs m/\nmN p xs m<pwN p m
 | 0,_=>⟨Int.le_refl _,by show (0:Int)<1;omega⟩
 | m+1,hm=>by
  obtain ⟨h1,e⟩:=ZkG hp a m ω
  obtain ⟨f,g⟩:=a ((xs.length:Int)-1-m) ω ω
  have h:0<=nmN p xs m*p:=Int.mul_nonneg h1 ω
  have c:(nmN p xs m+1)*p<=pwN p m*p:=Int.mul_le_mul_of_nonneg_right ω ω
  rw [Int.add_mul,Int.one_mul] at c
  refine ⟨?_,?_⟩
  ·show 0<=nmN p xs m*p+ix xs ((xs.length:Int)-1-(m:Int))
   omega
  ·show nmN p xs m*p+ix xs ((xs.length:Int)-1-(m:Int))<pwN p m*p
   omega
theorem ZqP {p:Int} {xs:List Int} (hp:2<=p) (j:p<=64) (a:In p xs) (y:xs.length<=64) (hw:pwN p xs.length<=64):Za2 xs p=some (nm p xs):=by
 unfold Za2
 have x:=Zl (B:=Zes xs p) (fun m=>(nmN p xs m.toNat,(xs.length:Int)-1-m)) (i:=0) (n:=xs.length) ω fun m k h1=>by
  obtain ⟨e,l⟩:=ZkG hp a m.toNat ω
  obtain ⟨o,r⟩:=ZkG hp a (m.toNat+1) ω
  have f:=Zlk hp (m:=m.toNat+1) (xs.length-(m.toNat+1))
  rw [show m.toNat+1+(xs.length-(m.toNat+1))=xs.length by omega] at f
  have w:nmN p xs (m.toNat+1)=nmN p xs m.toNat*p+ix xs ((xs.length:Int)-1-(m.toNat:Int)):=rfl
  rw [show (m.toNat:Int)=m by omega] at w
  have es:(m+1).toNat=m.toNat+1:=ω
  have s:0<=nmN p xs m.toNat*p:=Int.mul_nonneg e ω
  obtain ⟨u,v⟩:=a ((xs.length:Int)-1-m) ω ω
  have c:(xs.length:Int)-1-(m+1)=(xs.length:Int)-1-m-1:=ω
  simp (disch:=omega) only [pz,Zes,es,w,c]
 have g:((0:Int),IntKind.i64.wrap ((xs.length:Int)-1))=(fun m:Int=>(nmN p xs m.toNat,(xs.length:Int)-1-m)) 0:=by
  show _=((0:Int),_)
  rw [wr64 ω ω]
  simp
 rw [g,x]
 refine Zc ?_
 have h:(xs.length:Int)-1-(xs.length:Int)=-1:=ω
 have c:(xs.length:Int).toNat=xs.length:=ω
 simp (disch:=omega) only [pz,Zes,h,c]
 rfl
theorem Zqi (xs:List Int) (p:Int):Zjo xs p=Za2 xs p:=rfl
theorem Zbu {p c off:Int} {ws xs:List Int}:(axAt p c ws off xs).length=xs.length:=by unfold axAt;rw [Zm];omega
theorem ZmL {p c off:Int} {ws xs:List Int} (hp:2<=p) (e:In p xs):In p (axAt p c ws off xs):=fun i a h1=>by
 rw [Zbu] at h1
 unfold axAt
 rw [ZI a ω]
 split
 ·exact ⟨Int.emod_nonneg _ ω,Int.emod_lt_of_pos _ ω⟩
 ·exact e i a h1
theorem Zf5 {ρ:Type} {B:Int×List Int->Option ((Int×List Int) ⊕ ρ)} {p c off:Int} {ws xs:List Int} (l:0<=off) (h1:off+(ws.length:Int)<=xs.length)
  (hs:∀ j r,0<=j->j<(ws.length:Int)->r.length=xs.length->ix r (off+j)=ix xs (off+j)->B (j,r)=some (.inl (j+1,r.set (off+j).toNat ((ix xs (off+j)+c*ix ws j)%p)))):
  loop B (0,xs)=loop B ((ws.length:Int),axAt p c ws off xs):=by
 have u:=Zl (B:=B) (fun j=>(j,tabl xs.length fun i=>if off<=i/\i<off+j then (ix xs i+c*ix ws (i-off))%p else ix xs i)) (i:=0) (n:=ws.length) ω fun j a e=>by
  show B (j,_)=_
  rw [hs j _ a e (by rw [Zm];omega) (by rw [ZI ω ω,if_neg ω])]
  congr 3
  apply Zam ω ω
  ·intro i f g o
   by_cases h:off<=i/\i<off+j
   ·rw [if_pos h,if_pos ω]
   ·rw [if_neg h,if_neg ω]
  ·rw [if_pos ω,show off+j-off=j by omega]
 have k:((0:Int),xs)=(fun j:Int=>(j,tabl xs.length fun i=>if off<=i/\i<off+j then (ix xs i+c*ix ws (i-off))%p else ix xs i)) 0:=by
  show _=((0:Int),_)
  congr 1
  refine (Zbe xs).symm.trans (ZM fun i f g=>?_)
  rw [if_neg ω]
 rw [k,u]
 rfl
structure Fd (f:Zd):Prop where
 p2:2<=f.Prime
 p64:f.Prime<=64
 k1:1<=f.Degree
 k6:f.Degree<=6
 pl:(f.Poly.length:Int)=f.Degree+1
 mon:ix f.Poly f.Degree=1
 rng:In f.Prime f.Poly
 w64:pwN f.Prime f.Degree.toNat<=64
def sumA (f:Zd) (a b c:Int):Int:=nm f.Prime (axAt f.Prime c (dig f.Prime f.Degree b) 0 (dig f.Prime f.Degree a))
theorem ZiG {a b p:Int} (e:0<=a) (h1:a<=p) (c:0<=b) (f:b<=p) (hp:p<=64):0<=a*b/\a*b<=4096:=by
 refine ⟨Int.mul_nonneg e c,?_⟩
 have:=Int.mul_le_mul (Int.le_trans h1 hp) (Int.le_trans f hp) c ω
 omega
theorem ZqK {f:Zd} (e:Fd f) (a b c:Int):Za2 (axAt f.Prime c (dig f.Prime f.Degree b) 0 (dig f.Prime f.Degree a)) f.Prime=some (sumA f a b c):=by
 have:=e.p2;have:=e.p64;have:=e.k1;have:=e.k6
 have g:=ZaM (p:=f.Prime) (k:=f.Degree) (a:=a) ω
 refine ZqP ω ω (ZmL ω (ZbG ω)) (by rw [Zbu];omega) ?_
 rw [Zbu,show (dig f.Prime f.Degree a).length=f.Degree.toNat by omega]
 exact e.w64
theorem ZuF {f:Zd} (hf:Fd f) {a b c:Int} (ha:0<=a) (r:a<=4096) (h:0<=b) (s:b<=4096) (i:0<=c) (e:c<=f.Prime):Zg7 f a b c=some (sumA f a b c):=by
 have:=hf.p2;have:=hf.p64;have:=hf.k1;have:=hf.k6
 have a3:=ZaM (p:=f.Prime) (k:=f.Degree) (a:=a) ω
 have a4:=ZaM (p:=f.Prime) (k:=f.Degree) (a:=b) ω
 unfold Zg7
 rw [ZmN ha ω ω ω ω ω,ZmN h ω ω ω ω ω]
 show loop (Zf3 f c (dig f.Prime f.Degree b)) (0,dig f.Prime f.Degree a)=_
 rw [Zf5 (p:=f.Prime) (c:=c) (off:=0) (ws:=dig f.Prime f.Degree b) ω ω fun j ys g u hy he=>by
  rw [Int.zero_add] at he ⊢
  obtain ⟨v,w⟩:=ZbG (p:=f.Prime) (k:=f.Degree) (a:=a) ω j g ω
  obtain ⟨l,x⟩:=ZbG (p:=f.Prime) (k:=f.Degree) (a:=b) ω j g ω
  obtain ⟨y,g6⟩:=ZiG i e l ω hf.p64
  have o:=Int.tmod_eq_emod_of_nonneg (b:=f.Prime) (a:=ix (dig f.Prime f.Degree a) j+c*ix (dig f.Prime f.Degree b) j) ω
  simp (disch:=omega) only [pz,Zf3,he,o]]
 refine Zc ?_
 simp (disch:=omega) only [pz,Zf3,Zbu,ZqK hf a b c]
theorem Zx5 {x y p:Int} (a:0<=x) (h1:0<=y) (hp:2<=p) (e:y<p):(x+-1*y+p)%p=(x+(p-1)*y)%p:=by
 have:x+(p-1)*y=(x+-1*y+p)+p*(y-1):=by
  rw [Int.sub_mul,Int.mul_sub,Int.one_mul];omega
 rw [this,Int.add_mul_emod_self_left]
theorem Zul {f:Zd} (hf:Fd f) {a b c s:Int} (ha:0<=a) (v:a<=4096) (g:0<=b) (w:b<=4096) (hs:(s=1/\c=1)\/(s=-1/\c=f.Prime-1)):ZfF f a b s=some (sumA f a b c):=by
 have:=hf.p2;have:=hf.p64;have:=hf.k1;have:=hf.k6
 have a3:=ZaM (p:=f.Prime) (k:=f.Degree) (a:=a) ω
 have a4:=ZaM (p:=f.Prime) (k:=f.Degree) (a:=b) ω
 unfold ZfF
 rw [Zjp ha ω ω ω ω ω,Zjp g ω ω ω ω ω]
 show loop (ZfL f s (dig f.Prime f.Degree a) (dig f.Prime f.Degree b)) (0,dig f.Prime f.Degree a)=_
 rw [Zf5 (p:=f.Prime) (c:=c) (off:=0) (ws:=dig f.Prime f.Degree b) ω ω fun j ys e x hy he=>by
  rw [Int.zero_add] at he ⊢
  obtain ⟨i,y⟩:=ZbG (p:=f.Prime) (k:=f.Degree) (a:=a) ω j e ω
  obtain ⟨l,o⟩:=ZbG (p:=f.Prime) (k:=f.Degree) (a:=b) ω j e ω
  have hm:-64<=s*ix (dig f.Prime f.Degree b) j/\s*ix (dig f.Prime f.Degree b) j<=64/\0<=ix (dig f.Prime f.Degree a) j+s*ix (dig f.Prime f.Degree b) j+f.Prime:=by
   rcases hs with ⟨h,_⟩|⟨h,_⟩<;>subst h<;>omega
  have r:=Int.tmod_eq_emod_of_nonneg (b:=f.Prime) (a:=ix (dig f.Prime f.Degree a) j+s*ix (dig f.Prime f.Degree b) j+f.Prime) ω
  have u:(ix (dig f.Prime f.Degree a) j+s*ix (dig f.Prime f.Degree b) j+f.Prime)%f.Prime=(ix (dig f.Prime f.Degree a) j+c*ix (dig f.Prime f.Degree b) j)%f.Prime:=by
   rcases hs with ⟨h,h'⟩|⟨h,h'⟩<;>subst h<;>subst h'
   ·rw [Int.add_emod_right]
   ·exact Zx5 i l ω o
  simp (disch:=omega) only [pz,ZfL,he,r,u]]
 refine Zc ?_
 simp (disch:=omega) only [pz,ZfL,Zbu,Zqi,ZqK hf a b c]
theorem ZsE {xs:List Int} (h:(xs.length:Int)<=1048576):ZaZ xs=some xs:=by
 unfold ZaZ
 rw [ZaW (by simp;omega) (by simp;omega)]
 rfl
theorem ZbI {p:Int} {poly xs:List Int}:∀ m,(rstN p poly xs m).length=xs.length
 | 0=>rfl
 | m+1=>by show (axAt _ _ _ _ _).length=_;rw [Zbu,ZbI m]
theorem Zkh {p:Int} {poly xs:List Int} (hp:2<=p) (a:In p xs):∀ m,In p (rstN p poly xs m)
 | 0=>a
 | m+1=>ZmL hp (Zkh hp a m)
theorem Ztv {p:Int} {poly xs:List Int} {m:Int} (h:0<=m):rstN p poly xs (m+1).toNat=axAt p (p-ix (rstN p poly xs m.toNat) ((xs.length:Int)-1-m)) poly ((xs.length:Int)-1-m-((poly.length:Int)-1)) (rstN p poly xs m.toNat):=by
 rw [show (m+1).toNat=m.toNat+1 by omega]
 show axAt _ _ _ _ _=_
 rw [show (m.toNat:Int)=m by omega]
theorem ZEW {poly g:List Int} (o:(g.length:Int)<=1048576) (r:1<=(poly.length:Int)) (h:(poly.length:Int)-1<=g.length):loop (ρ:=(Int×List Int) ⊕ List Int) (Zch poly) g=some (.inr (g.take ((poly.length:Int)-1).toNat)):=by
 have l:=Zl (B:=Zch poly) (fun j=>g.take ((g.length:Int)-j).toNat) (i:=0) (n:=(g.length:Int)-((poly.length:Int)-1)) ω fun j f h1=>by
  have k:(g.take ((g.length:Int)-j).toNat).length=((g.length:Int)-j).toNat:=by rw [List.length_take];omega
  have e:(List.take ((((g.length:Int)-j).toNat:Int)-1).toNat (g.take ((g.length:Int)-j).toNat)).drop (0:Int).toNat=g.take ((g.length:Int)-(j+1)).toNat:=by
   rw [show (0:Int).toNat=0 from rfl,List.drop_zero,List.take_take]
   congr 1
   omega
  simp (disch:=omega) only [pz,Zch,k,ZbT,e]
 have a:g=(fun j:Int=>g.take ((g.length:Int)-j).toNat) 0:=by simp
 conv=>lhs;rw [a]
 rw [l]
 refine Zc ?_
 have c:(g.length:Int)-((g.length:Int)-((poly.length:Int)-1))=(poly.length:Int)-1:=ω
 have k:(g.take ((poly.length:Int)-1).toNat).length=((poly.length:Int)-1).toNat:=by rw [List.length_take];omega
 simp (disch:=omega) only [pz,Zch,c,k]
theorem ZwC {p y:Int} {poly ys:List Int} (hp:2<=p) (f:p<=64) (hP:In p poly) (hy:In p ys) (hl:(ys.length:Int)<=4096) (h1:1<=(poly.length:Int)) (r:(poly.length:Int)-1<=y) (g:y<ys.length):
  Zbo poly p (y,ys)=some (.inl (y-1,axAt p (p-ix ys y) poly (y-((poly.length:Int)-1)) ys)):=by
 have hg:0<=y:=ω
 obtain ⟨s,u⟩:=hy y ω g
 simp (disch:=omega) only [pz,Zbo]
 rw [Zf5 (p:=p) (c:=p-ix ys y) (off:=y-((poly.length:Int)-1)) (ws:=poly) ω ω fun j zs h i hz he=>by
  obtain ⟨k,l⟩:=hP j h i
  obtain ⟨v,w⟩:=hy (y-((poly.length:Int)-1)+j) ω ω
  obtain ⟨x,g8⟩:=ZiG (a:=p-ix ys y) (b:=ix poly j) ω ω k (Int.le_of_lt l) f
  have o:=Int.tmod_eq_emod_of_nonneg (b:=p) (a:=ix ys (y-((poly.length:Int)-1)+j)+(p-ix ys y)*ix poly j) ω
  have e:y-(poly.length:Int)+1+j=y-((poly.length:Int)-1)+j:=ω
  simp (disch:=omega) only [pz,Zer,e,he,o]]
 refine Zc ?_
 simp (disch:=omega) only [pz,Zer]
theorem ZA5 {p y:Int} {poly ys:List Int} (hp:2<=p) (e:p<=64) (hP:In p poly) (hy:In p ys) (hl:(ys.length:Int)<=4096) (h1:1<=(poly.length:Int)) (r:(poly.length:Int)-1<=y) (f:y<ys.length):
  Zbr poly p (y,ys)=some (.inl (y-1,axAt p (p-ix ys y) poly (y-((poly.length:Int)-1)) ys)):=by
 have hg:0<=y:=ω
 obtain ⟨s,u⟩:=hy y ω f
 simp (disch:=omega) only [pz,Zbr]
 rw [Zf5 (p:=p) (c:=p-ix ys y) (off:=y-((poly.length:Int)-1)) (ws:=poly) ω ω fun j zs g h hz he=>by
  obtain ⟨i,k⟩:=hP j g h
  obtain ⟨v,w⟩:=hy (y-((poly.length:Int)-1)+j) ω ω
  obtain ⟨x,g8⟩:=ZiG (a:=ix ys y) (b:=ix poly j) ω ω i (Int.le_of_lt k) e
  generalize hX:ix ys (y-((poly.length:Int)-1)+j)=X at *
  generalize hM:ix ys y*ix poly j=M at *
  have b1:=Int.lt_tmod_of_pos (X-M) (by omega:(0:Int)<p)
  have b2:=Int.tmod_lt_of_pos (X-M) (by omega:(0:Int)<p)
  have l:=Int.tmod_eq_emod_of_nonneg (b:=p) (a:=(X-M).tmod p+p) ω
  have o:((X-M).tmod p+p)%p=(X+(p-ix ys y)*ix poly j)%p:=by
   rw [Int.add_emod_right,Int.sub_mul,hM]
   have h9:=Int.mul_tdiv_add_tmod (X-M) p
   have:(X+(p*ix poly j-M))=(X-M).tmod p+p*((X-M).tdiv p+ix poly j):=by
    rw [Int.mul_add];omega
   rw [this,Int.add_mul_emod_self_left]
  simp (disch:=omega) only [pz,ZeE,he,hM,l,o]]
 refine Zc ?_
 simp (disch:=omega) only [pz,ZeE]
theorem ZAy {p:Int} {poly xs:List Int} (hp:2<=p) (a:p<=64) (l:In p poly) (c:In p xs) (r:(xs.length:Int)<=4096) (h1:1<=(poly.length:Int)) (h:(poly.length:Int)-1<=xs.length):
  ZdE xs poly p=some ((rstN p poly xs ((xs.length:Int)-((poly.length:Int)-1)).toNat).take ((poly.length:Int)-1).toNat):=by
 unfold ZdE
 rw [ZsE ω]
 show loop (Zbo poly p) (IntKind.i64.wrap ((xs.length:Int)-1),xs)=_
 rw [wr64 ω ω]
 have k:=Zl (B:=Zbo poly p) (fun m=>((xs.length:Int)-1-m,rstN p poly xs m.toNat)) (i:=0) (n:=(xs.length:Int)-((poly.length:Int)-1)) ω fun m e j=>by
  have o:=ZbI (p:=p) (poly:=poly) (xs:=xs) m.toNat
  show Zbo poly p ((xs.length:Int)-1-m,_)=_
  rw [ZwC hp a l (Zkh hp c _) ω h1 ω ω,Ztv e,show (xs.length:Int)-1-(m+1)=(xs.length:Int)-1-m-1 by omega]
 have f:((xs.length:Int)-1,xs)=(fun m:Int=>((xs.length:Int)-1-m,rstN p poly xs m.toNat)) 0:=by
  show _=((xs.length:Int)-1-0,xs)
  rw [Int.sub_zero]
 rw [f,k]
 refine Zc ?_
 have o:=ZbI (p:=p) (poly:=poly) (xs:=xs) ((xs.length:Int)-((poly.length:Int)-1)).toNat
 have g:(xs.length:Int)-1-((xs.length:Int)-((poly.length:Int)-1))=(poly.length:Int)-2:=ω
 simp (disch:=omega) only [pz,Zbo,g]
 rw [ZEW ω h1 ω]
theorem ZBh {p:Int} {poly xs:List Int} (hp:2<=p) (a:p<=64) (o:In p poly) (c:In p xs) (r:(xs.length:Int)<=4096) (h1:1<=(poly.length:Int)) (h:(poly.length:Int)-1<=xs.length):
  ZcS xs poly p=some ((rstN p poly xs ((xs.length:Int)-((poly.length:Int)-1)).toNat).take ((poly.length:Int)-1).toNat):=by
 unfold ZcS
 rw [ZkL ω]
 show loop (Zbr poly p) (IntKind.i64.wrap ((xs.length:Int)-1),xs)=_
 rw [wr64 ω ω]
 have l:=Zl (B:=Zbr poly p) (fun m=>((xs.length:Int)-1-m,rstN p poly xs m.toNat)) (i:=0) (n:=(xs.length:Int)-((poly.length:Int)-1)) ω fun m e j=>by
  have k:=ZbI (p:=p) (poly:=poly) (xs:=xs) m.toNat
  show Zbr poly p ((xs.length:Int)-1-m,_)=_
  rw [ZA5 hp a o (Zkh hp c _) ω h1 ω ω,Ztv e,show (xs.length:Int)-1-(m+1)=(xs.length:Int)-1-m-1 by omega]
 have f:((xs.length:Int)-1,xs)=(fun m:Int=>((xs.length:Int)-1-m,rstN p poly xs m.toNat)) 0:=by
  show _=((xs.length:Int)-1-0,xs)
  rw [Int.sub_zero]
 rw [f,l]
 refine Zc ?_
 have k:=ZbI (p:=p) (poly:=poly) (xs:=xs) ((xs.length:Int)-((poly.length:Int)-1)).toNat
 have g:(xs.length:Int)-1-((xs.length:Int)-((poly.length:Int)-1))=(poly.length:Int)-2:=ω
 simp (disch:=omega) only [pz,Zbr,g,k,ite_f,ZbT]
 rfl
def mulA (f:Zd) (a b:Int):Int:=
 nm f.Prime ((rstN f.Prime f.Poly (cnvN f.Prime (dig f.Prime f.Degree a) (dig f.Prime f.Degree b) (List.replicate (2*f.Degree-1).toNat 0) f.Degree.toNat) (f.Degree-1).toNat).take f.Degree.toNat)
theorem Zbs {p:Int} {as bs xs:List Int}:∀ m,(cnvN p as bs xs m).length=xs.length
 | 0=>rfl
 | m+1=>by show (axAt _ _ _ _ _).length=_;rw [Zbu,Zbs m]
theorem ZcJ {p:Int} {as bs xs:List Int} (hp:2<=p) (a:In p xs):∀ m,In p (cnvN p as bs xs m)
 | 0=>a
 | m+1=>ZmL hp (ZcJ hp a m)
theorem ZsP {p:Int} {as bs xs:List Int} {m:Int} (h:0<=m):cnvN p as bs xs (m+1).toNat=axAt p (ix as m) bs m (cnvN p as bs xs m.toNat):=by
 rw [show (m+1).toNat=m.toNat+1 by omega]
 show axAt _ _ _ _ _=_
 rw [show (m.toNat:Int)=m by omega]
theorem Zjt {p n:Int} (hp:2<=p):In p (List.replicate n.toNat 0):=fun i a h1=>by
 rw [List.length_replicate] at h1
 rw [ZcD a h1];omega
theorem ZrM {p:Int} {xs:List Int} {n:Int} (h:In p xs):In p (xs.take n.toNat):=fun i a h1=>by
 rw [List.length_take] at h1
 rw [ZdG a ω]
 exact h i a ω
theorem Zyi {f:Zd} (hf:Fd f) {as bs ys:List Int} {i:Int} (ha:In f.Prime as) (e:In f.Prime bs) (hy:In f.Prime ys) (hl:(ys.length:Int)<=4096) (g:0<=i) (h1:i<as.length) (u:i+(bs.length:Int)<=ys.length):
  Zc8 f as bs (i,ys)=some (.inl (i+1,axAt f.Prime (ix as i) bs i ys)):=by
 have:=hf.p2;have:=hf.p64
 obtain ⟨v,h⟩:=ha i g h1
 simp (disch:=omega) only [pz,Zc8]
 rw [Zf5 (p:=f.Prime) (c:=ix as i) (off:=i) (ws:=bs) ω ω fun j zs k l hz he=>by
  obtain ⟨o,r⟩:=e j k l
  obtain ⟨w,x⟩:=hy (i+j) ω ω
  obtain ⟨y,g8⟩:=ZiG (a:=ix as i) (b:=ix bs j) ω (Int.le_of_lt h) o (Int.le_of_lt r) hf.p64
  have s:=Int.tmod_eq_emod_of_nonneg (b:=f.Prime) (a:=ix ys (i+j)+ix as i*ix bs j) ω
  simp (disch:=omega) only [pz,ZjH,he,s]]
 refine Zc ?_
 simp (disch:=omega) only [pz,ZjH]
theorem ZEl {f:Zd} (hf:Fd f) {as bs ys:List Int} {i:Int} (ha:In f.Prime as) (e:In f.Prime bs) (hy:In f.Prime ys) (hl:(ys.length:Int)<=4096) (g:0<=i) (h1:i<as.length) (u:i+(bs.length:Int)<=ys.length):
  Zc4 f as bs (i,ys)=some (.inl (i+1,axAt f.Prime (ix as i) bs i ys)):=by
 have:=hf.p2;have:=hf.p64
 obtain ⟨v,h⟩:=ha i g h1
 simp (disch:=omega) only [pz,Zc4]
 rw [Zf5 (p:=f.Prime) (c:=ix as i) (off:=i) (ws:=bs) ω ω fun j zs k l hz he=>by
  obtain ⟨o,r⟩:=e j k l
  obtain ⟨w,x⟩:=hy (i+j) ω ω
  obtain ⟨y,g8⟩:=ZiG (a:=ix as i) (b:=ix bs j) ω (Int.le_of_lt h) o (Int.le_of_lt r) hf.p64
  have s:=Int.tmod_eq_emod_of_nonneg (b:=f.Prime) (a:=ix ys (i+j)+ix as i*ix bs j) ω
  simp (disch:=omega) only [pz,Zix,he,s]]
 refine Zc ?_
 simp (disch:=omega) only [pz,Zix]
theorem Zso {f:Zd} (e:Fd f) (a b:Int):Za2 ((rstN f.Prime f.Poly (cnvN f.Prime (dig f.Prime f.Degree a) (dig f.Prime f.Degree b) (List.replicate (2*f.Degree-1).toNat 0) f.Degree.toNat) (f.Degree-1).toNat).take f.Degree.toNat) f.Prime=some (mulA f a b):=by
 have:=e.p2;have:=e.p64;have:=e.k1;have:=e.k6
 have g:((rstN f.Prime f.Poly (cnvN f.Prime (dig f.Prime f.Degree a) (dig f.Prime f.Degree b) (List.replicate (2*f.Degree-1).toNat 0) f.Degree.toNat) (f.Degree-1).toNat).take f.Degree.toNat).length=f.Degree.toNat:=by
  rw [List.length_take,ZbI,Zbs,List.length_replicate];omega
 refine ZqP ω ω (ZrM (Zkh ω (ZcJ ω (Zjt ω) _) _)) ω ?_
 rw [g]
 exact e.w64
theorem Zl7 {f:Zd} (l:Fd f) {a b:Int} (w:0<=a) (h:a<=4096) (e:0<=b) (j:b<=4096):Ze0 f a b=some (mulA f a b):=by
 have:=l.p2;have:=l.p64;have:=l.k1;have:=l.k6;have a1:=l.pl
 have y:=ZaM (p:=f.Prime) (k:=f.Degree) (a:=a) ω
 have a2:=ZaM (p:=f.Prime) (k:=f.Degree) (a:=b) ω
 unfold Ze0
 rw [ZmN w ω ω ω ω ω,ZmN e ω ω ω ω ω]
 simp (disch:=omega) only [pz,Zaw]
 have o:=Zjt (p:=f.Prime) (n:=2*f.Degree-1) ω
 have a0:(List.replicate (2*f.Degree-1).toNat (0:Int)).length=(2*f.Degree-1).toNat:=List.length_replicate
 have u:=Zl (B:=Zc8 f (dig f.Prime f.Degree a) (dig f.Prime f.Degree b)) (fun i=>(i,cnvN f.Prime (dig f.Prime f.Degree a) (dig f.Prime f.Degree b) (List.replicate (2*f.Degree-1).toNat 0) i.toNat)) (i:=0) (n:=f.Degree) ω fun i c h1=>by
  have x:=Zbs (p:=f.Prime) (as:=dig f.Prime f.Degree a) (bs:=dig f.Prime f.Degree b) (xs:=List.replicate (2*f.Degree-1).toNat 0) i.toNat
  show Zc8 _ _ _ (i,_)=_
  rw [Zyi l (ZbG ω) (ZbG ω) (ZcJ ω o _) ω c ω ω,ZsP c]
 have g:((0:Int),List.replicate (2*f.Degree-1).toNat (0:Int))=(fun i:Int=>(i,cnvN f.Prime (dig f.Prime f.Degree a) (dig f.Prime f.Degree b) (List.replicate (2*f.Degree-1).toNat 0) i.toNat)) 0:=rfl
 rw [g,u]
 refine Zc ?_
 have x:=Zbs (p:=f.Prime) (as:=dig f.Prime f.Degree a) (bs:=dig f.Prime f.Degree b) (xs:=List.replicate (2*f.Degree-1).toNat 0) f.Degree.toNat
 have r:=ZAy (p:=f.Prime) (poly:=f.Poly) (xs:=cnvN f.Prime (dig f.Prime f.Degree a) (dig f.Prime f.Degree b) (List.replicate (2*f.Degree-1).toNat 0) f.Degree.toNat) ω ω l.rng (ZcJ ω o _) ω ω ω
 rw [show ((cnvN f.Prime (dig f.Prime f.Degree a) (dig f.Prime f.Degree b) (List.replicate (2*f.Degree-1).toNat 0) f.Degree.toNat).length:Int)-((f.Poly.length:Int)-1)=f.Degree-1 by omega,show (f.Poly.length:Int)-1=f.Degree by omega] at r
 simp (disch:=omega) only [pz,Zc8,r,Zso l a b]
theorem ZrH {p c off z:Int} {ws xs:List Int} (h:off+(ws.length:Int)<=xs.length):axAt p c ws off (xs++[z])=axAt p c ws off xs++[z]:=by
 apply ZaL
 ·rw [Zbu,List.length_append,List.length_append,Zbu]
 ·intro i a e
  rw [Zbu,List.length_append] at e
  have f:i<(xs.length:Int)+1:=by simpa using e
  unfold axAt
  rw [ZI a (by rw [List.length_append];exact e)]
  by_cases hi:i<(xs.length:Int)
  ·rw [Znt a hi,Znt a (by rw [Zm];omega),ZI a ω]
  ·rw [if_neg ω,ZkE ω,ZkE (by rw [Zm];omega),Zm]
   congr 2
theorem ZrP {p z:Int} {as bs xs:List Int} {k:Nat} (h:(k:Int)-1+(bs.length:Int)<=xs.length):∀ m,m<=k->cnvN p as bs (xs++[z]) m=cnvN p as bs xs m++[z]
 | 0,_=>rfl
 | m+1,hm=>by
  show axAt _ _ _ _ (cnvN p as bs (xs++[z]) m)=axAt _ _ _ _ _++[z]
  rw [ZrP h m ω,ZrH (by rw [Zbs];omega)]
theorem ZEI {p off:Int} {ws xs:List Int} (a:In p xs):axAt p p ws off xs=xs:=by
 refine Eq.trans (ZM fun i c e=>?_) (Zbe xs)
 obtain ⟨h1,f⟩:=a i c e
 split
 ·rw [Int.add_mul_emod_self_left,Int.emod_eq_of_lt h1 f]
 ·rfl
theorem Zsi {p:Int} {poly xs:List Int} (hp:2<=p) (c:In p xs) (a:In p (xs++[0])) (h1:1<=(poly.length:Int)):∀ m:Nat,(m:Int)+((poly.length:Int)-1)<=xs.length->rstN p poly (xs++[0]) (m+1)=rstN p poly xs m++[0]
 | 0,h=>by
  show axAt p (p-ix (xs++[0]) _) _ _ (xs++[0])=xs++[0]
  rw [ZkE (by rw [List.length_append];simp),List.length_append]
  rw [show (((xs.length+[(0:Int)].length:Nat):Int)-1-((0:Nat):Int)-(xs.length:Int))=0 by simp,ZuW,Int.sub_zero,ZEI a]
 | m+1,h=>by
  have e:=ZbI (p:=p) (poly:=poly) (xs:=xs) m
  show axAt p (p-ix (rstN p poly (xs++[0]) (m+1)) _) poly _ (rstN p poly (xs++[0]) (m+1))=axAt _ _ _ _ _++[0]
  rw [Zsi hp c a h1 m ω,List.length_append]
  rw [show (((xs.length+[(0:Int)].length:Nat):Int)-1-((m+1:Nat):Int))=(xs.length:Int)-1-(m:Int) by simp;omega]
  rw [Znt ω ω,ZrH ω]
theorem ZwF {f:Zd} (r:Fd f) {a b:Int} (ha:0<=a) (l:a<=4096) (g:0<=b) (o:b<=4096):Zjj f a b=some (mulA f a b):=by
 have:=r.p2;have:=r.p64;have:=r.k1;have:=r.k6;have a6:=r.pl
 have a4:=ZaM (p:=f.Prime) (k:=f.Degree) (a:=a) ω
 have a7:=ZaM (p:=f.Prime) (k:=f.Degree) (a:=b) ω
 unfold Zjj
 rw [Zjp ha ω ω ω ω ω,Zjp g ω ω ω ω ω]
 simp (disch:=omega) only [pz,Zaw]
 have a0:=Zjt (p:=f.Prime) (n:=2*f.Degree-1) ω
 have c:=Zjt (p:=f.Prime) (n:=2*f.Degree) ω
 have a5:(List.replicate (2*f.Degree).toNat (0:Int)).length=(2*f.Degree).toNat:=List.length_replicate
 have h:(List.replicate (2*f.Degree-1).toNat (0:Int)).length=(2*f.Degree-1).toNat:=List.length_replicate
 have u:List.replicate (2*f.Degree).toNat (0:Int)=List.replicate (2*f.Degree-1).toNat 0++[0]:=by
  rw [show (2*f.Degree).toNat=(2*f.Degree-1).toNat+1 by omega,List.replicate_succ']
 have a1:=Zl (B:=Zc4 f (dig f.Prime f.Degree a) (dig f.Prime f.Degree b)) (fun i=>(i,cnvN f.Prime (dig f.Prime f.Degree a) (dig f.Prime f.Degree b) (List.replicate (2*f.Degree).toNat 0) i.toNat)) (i:=0) (n:=f.Degree) ω fun i e h1=>by
  have hL:=Zbs (p:=f.Prime) (as:=dig f.Prime f.Degree a) (bs:=dig f.Prime f.Degree b) (xs:=List.replicate (2*f.Degree).toNat 0) i.toNat
  show Zc4 _ _ _ (i,_)=_
  rw [ZEl r (ZbG ω) (ZbG ω) (ZcJ ω c _) ω e ω ω,ZsP e]
 have j:((0:Int),List.replicate (2*f.Degree).toNat (0:Int))=(fun i:Int=>(i,cnvN f.Prime (dig f.Prime f.Degree a) (dig f.Prime f.Degree b) (List.replicate (2*f.Degree).toNat 0) i.toNat)) 0:=rfl
 rw [j,a1]
 refine Zc ?_
 have hL:=Zbs (p:=f.Prime) (as:=dig f.Prime f.Degree a) (bs:=dig f.Prime f.Degree b) (xs:=List.replicate (2*f.Degree).toNat 0) f.Degree.toNat
 have w:=ZBh (p:=f.Prime) (poly:=f.Poly) (xs:=cnvN f.Prime (dig f.Prime f.Degree a) (dig f.Prime f.Degree b) (List.replicate (2*f.Degree).toNat 0) f.Degree.toNat) ω ω r.rng (ZcJ ω c _) ω ω ω
 rw [show ((cnvN f.Prime (dig f.Prime f.Degree a) (dig f.Prime f.Degree b) (List.replicate (2*f.Degree).toNat 0) f.Degree.toNat).length:Int)-((f.Poly.length:Int)-1)=f.Degree by omega,show (f.Poly.length:Int)-1=f.Degree by omega] at w
 have x:=ZrP (p:=f.Prime) (z:=0) (as:=dig f.Prime f.Degree a) (bs:=dig f.Prime f.Degree b) (xs:=List.replicate (2*f.Degree-1).toNat 0) (k:=f.Degree.toNat) ω f.Degree.toNat (Nat.le_refl _)
 have a8:=Zbs (p:=f.Prime) (as:=dig f.Prime f.Degree a) (bs:=dig f.Prime f.Degree b) (xs:=List.replicate (2*f.Degree-1).toNat 0) f.Degree.toNat
 have y:=Zsi (p:=f.Prime) (poly:=f.Poly) ω (ZcJ (p:=f.Prime) (as:=dig f.Prime f.Degree a) (bs:=dig f.Prime f.Degree b) ω a0 f.Degree.toNat) (by rw [<-x,<-u];exact ZcJ ω c _) ω (f.Degree-1).toNat ω
 rw [<-u] at x
 rw [show (f.Degree-1).toNat+1=f.Degree.toNat by omega] at y
 rw [x] at w ⊢
 rw [y,List.take_append_of_le_length (by rw [ZbI];omega)] at w
 simp (disch:=omega) only [pz,Zc4,w,Zqi,Zso r a b]
noncomputable def gx (xs:List Int):Nat->Int:=List.rec (fun _=>0) (fun a _ e n=>Nat.rec a (fun m _=>e m) n) xs
theorem gx_ok:∀ (xs:List Int) (n:Nat),gx xs n=ix xs (n:Int)
 | [],n=>by simp [gx,ix]
 | a::xs,0=>rfl
 | a::xs,n+1=>by
  show gx xs n=_
  rw [gx_ok xs n,ZdT ω]
  congr 1
  omega
theorem Znb {α:Type} {n:Nat} {f:Int->α}:tabl ((n+1:Nat):Int) f=f 0::tabl (n:Int) fun i=>f (i+1):=by
 unfold tabl
 rw [show (((n+1:Nat):Int)).toNat=n+1 by omega,List.range_succ_eq_map,List.map_cons,List.map_map]
 congr 1
noncomputable def axR (p c:Int) (ws:List Int):List Int->List Int:=List.rec (fun xs=>xs) (fun w _ a xs=>List.rec [] (fun x xs _=>Int.emod (Int.add x (Int.mul c w)) p::a xs) xs) ws
noncomputable def axE (p c:Int) (ws:List Int) (off:Nat):List Int->List Int:=Nat.rec (axR p c ws) (fun _ a xs=>List.rec [] (fun x xs _=>x::a xs) xs) off
theorem Zou {p c:Int}:∀ (ws xs:List Int),ws.length<=xs.length->axR p c ws xs=axAt p c ws 0 xs
 | [],xs,_=>by
  show xs=_
  refine (Zbe xs).symm.trans (ZM fun i a e=>?_)
  rw [if_neg (by rw [show (([]:List Int).length:Int)=0 from rfl];omega)]
 | w::ws,[],h=>by simp at h
 | w::ws,x::xs,h=>by
  show ((x+c*w)%p)::axR p c ws xs=_
  rw [Zou ws xs (by simpa using h)]
  unfold axAt
  rw [show (((x::xs).length:Nat):Int)=((xs.length+1:Nat):Int) from rfl,Znb]
  congr 1
  ·rw [if_pos (by rw [show (((w::ws).length:Nat):Int)=(ws.length:Int)+1 by simp];omega)];rfl
  ·refine ZM fun i a e=>?_
   rw [show (((w::ws).length:Nat):Int)=(ws.length:Int)+1 by simp]
   by_cases hi:i<(ws.length:Int)
   ·rw [if_pos ω,if_pos ω,ZdT ω,ZdT ω,show i+1-1=i by omega,show i+1-0-1=i-0 by omega]
   ·rw [if_neg ω,if_neg ω,ZdT ω,show i+1-1=i by omega]
theorem Zoa {p c:Int} {ws:List Int}:∀ (off:Nat) (xs:List Int),off+ws.length<=xs.length->axE p c ws off xs=axAt p c ws (off:Int) xs
 | 0,xs,h=>Zou ws xs ω
 | off+1,[],h=>by simp at h
 | off+1,x::xs,h=>by
  show x::axE p c ws off xs=_
  rw [Zoa off xs (by simp at h;omega)]
  unfold axAt
  rw [show (((x::xs).length:Nat):Int)=((xs.length+1:Nat):Int) from rfl,Znb]
  congr 1
  refine ZM fun i a e=>?_
  by_cases hi:(off:Int)<=i/\i<(off:Int)+(ws.length:Int)
  ·rw [if_pos hi,if_pos ω,ZdT ω,show i+1-1=i by omega,show i+1-((off+1:Nat):Int)=i-(off:Int) by omega]
  ·rw [if_neg hi,if_neg ω,ZdT ω,show i+1-1=i by omega]
noncomputable def digE (p:Int) (k:Nat):Int->List Int:=Nat.rec (fun _=>[]) (fun _ g a=>Frc.frc (Int.ediv a p) fun e=>Int.emod a p::g e) k
theorem Ztp (p a:Int):∀ i:Nat,qd p a (i+1)=qd p (a/p) i
 | 0=>rfl
 | i+1=>by show qd p a (i+1)/p=_;rw [Ztp p a i];rfl
theorem ZiX {p:Int}:∀ (k:Nat) (a:Int),digE p k a=dig p (k:Int) a
 | 0,a=>rfl
 | k+1,a=>by
  show Frc.frc (Int.ediv a p) _=_
  rw [Frc.ok]
  show (a%p)::digE p k (a/p)=_
  rw [ZiX k (a/p)]
  unfold dig
  rw [Znb]
  congr 1
  refine ZM fun i c e=>?_
  rw [show (i+1).toNat=i.toNat+1 by omega,Ztp]
noncomputable def nmE (p:Int) (xs:List Int):Int:=List.rec 0 (fun d _ r=>Int.add (Int.mul r p) d) xs
theorem ZuS {p d:Int} {a:List Int}:∀ m:Nat,m<=a.length->nmN p (d::a) m=nmN p a m
 | 0,_=>rfl
 | m+1,h=>by
  show nmN p (d::a) m*p+ix (d::a) _=nmN p a m*p+ix a _
  rw [ZuS m ω,ZdT (by simp;omega)]
  congr 2
  simp;omega
theorem Zog {p:Int}:∀ xs:List Int,nmE p xs=nm p xs
 | []=>rfl
 | d::ds=>by
  show nmE p ds*p+d=nmN p (d::ds) (ds.length+1)
  show nmE p ds*p+d=nmN p (d::ds) ds.length*p+ix (d::ds) _
  rw [ZuS _ (Nat.le_refl _),Zog ds,show (((d::ds).length:Nat):Int)-1-(ds.length:Int)=0 by simp,ZuW]
  rfl
noncomputable def sumE (p:Int) (k:Nat) (a b c:Int):Int:=Frc.frc (digE p k a) fun as=>Frc.frc (digE p k b) fun bs=>Frc.frc (axR p c bs as) fun xs=>nmE p xs
noncomputable def cnvE (p:Int) (as bs xs:List Int) (m:Nat):List Int:=Nat.rec xs (fun i r=>axE p (gx as i) bs i r) m
noncomputable def rstE (p:Int) (poly:List Int) (l k:Nat) (xs:List Int) (m:Nat):List Int:=Nat.rec xs (fun m r=>Frc.frc r fun a=>Frc.frc (Int.sub p (gx a (Nat.sub (Nat.sub l 1) m))) fun c=>axE p c poly (Nat.sub (Nat.sub (Nat.sub l 1) m) k) a) m
noncomputable def tkE (n:Nat):List Int->List Int:=Nat.rec (fun _=>[]) (fun _ a xs=>List.rec [] (fun x xs _=>x::a xs) xs) n
theorem Zqt:∀ (n:Nat) (xs:List Int),tkE n xs=xs.take n
 | 0,xs=>rfl
 | n+1,[]=>rfl
 | n+1,x::xs=>by show x::tkE n xs=_;rw [Zqt n xs];rfl
noncomputable def rpE (n:Nat):List Int:=Nat.rec [] (fun _ r=>0::r) n
theorem Zs2:∀ n:Nat,rpE n=List.replicate n 0
 | 0=>rfl
 | n+1=>by show 0::rpE n=_;rw [Zs2 n];rfl
noncomputable def mulE (p:Int) (k:Nat) (poly:List Int) (a b:Int):Int:=
 Frc.frc (digE p k a) fun as=>Frc.frc (digE p k b) fun bs=>
 Frc.frc (cnvE p as bs (rpE (Nat.sub (Nat.mul 2 k) 1)) k) fun xs=>Frc.frc (rstE p poly (Nat.sub (Nat.mul 2 k) 1) k xs (Nat.sub k 1)) fun e=>nmE p (tkE k e)
theorem ZqL {p:Int} {as bs xs:List Int}:∀ m:Nat,(m:Int)-1+(bs.length:Int)<=xs.length->cnvE p as bs xs m=cnvN p as bs xs m
 | 0,_=>rfl
 | m+1,h=>by
  show axE p (gx as m) bs m (cnvE p as bs xs m)=axAt _ _ _ _ _
  rw [ZqL m ω,Zoa m _ (by rw [Zbs];omega),gx_ok]
theorem Zse {p:Int} {poly xs:List Int} {l k:Nat} (e:xs.length=l) (g:poly.length=k+1):∀ m:Nat,m+k<=l->rstE p poly l k xs m=rstN p poly xs m
 | 0,_=>rfl
 | m+1,h=>by
  show Frc.frc (rstE p poly l k xs m) _=axAt _ _ _ _ _
  rw [Frc.ok,Frc.ok,Zse e g m ω,gx_ok]
  rw [Zoa _ _ (by rw [ZbI,e,g];show l-1-m-k+(k+1)<=l;omega)]
  rw [e,g]
  have a:((Nat.sub (Nat.sub l 1) m:Nat):Int)=(l:Int)-1-(m:Int):=by
   show ((l-1-m:Nat):Int)=_;omega
  have c:((Nat.sub (Nat.sub (Nat.sub l 1) m) k:Nat):Int)=(l:Int)-1-(m:Int)-(((k+1:Nat):Int)-1):=by
   show ((l-1-m-k:Nat):Int)=_;omega
  rw [a,c]
  rfl
theorem ZBp {f:Zd} (h:Fd f) {k:Nat} (g:f.Degree=(k:Int)) (a b c:Int):sumE f.Prime k a b c=sumA f a b c:=by
 unfold sumE sumA
 rw [Frc.ok,Frc.ok,Frc.ok,ZiX,ZiX,Zog,g]
 rw [Zou _ _ (by
  have h1:=ZaM (p:=f.Prime) (k:=(k:Int)) (a:=a) ω
  have e:=ZaM (p:=f.Prime) (k:=(k:Int)) (a:=b) ω
  omega)]
theorem Zx2 {f:Zd} (h:Fd f) {k:Nat} (j:f.Degree=(k:Int)) (a b:Int):mulE f.Prime k f.Poly a b=mulA f a b:=by
 have:=h.k1;have:=h.k6;have l:=h.pl
 have h1:=ZaM (p:=f.Prime) (k:=(k:Int)) (a:=a) ω
 have g:=ZaM (p:=f.Prime) (k:=(k:Int)) (a:=b) ω
 unfold mulE mulA
 rw [Frc.ok,Frc.ok,Frc.ok,Frc.ok,ZiX,ZiX,Zog,j,Zqt,Zs2]
 have c:Nat.sub (Nat.mul 2 k) 1=(2*(k:Int)-1).toNat:=by show 2*k-1=_;omega
 have e:Nat.sub k 1=((k:Int)-1).toNat:=by show k-1=_;omega
 rw [c,e,Int.toNat_natCast]
 rw [ZqL k (by rw [List.length_replicate];omega)]
 rw [Zse (by rw [Zbs,List.length_replicate]) ω _ ω]
set_option maxRecDepth 20000
noncomputable def allN (n:Nat) (f:Nat->Bool):Bool:=Nat.rec true (fun m r=>bif f m then r else false) n
theorem Zff {f:Nat->Bool}:∀ {n:Nat},allN n f=true->∀ m,m<n->f m=true
 | 0,_,m,hm=>by omega
 | n+1,h,m,hm=>by
  have a:(bif f n then allN n f else false)=true:=h
  cases hf:f n with
  | false=>rw [hf] at a;cases a
  | true=>
   rw [hf] at a
   by_cases e:m=n
   ·rw [e];exact hf
   ·exact Zff a m ω
noncomputable def ngE (p:Int) (k:Nat) (a:Int):Int:=sumE p k 0 a (Int.sub p 1)
noncomputable def eqb (a b:Bool):Bool:=Bool.rec (Bool.rec true false b) b a
theorem Zsl {a b:Bool} (h:eqb a b=true):a=b:=by cases a<;>cases b<;>first|rfl|cases h
noncomputable def both (a b:Bool):Bool:=Bool.rec false b a
theorem Zek {a b:Bool} (h:both a b=true):a=true/\b=true:=by cases a<;>cases b<;>first|exact ⟨rfl,rfl⟩|cases h
theorem ZeG {a b:Int} (h:eqi a b=true):a=b:=by rw [<-Zt] at h;simpa using h
theorem ZkD {a b:Int}:eqi a b=true↔a=b:=by rw [<-Zt];simp
theorem ZvQ {a b:Int}:lti a b=true↔a<b:=by rw [<-Zu];simp
noncomputable def chk (p:Int) (k:Nat) (poly e:List Int) (q:Nat):Bool:=
 allN q fun a=>allN (Nat.succ a) fun b=>Frc.frc (mulE p k poly (.ofNat a) (.ofNat b)) fun m=>
  both (eqi m (mulE p k poly (.ofNat b) (.ofNat a))) (both (eqb (eqi m 1) (eqi (.ofNat b) (gx e a))) (eqb (eqi m 1) (eqi (.ofNat a) (gx e b))))
noncomputable def chkN (p:Int) (k:Nat) (poly:List Int) (q:Nat):Bool:=
 allN q fun a=>Frc.frc (ngE p k (.ofNat a)) fun e=>allN q fun b=>both (Frc.frc (mulE p k poly (.ofNat a) (.ofNat b)) fun m=>eqi (mulE p k poly e (.ofNat b)) (ngE p k m))
  (Frc.frc (ngE p k (.ofNat b)) fun nb=>eqi (sumE p k (.ofNat a) (.ofNat b) (Int.sub p 1)) (sumE p k (.ofNat a) nb 1))
noncomputable def chk1 (p:Int) (k:Nat) (poly e:List Int) (q:Nat):Bool:=
 allN q fun a=>both (eqi (mulE p k poly 0 (.ofNat a)) 0) (both (eqi (sumE p k (.ofNat a) 0 (Int.sub p 1)) (.ofNat a)) (Nat.rec true (fun _ _=>both (lti 0 (gx e a)) (lti (gx e a) (.ofNat q))) a))
noncomputable def chk2 (p:Int) (k:Nat) (q:Nat):Bool:=both (eqi p 2) (allN q fun a=>eqi (ngE p k (.ofNat a)) (.ofNat a))
inductive GF:Int->Zd->Prop
 | f2:GF 2 ⟨2,1,[0,1]⟩
 | f3:GF 3 ⟨3,1,[0,1]⟩
 | f4:GF 4 ⟨2,2,[1,1,1]⟩
 | f5:GF 5 ⟨5,1,[0,1]⟩
 | f7:GF 7 ⟨7,1,[0,1]⟩
 | f8:GF 8 ⟨2,3,[1,1,0,1]⟩
 | f9:GF 9 ⟨3,2,[1,0,1]⟩
 | f11:GF 11 ⟨11,1,[0,1]⟩
 | f13:GF 13 ⟨13,1,[0,1]⟩
 | f16:GF 16 ⟨2,4,[1,1,0,0,1]⟩
 | f17:GF 17 ⟨17,1,[0,1]⟩
 | f19:GF 19 ⟨19,1,[0,1]⟩
 | f23:GF 23 ⟨23,1,[0,1]⟩
 | f25:GF 25 ⟨5,2,[2,0,1]⟩
 | f27:GF 27 ⟨3,3,[1,2,0,1]⟩
 | f29:GF 29 ⟨29,1,[0,1]⟩
 | f31:GF 31 ⟨31,1,[0,1]⟩
 | f32:GF 32 ⟨2,5,[1,0,1,0,0,1]⟩
 | f37:GF 37 ⟨37,1,[0,1]⟩
 | f41:GF 41 ⟨41,1,[0,1]⟩
 | f43:GF 43 ⟨43,1,[0,1]⟩
 | f47:GF 47 ⟨47,1,[0,1]⟩
 | f49:GF 49 ⟨7,2,[1,0,1]⟩
 | f53:GF 53 ⟨53,1,[0,1]⟩
 | f59:GF 59 ⟨59,1,[0,1]⟩
 | f61:GF 61 ⟨61,1,[0,1]⟩
 | f64:GF 64 ⟨2,6,[1,1,0,0,0,0,1]⟩
structure Ff (f:Zd) (q:Int) (inv:List Int):Prop where
 fd:Fd f
 pw:pwN f.Prime f.Degree.toNat=q
 q2:2<=q
 q64:q<=64
 comm:∀ a b,0<=a->a<q->0<=b->b<q->mulA f a b=mulA f b a
 neg:∀ a b,0<=a->a<q->0<=b->b<q->mulA f (sumA f 0 a (f.Prime-1)) b=sumA f 0 (mulA f a b) (f.Prime-1)
 sub:∀ a b,0<=a->a<q->0<=b->b<q->sumA f a b (f.Prime-1)=sumA f a (sumA f 0 b (f.Prime-1)) 1
 inv1:∀ a,1<=a->a<q->1<=ix inv a/\ix inv a<q
 inv2:∀ a b,0<=a->a<q->0<=b->b<q->(mulA f a b=1↔b=ix inv a)
 z1:∀ a,0<=a->a<q->mulA f 0 a=0
 z2:∀ a,0<=a->a<q->sumA f a 0 (f.Prime-1)=a
theorem ZrY {f:Zd} {q:Int} (g:Fd f) (a:pwN f.Prime f.Degree.toNat=q) {xs:List Int} (c:In f.Prime xs) (e:xs.length=f.Degree.toNat):0<=nm f.Prime xs/\nm f.Prime xs<q:=by
 have:=ZkG g.p2 c xs.length (Nat.le_refl _)
 unfold nm
 rw [e,a] at this
 rw [e]
 exact this
theorem ZlY {f:Zd} {q:Int} (g:Fd f) (e:pwN f.Prime f.Degree.toNat=q) (a b c:Int):0<=sumA f a b c/\sumA f a b c<q:=by
 have:=g.p2;have:=g.k1
 refine ZrY g e (ZmL ω (ZbG ω)) ?_
 have:=ZaM (p:=f.Prime) (k:=f.Degree) (a:=a) ω
 rw [Zbu];omega
theorem ZcY {f:Zd} {q:Int} (e:Fd f) (c:pwN f.Prime f.Degree.toNat=q) (a b:Int):0<=mulA f a b/\mulA f a b<q:=by
 have:=e.p2;have:=e.k1
 refine ZrY e c (ZrM (Zkh ω (ZcJ ω (Zjt ω) _) _)) ?_
 rw [List.length_take,ZbI,Zbs,List.length_replicate];omega
theorem ff_of {f:Zd} {q k:Nat} {a2:List Int} (hf:Fd f) (hk:f.Degree=(k:Int)) (u:pwN f.Prime k=q) (a4:2<=q) (v:q<=64) (h1:chk f.Prime k f.Poly a2 q=true) (w:chk1 f.Prime k f.Poly a2 q=true) (x:chkN f.Prime k f.Poly q=true\/chk2 f.Prime k q=true):Ff f q a2:=by
 have hM:∀ a b,mulE f.Prime k f.Poly a b=mulA f a b:=Zx2 hf hk
 have hS:∀ a b c,sumE f.Prime k a b c=sumA f a b c:=ZBp hf hk
 have a8:pwN f.Prime f.Degree.toNat=(q:Int):=by rw [hk,Int.toNat_natCast];exact u
 have a3:∀ a b:Nat,a<q->b<=a->mulA f a b=mulA f b a/\(mulA f a b=1↔(b:Int)=ix a2 a)/\(mulA f a b=1↔(a:Int)=ix a2 b):=by
  intro a b ha j
  have h:=Zff (Zff h1 a ha) b ω
  simp only [Frc.ok] at h
  obtain ⟨l,e⟩:=Zek h
  obtain ⟨e,o⟩:=Zek e
  rw [hM,hM] at l
  have e:=Zsl e
  have o:=Zsl o
  rw [hM,gx_ok] at e
  rw [hM,gx_ok] at o
  refine ⟨ZeG l,?_,?_⟩
  ·rw [<-ZkD,<-ZkD (a:=(b:Int))]
   exact ⟨fun h=>e.symm.trans h,fun h=>e.trans h⟩
  ·rw [<-ZkD,<-ZkD (a:=(a:Int))]
   exact ⟨fun h=>o.symm.trans h,fun h=>o.trans h⟩
 have a1:∀ {a:Int},0<=a->a<(q:Int)->∃ n:Nat,a=(n:Int)/\n<q:=fun {a} h0 h1=>⟨a.toNat,by omega,by omega⟩
 have one:∀ a:Nat,a<q->mulA f 0 a=0/\sumA f a 0 (f.Prime-1)=a/\(1<=a->1<=ix a2 a/\ix a2 a<q):=by
  intro a ha
  obtain ⟨l,e⟩:=Zek (Zff w a ha)
  obtain ⟨e,o⟩:=Zek e
  rw [hM] at l
  rw [hS] at e
  refine ⟨ZeG l,ZeG e,fun h=>?_⟩
  cases a with
  | zero=>omega
  | succ n=>
   obtain ⟨y,s⟩:=Zek (show both _ _=true from o)
   rw [gx_ok,ZvQ] at y s
   exact ⟨by omega,s⟩
 have a7:∀ a b:Nat,a<q->b<q->mulA f (sumA f 0 a (f.Prime-1)) b=sumA f 0 (mulA f a b) (f.Prime-1)/\sumA f a b (f.Prime-1)=sumA f a (sumA f 0 b (f.Prime-1)) 1:=by
  intro a b ha j
  rcases x with h|h
  ·have h:=Zff h a ha
   simp only [Frc.ok] at h
   have h:=Zff h b j
   obtain ⟨l,e⟩:=Zek h
   unfold ngE at l e
   simp only [hM,hS] at l e
   exact ⟨ZeG l,ZeG e⟩
  ·obtain ⟨l,e⟩:=Zek h
   have hp:=ZeG l
   have ng:∀ a:Nat,a<q->sumA f 0 a (f.Prime-1)=a:=fun a ha=>by
    have:=ZeG (Zff e a ha)
    unfold ngE at this
    rw [hS] at this
    exact this
   rw [ng a ha,ng b j]
   obtain ⟨m0,m1⟩:=ZcY hf a8 a b
   obtain ⟨m,em,hm⟩:=a1 m0 m1
   rw [em,ng m hm]
   refine ⟨rfl,?_⟩
   rw [hp];rfl
 refine ⟨hf,a8,by omega,by omega,?_,?_,?_,?_,?_,?_,?_⟩
 ·intro a b i g p r
  obtain ⟨a,rfl,ha⟩:=a1 i g
  obtain ⟨b,rfl,j⟩:=a1 p r
  by_cases h:b<=a
  ·exact (a3 a b ha h).1
  ·exact (a3 b a j ω).1.symm
 ·intro a b i g p r
  obtain ⟨a,rfl,ha⟩:=a1 i g
  obtain ⟨b,rfl,j⟩:=a1 p r
  exact (a7 a b ha j).1
 ·intro a b i g p r
  obtain ⟨a,rfl,ha⟩:=a1 i g
  obtain ⟨b,rfl,j⟩:=a1 p r
  exact (a7 a b ha j).2
 ·intro a i g
  obtain ⟨a,rfl,ha⟩:=a1 ω g
  exact (one a ha).2.2 ω
 ·intro a b i g p r
  obtain ⟨a,rfl,ha⟩:=a1 i g
  obtain ⟨b,rfl,j⟩:=a1 p r
  by_cases h:b<=a
  ·exact (a3 a b ha h).2.1
  ·have:=a3 b a j ω
   rw [<-this.1]
   exact this.2.2
 ·intro a i g
  obtain ⟨a,rfl,ha⟩:=a1 i g
  exact (one a ha).1
 ·intro a i g
  obtain ⟨a,rfl,ha⟩:=a1 i g
  exact (one a ha).2.1
theorem ff2:Ff ⟨2,1,[0,1]⟩ 2 [(-1),1]:=by
 refine ff_of (q:=2) (k:=1) ⟨by decide,by decide,by decide,by decide,rfl,rfl,?_,by decide⟩ rfl (by decide) (by decide) (by decide) κ κ (.inr κ)
 intro i a h1
 rcases (show i=0\/i=1 by simp at h1;omega) with rfl|rfl<;>decide
theorem ff3:Ff ⟨3,1,[0,1]⟩ 3 [(-1),1,2]:=by
 refine ff_of (q:=3) (k:=1) ⟨by decide,by decide,by decide,by decide,rfl,rfl,?_,by decide⟩ rfl (by decide) (by decide) (by decide) κ κ (.inl κ)
 intro i a h1
 rcases (show i=0\/i=1 by simp at h1;omega) with rfl|rfl<;>decide
theorem ff4:Ff ⟨2,2,[1,1,1]⟩ 4 [(-1),1,3,2]:=by
 refine ff_of (q:=4) (k:=2) ⟨by decide,by decide,by decide,by decide,rfl,rfl,?_,by decide⟩ rfl (by decide) (by decide) (by decide) κ κ (.inr κ)
 intro i a h1
 rcases (show i=0\/i=1\/i=2 by simp at h1;omega) with rfl|rfl|rfl<;>decide
theorem ff5:Ff ⟨5,1,[0,1]⟩ 5 [(-1),1,3,2,4]:=by
 refine ff_of (q:=5) (k:=1) ⟨by decide,by decide,by decide,by decide,rfl,rfl,?_,by decide⟩ rfl (by decide) (by decide) (by decide) κ κ (.inl κ)
 intro i a h1
 rcases (show i=0\/i=1 by simp at h1;omega) with rfl|rfl<;>decide
theorem ff7:Ff ⟨7,1,[0,1]⟩ 7 [(-1),1,4,5,2,3,6]:=by
 refine ff_of (q:=7) (k:=1) ⟨by decide,by decide,by decide,by decide,rfl,rfl,?_,by decide⟩ rfl (by decide) (by decide) (by decide) κ κ (.inl κ)
 intro i a h1
 rcases (show i=0\/i=1 by simp at h1;omega) with rfl|rfl<;>decide
theorem ff8:Ff ⟨2,3,[1,1,0,1]⟩ 8 [(-1),1,5,6,7,2,3,4]:=by
 refine ff_of (q:=8) (k:=3) ⟨by decide,by decide,by decide,by decide,rfl,rfl,?_,by decide⟩ rfl (by decide) (by decide) (by decide) κ κ (.inr κ)
 intro i a h1
 rcases (show i=0\/i=1\/i=2\/i=3 by simp at h1;omega) with rfl|rfl|rfl|rfl<;>decide
theorem ff9:Ff ⟨3,2,[1,0,1]⟩ 9 [(-1),1,2,6,5,4,3,8,7]:=by
 refine ff_of (q:=9) (k:=2) ⟨by decide,by decide,by decide,by decide,rfl,rfl,?_,by decide⟩ rfl (by decide) (by decide) (by decide) κ κ (.inl κ)
 intro i a h1
 rcases (show i=0\/i=1\/i=2 by simp at h1;omega) with rfl|rfl|rfl<;>decide
theorem ff11:Ff ⟨11,1,[0,1]⟩ 11 [(-1),1,6,4,3,9,2,8,7,5,10]:=by
 refine ff_of (q:=11) (k:=1) ⟨by decide,by decide,by decide,by decide,rfl,rfl,?_,by decide⟩ rfl (by decide) (by decide) (by decide) κ κ (.inl κ)
 intro i a h1
 rcases (show i=0\/i=1 by simp at h1;omega) with rfl|rfl<;>decide
theorem ff13:Ff ⟨13,1,[0,1]⟩ 13 [(-1),1,7,9,10,8,11,2,5,3,4,6,12]:=by
 refine ff_of (q:=13) (k:=1) ⟨by decide,by decide,by decide,by decide,rfl,rfl,?_,by decide⟩ rfl (by decide) (by decide) (by decide) κ κ (.inl κ)
 intro i a h1
 rcases (show i=0\/i=1 by simp at h1;omega) with rfl|rfl<;>decide
theorem ff16:Ff ⟨2,4,[1,1,0,0,1]⟩ 16 [(-1),1,9,14,13,11,7,6,15,2,12,5,10,4,3,8]:=by
 refine ff_of (q:=16) (k:=4) ⟨by decide,by decide,by decide,by decide,rfl,rfl,?_,by decide⟩ rfl (by decide) (by decide) (by decide) κ κ (.inr κ)
 intro i a h1
 rcases (show i=0\/i=1\/i=2\/i=3\/i=4 by simp at h1;omega) with rfl|rfl|rfl|rfl|rfl<;>decide
theorem ff17:Ff ⟨17,1,[0,1]⟩ 17 [(-1),1,9,6,13,7,3,5,15,2,12,14,10,4,11,8,16]:=by
 refine ff_of (q:=17) (k:=1) ⟨by decide,by decide,by decide,by decide,rfl,rfl,?_,by decide⟩ rfl (by decide) (by decide) (by decide) κ κ (.inl κ)
 intro i a h1
 rcases (show i=0\/i=1 by simp at h1;omega) with rfl|rfl<;>decide
theorem ff19:Ff ⟨19,1,[0,1]⟩ 19 [(-1),1,10,13,5,4,16,11,12,17,2,7,8,3,15,14,6,9,18]:=by
 refine ff_of (q:=19) (k:=1) ⟨by decide,by decide,by decide,by decide,rfl,rfl,?_,by decide⟩ rfl (by decide) (by decide) (by decide) κ κ (.inl κ)
 intro i a h1
 rcases (show i=0\/i=1 by simp at h1;omega) with rfl|rfl<;>decide
theorem ff23:Ff ⟨23,1,[0,1]⟩ 23 [(-1),1,12,8,6,14,4,10,3,18,7,21,2,16,5,20,13,19,9,17,15,11,22]:=by
 refine ff_of (q:=23) (k:=1) ⟨by decide,by decide,by decide,by decide,rfl,rfl,?_,by decide⟩ rfl (by decide) (by decide) (by decide) κ κ (.inl κ)
 intro i a h1
 rcases (show i=0\/i=1 by simp at h1;omega) with rfl|rfl<;>decide
theorem ff25:Ff ⟨5,2,[2,0,1]⟩ 25 [(-1),1,3,2,4,10,17,22,23,18,5,14,21,24,11,20,19,6,9,16,15,12,7,8,13]:=by
 refine ff_of (q:=25) (k:=2) ⟨by decide,by decide,by decide,by decide,rfl,rfl,?_,by decide⟩ rfl (by decide) (by decide) (by decide) κ κ (.inl κ)
 intro i a h1
 rcases (show i=0\/i=1\/i=2 by simp at h1;omega) with rfl|rfl|rfl<;>decide
theorem ff27:Ff ⟨3,3,[1,2,0,1]⟩ 27 [(-1),1,2,19,21,24,11,12,15,25,23,6,7,22,18,8,20,26,14,3,16,4,13,10,5,9,17]:=by
 refine ff_of (q:=27) (k:=3) ⟨by decide,by decide,by decide,by decide,rfl,rfl,?_,by decide⟩ rfl (by decide) (by decide) (by decide) κ κ (.inl κ)
 intro i a h1
 rcases (show i=0\/i=1\/i=2\/i=3 by simp at h1;omega) with rfl|rfl|rfl|rfl<;>decide
theorem ff29:Ff ⟨29,1,[0,1]⟩ 29 [(-1),1,15,10,22,6,5,25,11,13,3,8,17,9,27,2,20,12,21,26,16,18,4,24,23,7,19,14,28]:=by
 refine ff_of (q:=29) (k:=1) ⟨by decide,by decide,by decide,by decide,rfl,rfl,?_,by decide⟩ rfl (by decide) (by decide) (by decide) κ κ (.inl κ)
 intro i a h1
 rcases (show i=0\/i=1 by simp at h1;omega) with rfl|rfl<;>decide
theorem ff31:Ff ⟨31,1,[0,1]⟩ 31 [(-1),1,16,21,8,25,26,9,4,7,28,17,13,12,20,29,2,11,19,18,14,3,24,27,22,5,6,23,10,15,30]:=by
 refine ff_of (q:=31) (k:=1) ⟨by decide,by decide,by decide,by decide,rfl,rfl,?_,by decide⟩ rfl (by decide) (by decide) (by decide) κ κ (.inl κ)
 intro i a h1
 rcases (show i=0\/i=1 by simp at h1;omega) with rfl|rfl<;>decide
theorem ff32:Ff ⟨2,5,[1,0,1,0,0,1]⟩ 32 [(-1),1,18,28,9,23,14,12,22,4,25,16,7,15,6,13,11,24,2,29,30,26,8,5,17,10,21,31,3,19,20,27]:=by
 refine ff_of (q:=32) (k:=5) ⟨by decide,by decide,by decide,by decide,rfl,rfl,?_,by decide⟩ rfl (by decide) (by decide) (by decide) κ κ (.inr κ)
 intro i a h1
 rcases (show i=0\/i=1\/i=2\/i=3\/i=4\/i=5 by simp at h1;omega) with rfl|rfl|rfl|rfl|rfl|rfl<;>decide
theorem ff37:Ff ⟨37,1,[0,1]⟩ 37 [(-1),1,19,25,28,15,31,16,14,33,26,27,34,20,8,5,7,24,35,2,13,30,32,29,17,3,10,11,4,23,21,6,22,9,12,18,36]:=by
 refine ff_of (q:=37) (k:=1) ⟨by decide,by decide,by decide,by decide,rfl,rfl,?_,by decide⟩ rfl (by decide) (by decide) (by decide) κ κ (.inl κ)
 intro i a h1
 rcases (show i=0\/i=1 by simp at h1;omega) with rfl|rfl<;>decide
theorem ff41:Ff ⟨41,1,[0,1]⟩ 41 [(-1),1,21,14,31,33,7,6,36,32,37,15,24,19,3,11,18,29,16,13,39,2,28,25,12,23,30,38,22,17,26,4,9,5,35,34,8,10,27,20,40]:=by
 refine ff_of (q:=41) (k:=1) ⟨by decide,by decide,by decide,by decide,rfl,rfl,?_,by decide⟩ rfl (by decide) (by decide) (by decide) κ κ (.inl κ)
 intro i a h1
 rcases (show i=0\/i=1 by simp at h1;omega) with rfl|rfl<;>decide
theorem ff43:Ff ⟨43,1,[0,1]⟩ 43 [(-1),1,22,29,11,26,36,37,27,24,13,4,18,10,40,23,35,38,12,34,28,41,2,15,9,31,5,8,20,3,33,25,39,30,19,16,6,7,17,32,14,21,42]:=by
 refine ff_of (q:=43) (k:=1) ⟨by decide,by decide,by decide,by decide,rfl,rfl,?_,by decide⟩ rfl (by decide) (by decide) (by decide) κ κ (.inl κ)
 intro i a h1
 rcases (show i=0\/i=1 by simp at h1;omega) with rfl|rfl<;>decide
theorem ff47:Ff ⟨47,1,[0,1]⟩ 47 [(-1),1,24,16,12,19,8,27,6,21,33,30,4,29,37,22,3,36,34,5,40,9,15,45,2,32,38,7,42,13,11,44,25,10,18,43,17,14,26,41,20,39,28,35,31,23,46]:=by
 refine ff_of (q:=47) (k:=1) ⟨by decide,by decide,by decide,by decide,rfl,rfl,?_,by decide⟩ rfl (by decide) (by decide) (by decide) κ κ (.inl κ)
 intro i a h1
 rcases (show i=0\/i=1 by simp at h1;omega) with rfl|rfl<;>decide
theorem ff49:Ff ⟨7,2,[1,0,1]⟩ 49 [(-1),1,4,5,2,3,6,42,25,34,15,20,29,24,21,10,37,18,17,40,11,14,47,26,13,8,23,44,35,12,33,48,43,30,9,28,45,16,39,38,19,46,7,32,27,36,41,22,31]:=by
 refine ff_of (q:=49) (k:=2) ⟨by decide,by decide,by decide,by decide,rfl,rfl,?_,by decide⟩ rfl (by decide) (by decide) (by decide) κ κ (.inl κ)
 intro i a h1
 rcases (show i=0\/i=1\/i=2 by simp at h1;omega) with rfl|rfl|rfl<;>decide
theorem ff53:Ff ⟨53,1,[0,1]⟩ 53 [(-1),1,27,18,40,32,9,38,20,6,16,29,31,49,19,46,10,25,3,14,8,48,41,30,42,17,51,2,36,11,23,12,5,45,39,50,28,43,7,34,4,22,24,37,47,33,15,44,21,13,35,26,52]:=by
 refine ff_of (q:=53) (k:=1) ⟨by decide,by decide,by decide,by decide,rfl,rfl,?_,by decide⟩ rfl (by decide) (by decide) (by decide) κ κ (.inl κ)
 intro i a h1
 rcases (show i=0\/i=1 by simp at h1;omega) with rfl|rfl<;>decide
theorem ff59:Ff ⟨59,1,[0,1]⟩ 59 [(-1),1,30,20,15,12,10,17,37,46,6,43,5,50,38,4,48,7,23,28,3,45,51,18,32,26,25,35,19,57,2,40,24,34,33,27,41,8,14,56,31,36,52,11,55,21,9,54,16,53,13,22,42,49,47,44,39,29,58]:=by
 refine ff_of (q:=59) (k:=1) ⟨by decide,by decide,by decide,by decide,rfl,rfl,?_,by decide⟩ rfl (by decide) (by decide) (by decide) κ κ (.inl κ)
 intro i a h1
 rcases (show i=0\/i=1 by simp at h1;omega) with rfl|rfl<;>decide
theorem ff61:Ff ⟨61,1,[0,1]⟩ 61 [(-1),1,31,41,46,49,51,35,23,34,55,50,56,47,48,57,42,18,17,45,58,32,25,8,28,22,54,52,24,40,59,2,21,37,9,7,39,33,53,36,29,3,16,44,43,19,4,13,14,5,11,6,27,38,26,10,12,15,20,30,60]:=by
 refine ff_of (q:=61) (k:=1) ⟨by decide,by decide,by decide,by decide,rfl,rfl,?_,by decide⟩ rfl (by decide) (by decide) (by decide) κ κ (.inl κ)
 intro i a h1
 rcases (show i=0\/i=1 by simp at h1;omega) with rfl|rfl<;>decide
theorem ff64:Ff ⟨2,6,[1,1,0,0,0,0,1]⟩ 64 [(-1),1,33,62,49,43,31,44,57,37,52,28,46,40,22,25,61,54,51,39,26,35,14,24,23,15,20,34,11,53,45,6,63,2,27,21,56,9,50,19,13,47,48,5,7,30,12,41,42,4,38,18,10,29,17,60,36,8,59,58,55,16,3,32]:=by
 refine ff_of (q:=64) (k:=6) ⟨by decide,by decide,by decide,by decide,rfl,rfl,?_,by decide⟩ rfl (by decide) (by decide) (by decide) κ κ (.inr κ)
 intro i a h1
 rcases (show i=0\/i=1\/i=2\/i=3\/i=4\/i=5\/i=6 by simp at h1;omega) with rfl|rfl|rfl|rfl|rfl|rfl|rfl<;>decide
theorem Zuu {q:Int} {f:Zd} (h:GF q f):∃ a,Ff f q a:=by
 cases h
 ·exact ⟨_,ff2⟩
 ·exact ⟨_,ff3⟩
 ·exact ⟨_,ff4⟩
 ·exact ⟨_,ff5⟩
 ·exact ⟨_,ff7⟩
 ·exact ⟨_,ff8⟩
 ·exact ⟨_,ff9⟩
 ·exact ⟨_,ff11⟩
 ·exact ⟨_,ff13⟩
 ·exact ⟨_,ff16⟩
 ·exact ⟨_,ff17⟩
 ·exact ⟨_,ff19⟩
 ·exact ⟨_,ff23⟩
 ·exact ⟨_,ff25⟩
 ·exact ⟨_,ff27⟩
 ·exact ⟨_,ff29⟩
 ·exact ⟨_,ff31⟩
 ·exact ⟨_,ff32⟩
 ·exact ⟨_,ff37⟩
 ·exact ⟨_,ff41⟩
 ·exact ⟨_,ff43⟩
 ·exact ⟨_,ff47⟩
 ·exact ⟨_,ff49⟩
 ·exact ⟨_,ff53⟩
 ·exact ⟨_,ff59⟩
 ·exact ⟨_,ff61⟩
 ·exact ⟨_,ff64⟩
structure Made (q:Int) (f:Zd):Prop where
 gf:GF q f
 split:ZbN q=some (f.Prime,f.Degree)
 mks:Zhj q=some f
 mki:ZbP q=some (f,0)
 oks:ZfG f=some true
 oki:ZfY f=some true
 szs:Zbc f=some q
 szi:Za5 f=some q
def FldAt (q:Int):Prop:=(∃ f,Made q f)\/(ZbN q=some (0,0)/\∃ e,ZbP q=some (⟨0,0,[]⟩,e))
theorem mk2:FldAt 2:=.inl ⟨_,.f2,Zq (F:=100) _ _ κ,Zaa (F:=100) _ _ κ,Zr (F:=100) _ _ κ,Zad (F:=100) _ _ κ,Z9 (F:=100) _ _ κ,Zac (F:=100) _ _ κ,Zab (F:=100) _ _ κ⟩
theorem mk3:FldAt 3:=.inl ⟨_,.f3,Zq (F:=100) _ _ κ,Zaa (F:=100) _ _ κ,Zr (F:=100) _ _ κ,Zad (F:=100) _ _ κ,Z9 (F:=100) _ _ κ,Zac (F:=100) _ _ κ,Zab (F:=100) _ _ κ⟩
theorem mk4:FldAt 4:=.inl ⟨_,.f4,Zq (F:=100) _ _ κ,Zaa (F:=100) _ _ κ,Zr (F:=100) _ _ κ,Zad (F:=100) _ _ κ,Z9 (F:=100) _ _ κ,Zac (F:=100) _ _ κ,Zab (F:=100) _ _ κ⟩
theorem mk5:FldAt 5:=.inl ⟨_,.f5,Zq (F:=100) _ _ κ,Zaa (F:=100) _ _ κ,Zr (F:=100) _ _ κ,Zad (F:=100) _ _ κ,Z9 (F:=100) _ _ κ,Zac (F:=100) _ _ κ,Zab (F:=100) _ _ κ⟩
theorem mk6:FldAt 6:=.inr ⟨Zq (F:=100) _ _ κ,_,Zr (F:=100) _ (⟨0,0,[]⟩,2) κ⟩
theorem mk7:FldAt 7:=.inl ⟨_,.f7,Zq (F:=100) _ _ κ,Zaa (F:=100) _ _ κ,Zr (F:=100) _ _ κ,Zad (F:=100) _ _ κ,Z9 (F:=100) _ _ κ,Zac (F:=100) _ _ κ,Zab (F:=100) _ _ κ⟩
theorem mk8:FldAt 8:=.inl ⟨_,.f8,Zq (F:=100) _ _ κ,Zaa (F:=100) _ _ κ,Zr (F:=100) _ _ κ,Zad (F:=100) _ _ κ,Z9 (F:=100) _ _ κ,Zac (F:=100) _ _ κ,Zab (F:=100) _ _ κ⟩
theorem mk9:FldAt 9:=.inl ⟨_,.f9,Zq (F:=100) _ _ κ,Zaa (F:=100) _ _ κ,Zr (F:=100) _ _ κ,Zad (F:=100) _ _ κ,Z9 (F:=100) _ _ κ,Zac (F:=100) _ _ κ,Zab (F:=100) _ _ κ⟩
theorem mk10:FldAt 10:=.inr ⟨Zq (F:=100) _ _ κ,_,Zr (F:=100) _ (⟨0,0,[]⟩,2) κ⟩
theorem mk11:FldAt 11:=.inl ⟨_,.f11,Zq (F:=100) _ _ κ,Zaa (F:=100) _ _ κ,Zr (F:=100) _ _ κ,Zad (F:=100) _ _ κ,Z9 (F:=100) _ _ κ,Zac (F:=100) _ _ κ,Zab (F:=100) _ _ κ⟩
theorem mk12:FldAt 12:=.inr ⟨Zq (F:=100) _ _ κ,_,Zr (F:=100) _ (⟨0,0,[]⟩,2) κ⟩
theorem mk13:FldAt 13:=.inl ⟨_,.f13,Zq (F:=100) _ _ κ,Zaa (F:=100) _ _ κ,Zr (F:=100) _ _ κ,Zad (F:=100) _ _ κ,Z9 (F:=100) _ _ κ,Zac (F:=100) _ _ κ,Zab (F:=100) _ _ κ⟩
theorem mk14:FldAt 14:=.inr ⟨Zq (F:=100) _ _ κ,_,Zr (F:=100) _ (⟨0,0,[]⟩,2) κ⟩
theorem mk15:FldAt 15:=.inr ⟨Zq (F:=100) _ _ κ,_,Zr (F:=100) _ (⟨0,0,[]⟩,2) κ⟩
theorem mk16:FldAt 16:=.inl ⟨_,.f16,Zq (F:=100) _ _ κ,Zaa (F:=100) _ _ κ,Zr (F:=100) _ _ κ,Zad (F:=100) _ _ κ,Z9 (F:=100) _ _ κ,Zac (F:=100) _ _ κ,Zab (F:=100) _ _ κ⟩
theorem mk17:FldAt 17:=.inl ⟨_,.f17,Zq (F:=100) _ _ κ,Zaa (F:=100) _ _ κ,Zr (F:=100) _ _ κ,Zad (F:=100) _ _ κ,Z9 (F:=100) _ _ κ,Zac (F:=100) _ _ κ,Zab (F:=100) _ _ κ⟩
theorem mk18:FldAt 18:=.inr ⟨Zq (F:=100) _ _ κ,_,Zr (F:=100) _ (⟨0,0,[]⟩,2) κ⟩
theorem mk19:FldAt 19:=.inl ⟨_,.f19,Zq (F:=100) _ _ κ,Zaa (F:=100) _ _ κ,Zr (F:=100) _ _ κ,Zad (F:=100) _ _ κ,Z9 (F:=100) _ _ κ,Zac (F:=100) _ _ κ,Zab (F:=100) _ _ κ⟩
theorem mk20:FldAt 20:=.inr ⟨Zq (F:=100) _ _ κ,_,Zr (F:=100) _ (⟨0,0,[]⟩,2) κ⟩
theorem mk21:FldAt 21:=.inr ⟨Zq (F:=100) _ _ κ,_,Zr (F:=100) _ (⟨0,0,[]⟩,2) κ⟩
theorem mk22:FldAt 22:=.inr ⟨Zq (F:=100) _ _ κ,_,Zr (F:=100) _ (⟨0,0,[]⟩,2) κ⟩
theorem mk23:FldAt 23:=.inl ⟨_,.f23,Zq (F:=100) _ _ κ,Zaa (F:=100) _ _ κ,Zr (F:=100) _ _ κ,Zad (F:=100) _ _ κ,Z9 (F:=100) _ _ κ,Zac (F:=100) _ _ κ,Zab (F:=100) _ _ κ⟩
theorem mk24:FldAt 24:=.inr ⟨Zq (F:=100) _ _ κ,_,Zr (F:=100) _ (⟨0,0,[]⟩,2) κ⟩
theorem mk25:FldAt 25:=.inl ⟨_,.f25,Zq (F:=100) _ _ κ,Zaa (F:=100) _ _ κ,Zr (F:=100) _ _ κ,Zad (F:=100) _ _ κ,Z9 (F:=100) _ _ κ,Zac (F:=100) _ _ κ,Zab (F:=100) _ _ κ⟩
theorem mk26:FldAt 26:=.inr ⟨Zq (F:=100) _ _ κ,_,Zr (F:=100) _ (⟨0,0,[]⟩,2) κ⟩
theorem mk27:FldAt 27:=.inl ⟨_,.f27,Zq (F:=100) _ _ κ,Zaa (F:=100) _ _ κ,Zr (F:=100) _ _ κ,Zad (F:=100) _ _ κ,Z9 (F:=100) _ _ κ,Zac (F:=100) _ _ κ,Zab (F:=100) _ _ κ⟩
theorem mk28:FldAt 28:=.inr ⟨Zq (F:=100) _ _ κ,_,Zr (F:=100) _ (⟨0,0,[]⟩,2) κ⟩
theorem mk29:FldAt 29:=.inl ⟨_,.f29,Zq (F:=100) _ _ κ,Zaa (F:=100) _ _ κ,Zr (F:=100) _ _ κ,Zad (F:=100) _ _ κ,Z9 (F:=100) _ _ κ,Zac (F:=100) _ _ κ,Zab (F:=100) _ _ κ⟩
theorem mk30:FldAt 30:=.inr ⟨Zq (F:=100) _ _ κ,_,Zr (F:=100) _ (⟨0,0,[]⟩,2) κ⟩
theorem mk31:FldAt 31:=.inl ⟨_,.f31,Zq (F:=100) _ _ κ,Zaa (F:=100) _ _ κ,Zr (F:=100) _ _ κ,Zad (F:=100) _ _ κ,Z9 (F:=100) _ _ κ,Zac (F:=100) _ _ κ,Zab (F:=100) _ _ κ⟩
theorem mk32:FldAt 32:=.inl ⟨_,.f32,Zq (F:=100) _ _ κ,Zaa (F:=100) _ _ κ,Zr (F:=100) _ _ κ,Zad (F:=100) _ _ κ,Z9 (F:=100) _ _ κ,Zac (F:=100) _ _ κ,Zab (F:=100) _ _ κ⟩
theorem mk33:FldAt 33:=.inr ⟨Zq (F:=100) _ _ κ,_,Zr (F:=100) _ (⟨0,0,[]⟩,2) κ⟩
theorem mk34:FldAt 34:=.inr ⟨Zq (F:=100) _ _ κ,_,Zr (F:=100) _ (⟨0,0,[]⟩,2) κ⟩
theorem mk35:FldAt 35:=.inr ⟨Zq (F:=100) _ _ κ,_,Zr (F:=100) _ (⟨0,0,[]⟩,2) κ⟩
theorem mk36:FldAt 36:=.inr ⟨Zq (F:=100) _ _ κ,_,Zr (F:=100) _ (⟨0,0,[]⟩,2) κ⟩
theorem mk37:FldAt 37:=.inl ⟨_,.f37,Zq (F:=100) _ _ κ,Zaa (F:=100) _ _ κ,Zr (F:=100) _ _ κ,Zad (F:=100) _ _ κ,Z9 (F:=100) _ _ κ,Zac (F:=100) _ _ κ,Zab (F:=100) _ _ κ⟩
theorem mk38:FldAt 38:=.inr ⟨Zq (F:=100) _ _ κ,_,Zr (F:=100) _ (⟨0,0,[]⟩,2) κ⟩
theorem mk39:FldAt 39:=.inr ⟨Zq (F:=100) _ _ κ,_,Zr (F:=100) _ (⟨0,0,[]⟩,2) κ⟩
theorem mk40:FldAt 40:=.inr ⟨Zq (F:=100) _ _ κ,_,Zr (F:=100) _ (⟨0,0,[]⟩,2) κ⟩
theorem mk41:FldAt 41:=.inl ⟨_,.f41,Zq (F:=100) _ _ κ,Zaa (F:=100) _ _ κ,Zr (F:=100) _ _ κ,Zad (F:=100) _ _ κ,Z9 (F:=100) _ _ κ,Zac (F:=100) _ _ κ,Zab (F:=100) _ _ κ⟩
theorem mk42:FldAt 42:=.inr ⟨Zq (F:=100) _ _ κ,_,Zr (F:=100) _ (⟨0,0,[]⟩,2) κ⟩
theorem mk43:FldAt 43:=.inl ⟨_,.f43,Zq (F:=100) _ _ κ,Zaa (F:=100) _ _ κ,Zr (F:=100) _ _ κ,Zad (F:=100) _ _ κ,Z9 (F:=100) _ _ κ,Zac (F:=100) _ _ κ,Zab (F:=100) _ _ κ⟩
theorem mk44:FldAt 44:=.inr ⟨Zq (F:=100) _ _ κ,_,Zr (F:=100) _ (⟨0,0,[]⟩,2) κ⟩
theorem mk45:FldAt 45:=.inr ⟨Zq (F:=100) _ _ κ,_,Zr (F:=100) _ (⟨0,0,[]⟩,2) κ⟩
theorem mk46:FldAt 46:=.inr ⟨Zq (F:=100) _ _ κ,_,Zr (F:=100) _ (⟨0,0,[]⟩,2) κ⟩
theorem mk47:FldAt 47:=.inl ⟨_,.f47,Zq (F:=100) _ _ κ,Zaa (F:=100) _ _ κ,Zr (F:=100) _ _ κ,Zad (F:=100) _ _ κ,Z9 (F:=100) _ _ κ,Zac (F:=100) _ _ κ,Zab (F:=100) _ _ κ⟩
theorem mk48:FldAt 48:=.inr ⟨Zq (F:=100) _ _ κ,_,Zr (F:=100) _ (⟨0,0,[]⟩,2) κ⟩
theorem mk49:FldAt 49:=.inl ⟨_,.f49,Zq (F:=100) _ _ κ,Zaa (F:=100) _ _ κ,Zr (F:=100) _ _ κ,Zad (F:=100) _ _ κ,Z9 (F:=100) _ _ κ,Zac (F:=100) _ _ κ,Zab (F:=100) _ _ κ⟩
theorem mk50:FldAt 50:=.inr ⟨Zq (F:=100) _ _ κ,_,Zr (F:=100) _ (⟨0,0,[]⟩,2) κ⟩
theorem mk51:FldAt 51:=.inr ⟨Zq (F:=100) _ _ κ,_,Zr (F:=100) _ (⟨0,0,[]⟩,2) κ⟩
theorem mk52:FldAt 52:=.inr ⟨Zq (F:=100) _ _ κ,_,Zr (F:=100) _ (⟨0,0,[]⟩,2) κ⟩
theorem mk53:FldAt 53:=.inl ⟨_,.f53,Zq (F:=100) _ _ κ,Zaa (F:=100) _ _ κ,Zr (F:=100) _ _ κ,Zad (F:=100) _ _ κ,Z9 (F:=100) _ _ κ,Zac (F:=100) _ _ κ,Zab (F:=100) _ _ κ⟩
theorem mk54:FldAt 54:=.inr ⟨Zq (F:=100) _ _ κ,_,Zr (F:=100) _ (⟨0,0,[]⟩,2) κ⟩
theorem mk55:FldAt 55:=.inr ⟨Zq (F:=100) _ _ κ,_,Zr (F:=100) _ (⟨0,0,[]⟩,2) κ⟩
theorem mk56:FldAt 56:=.inr ⟨Zq (F:=100) _ _ κ,_,Zr (F:=100) _ (⟨0,0,[]⟩,2) κ⟩
theorem mk57:FldAt 57:=.inr ⟨Zq (F:=100) _ _ κ,_,Zr (F:=100) _ (⟨0,0,[]⟩,2) κ⟩
theorem mk58:FldAt 58:=.inr ⟨Zq (F:=100) _ _ κ,_,Zr (F:=100) _ (⟨0,0,[]⟩,2) κ⟩
theorem mk59:FldAt 59:=.inl ⟨_,.f59,Zq (F:=100) _ _ κ,Zaa (F:=100) _ _ κ,Zr (F:=100) _ _ κ,Zad (F:=100) _ _ κ,Z9 (F:=100) _ _ κ,Zac (F:=100) _ _ κ,Zab (F:=100) _ _ κ⟩
theorem mk60:FldAt 60:=.inr ⟨Zq (F:=100) _ _ κ,_,Zr (F:=100) _ (⟨0,0,[]⟩,2) κ⟩
theorem mk61:FldAt 61:=.inl ⟨_,.f61,Zq (F:=100) _ _ κ,Zaa (F:=100) _ _ κ,Zr (F:=100) _ _ κ,Zad (F:=100) _ _ κ,Z9 (F:=100) _ _ κ,Zac (F:=100) _ _ κ,Zab (F:=100) _ _ κ⟩
theorem mk62:FldAt 62:=.inr ⟨Zq (F:=100) _ _ κ,_,Zr (F:=100) _ (⟨0,0,[]⟩,2) κ⟩
theorem mk63:FldAt 63:=.inr ⟨Zq (F:=100) _ _ κ,_,Zr (F:=100) _ (⟨0,0,[]⟩,2) κ⟩
theorem mk64:FldAt 64:=.inl ⟨_,.f64,Zq (F:=100) _ _ κ,Zaa (F:=100) _ _ κ,Zr (F:=100) _ _ κ,Zad (F:=100) _ _ κ,Z9 (F:=100) _ _ κ,Zac (F:=100) _ _ κ,Zab (F:=100) _ _ κ⟩
theorem ZCH {ρ:Type} {B:Int->Option (Int ⊕ ρ)} {i n:Int} (hi:i<=n) (h:∀ k,i<=k->k<n->(∃ r,B k=some (.inr r))\/B k=some (.inl (k+1))) (l:∃ r,B n=some (.inr r)):∃ r,loop B i=some r:=by
 have g:∀ (d:Nat) (k:Int),k+d=n->i<=k->∃ r,loop B k=some r:=by
  intro d
  induction d with
  | zero=>intro k o _;obtain rfl:k=n:= ω;obtain ⟨r,a⟩:=l;exact ⟨r,Zc a⟩
  | succ d j=>
   intro k o e
   rcases h k e ω with ⟨r,a⟩|a
   ·exact ⟨r,Zc a⟩
   ·rw [ZG a];exact j (k+1) ω ω
 exact g (n-i).toNat i ω ω
theorem ZoN {l:Nat} {n:Int} (h1:1<=n) (h:pwN 2 l*n<=1000000):l<=20:=by
 by_cases g:l<=20
 ·exact g
 ·exfalso
  have a:=Zlk (p:=2) ω (m:=20) (l-20)
  rw [show 20+(l-20)=l by omega] at a
  have c:pwN 2 20=1048576:=by decide
  have e:pwN 2 l*1<=pwN 2 l*n:=Int.mul_le_mul_of_nonneg_left h1 ω
  omega
theorem Zrk {p:Int} (hp:2<=p) (e:p<=1000):∀ (d:Nat) (n:Int) (y:List Int),n<=d->1<=n->pwN 2 y.length*n<=1000000->∃ n' a0,loop (ZcU p) (n,y)=some (.inl (n',a0,p+1))/\1<=n'/\n'<=n/\pwN 2 a0.length*n'<=1000000
 | 0,n,y,h,h1,_=>by omega
 | d+1,n,y,h,h1,f=>by
  have hl:=ZoN h1 f
  have g:=Int.tmod_eq_emod_of_nonneg (b:=p) (a:=n) ω
  have k:=Int.tdiv_eq_ediv_of_nonneg (b:=p) (a:=n) ω
  have a2:=Zbk (p:=2) ω y.length
  by_cases hm:n%p=0
  ·have l:p*(n/p)=n:=Int.mul_ediv_cancel' (Int.dvd_of_emod_eq_zero hm)
   have i:0<=n/p:=Int.ediv_nonneg ω ω
   have j:1<=n/p:=by
    by_cases o:n/p=0
    ·rw [o] at l;omega
    ·omega
   have w:2*(n/p)<=p*(n/p):=Int.mul_le_mul_of_nonneg_right hp i
   have a4:pwN 2 (y++[p]).length*(n/p)<=1000000:=by
    rw [List.length_append]
    show pwN 2 y.length*2*(n/p)<=_
    rw [Int.mul_assoc]
    have:pwN 2 y.length*(2*(n/p))<=pwN 2 y.length*n:=Int.mul_le_mul_of_nonneg_left ω ω
    omega
   have r:n<=1000000:=by
    have:=Int.mul_le_mul_of_nonneg_right (a:=1) (b:=pwN 2 y.length) (c:=n) a2 ω
    omega
   obtain ⟨n',a0,s,u,x,v⟩:=Zrk hp e d (n/p) (y++[p]) ω j a4
   refine ⟨n',a0,?_,u,by omega,v⟩
   rw [<-s]
   refine ZG ?_
   have hz:n.tmod p=0:=by rw [g];exact hm
   simp (disch:=omega) only [pz,ZcU,hz,k,gApp1]
  ·have r:n<=1000000:=by
    have:=Int.mul_le_mul_of_nonneg_right (a:=1) (b:=pwN 2 y.length) (c:=n) a2 ω
    omega
   refine ⟨n,y,Zc ?_,h1,by omega,f⟩
   have hz:¬ n.tmod p=0:=by rw [g];exact hm
   simp (disch:=omega) only [pz,ZcU,hz]
theorem ZAP:∀ (d:Nat) (n:Int) (u:List Int) (p:Int),1001-p<=d->2<=p->p<=1001->1<=n->n<=1000000->pwN 2 u.length*n<=1000000->∃ r:List Int,loop Zby (n,u,p)=some r/\r.length<=21:=by
 intro d
 induction d with
 | zero=>
  intro n u p g hp a h1 i c
  have x:=ZoN h1 c
  obtain rfl:p=1001:=ω
  by_cases h:1<n
  ·refine ⟨u++[n],Zc ?_,by simp;omega⟩
   simp (disch:=omega) only [pz,Zby,gApp1]
  ·refine ⟨u,Zc ?_,by omega⟩
   simp (disch:=omega) only [pz,Zby]
 | succ d ih=>
  intro n u p g hp a h1 i c
  have x:=ZoN h1 c
  have a2:0<=p*p/\p*p<=1002001:=by
   refine ⟨Int.mul_nonneg ω ω,?_⟩
   have:=Int.mul_le_mul a a ω ω
   omega
  by_cases o:p*p<=n
  ·have e:p<=1000:=by
    by_cases h:p<=1000
    ·exact h
    ·have:(1001:Int)*1001<=p*p:=Int.mul_le_mul ω ω ω ω
     omega
   obtain ⟨y,w,j,k,s,l⟩:=Zrk hp e n.toNat n u ω h1 c
   obtain ⟨r,hr,f⟩:=ih y w (p+1) ω ω ω k ω l
   refine ⟨r,?_,f⟩
   rw [<-hr]
   refine ZG ?_
   simp (disch:=omega) only [pz,Zby,j]
  ·by_cases h:1<n
   ·refine ⟨u++[n],Zc ?_,by simp;omega⟩
    simp (disch:=omega) only [pz,Zby,gApp1]
   ·refine ⟨u,Zc ?_,by omega⟩
    simp (disch:=omega) only [pz,Zby]
theorem ZDq (n:Int):∃ r:List Int,Zco n=some r/\r.length<=21:=by
 unfold Zco Z8
 by_cases h1:1<=n
 ·by_cases c:n<=1000000
  ·obtain ⟨r,e,a⟩:=ZAP 1001 n [] 2 ω ω ω h1 c (by show 1*n<=_;omega)
   refine ⟨r,?_,a⟩
   rw [<-e]
   simp (disch:=omega) only [pz,]
  ·refine ⟨[],?_,by simp⟩
   simp (disch:=omega) only [pz,]
 ·refine ⟨[],?_,by simp⟩
  simp (disch:=omega) only [pz,]
theorem ZHw (n:Int):∃ r:Int×Int,Zcz n=some r:=by
 unfold Zcz
 obtain ⟨l,e,a⟩:=ZDq n
 rw [e]
 show ∃ r,loop (ZbW l) 0=some r
 refine ZCH (n:=l.length) ω ?_ ?_
 ·intro k k0 k1
  by_cases h:ix l k=ix l 0
  ·refine .inr ?_
   simp (disch:=omega) only [pz,ZbW,h]
  ·refine .inl ⟨(0,0),?_⟩
   simp (disch:=omega) only [pz,ZbW,h]
 ·by_cases h:l.length=0
  ·refine ⟨(0,0),?_⟩
   simp (disch:=omega) only [pz,ZbW]
  ·refine ⟨(ix l 0,l.length),?_⟩
   simp (disch:=omega) only [pz,ZbW,ZV]
theorem ZtF (q:Int):FldAt q:=by
 by_cases h:2<=q/\q<=64
 ·obtain ⟨h1,a⟩:=h
  obtain ⟨n,rfl⟩:∃ n:Nat,q=(n:Int):=⟨q.toNat,by omega⟩
  have g:n<65:=ω
  have f:2<=n:=ω
  clear h1 a
  revert n
  have j:∀ n:Nat,n<65->2<=n->FldAt (n:Int):=by
   intro n h1 a
   match n,h1,a with
   | 0,_,h=>omega
   | 1,_,h=>omega
   | 2,_,_=>exact mk2
   | 3,_,_=>exact mk3
   | 4,_,_=>exact mk4
   | 5,_,_=>exact mk5
   | 6,_,_=>exact mk6
   | 7,_,_=>exact mk7
   | 8,_,_=>exact mk8
   | 9,_,_=>exact mk9
   | 10,_,_=>exact mk10
   | 11,_,_=>exact mk11
   | 12,_,_=>exact mk12
   | 13,_,_=>exact mk13
   | 14,_,_=>exact mk14
   | 15,_,_=>exact mk15
   | 16,_,_=>exact mk16
   | 17,_,_=>exact mk17
   | 18,_,_=>exact mk18
   | 19,_,_=>exact mk19
   | 20,_,_=>exact mk20
   | 21,_,_=>exact mk21
   | 22,_,_=>exact mk22
   | 23,_,_=>exact mk23
   | 24,_,_=>exact mk24
   | 25,_,_=>exact mk25
   | 26,_,_=>exact mk26
   | 27,_,_=>exact mk27
   | 28,_,_=>exact mk28
   | 29,_,_=>exact mk29
   | 30,_,_=>exact mk30
   | 31,_,_=>exact mk31
   | 32,_,_=>exact mk32
   | 33,_,_=>exact mk33
   | 34,_,_=>exact mk34
   | 35,_,_=>exact mk35
   | 36,_,_=>exact mk36
   | 37,_,_=>exact mk37
   | 38,_,_=>exact mk38
   | 39,_,_=>exact mk39
   | 40,_,_=>exact mk40
   | 41,_,_=>exact mk41
   | 42,_,_=>exact mk42
   | 43,_,_=>exact mk43
   | 44,_,_=>exact mk44
   | 45,_,_=>exact mk45
   | 46,_,_=>exact mk46
   | 47,_,_=>exact mk47
   | 48,_,_=>exact mk48
   | 49,_,_=>exact mk49
   | 50,_,_=>exact mk50
   | 51,_,_=>exact mk51
   | 52,_,_=>exact mk52
   | 53,_,_=>exact mk53
   | 54,_,_=>exact mk54
   | 55,_,_=>exact mk55
   | 56,_,_=>exact mk56
   | 57,_,_=>exact mk57
   | 58,_,_=>exact mk58
   | 59,_,_=>exact mk59
   | 60,_,_=>exact mk60
   | 61,_,_=>exact mk61
   | 62,_,_=>exact mk62
   | 63,_,_=>exact mk63
   | 64,_,_=>exact mk64
   | n+65,h,_=>omega
  exact j
 ·refine .inr ⟨?_,?_⟩
  ·unfold ZbN Z3
   by_cases h1:2<=q
   ·simp (disch:=omega) only [pz,]
   ·simp (disch:=omega) only [pz,]
  ·obtain ⟨r,k⟩:=ZHw q
   by_cases h1:64<q
   ·refine ⟨2,?_⟩
    unfold ZbP
    rw [k]
    by_cases c:r.1=0
    ·simp (disch:=omega) only [pz,c]
    ·simp (disch:=omega) only [pz,c]
   ·have hz:Zcz q=some (0,0):=by
     by_cases a:1<=q
     ·obtain rfl:q=1:=ω
      have:ZbP 1=some (⟨0,0,[]⟩,2):=Zr (F:=100) _ _ κ
      exact Zsm (F:=100) _ _ κ
     ·unfold Zcz Zco Z8
      have e:loop (ZbW []) 0=some (0,0):=by
       refine Zc ?_
       rfl
      simp (disch:=omega) only [pz,e]
    refine ⟨2,?_⟩
    unfold ZbP
    rw [hz]
    rfl
def Tb (q:Int) (g:Int->Int) (b:Int):List Int:=tabl q fun j=>if j<b then g j else 0
theorem Zo1 {q b:Int} {g:Int->Int} (a:0<=b) (h1:b<q):(Tb q g b).set b.toNat (g b)=Tb q g (b+1):=by
 apply Zam a h1
 ·intro j c e f
  by_cases h:j<b
  ·rw [if_pos h,if_pos ω]
  ·rw [if_neg h,if_neg ω]
 ·rw [if_pos ω]
theorem Zow {q:Int} {g:Int->Int}:Tb q g 0=List.replicate q.toNat 0:=by
 rw [ZgA]
 exact ZM fun j a c=>by rw [if_neg ω]
theorem ZAp {q:Int} {g:Int->Int}:Tb q g q=tabl q g:=ZM fun j c a=>by rw [if_pos a]
theorem Zlp {q b:Int} {g:Int->Int}:(Tb q g b).length=q.toNat:=Zm
def iv (q:Int) (e:List Int) (a b:Int):List Int:=tabl q fun i=>if 1<=i/\(i<a\/(i=a/\ix e a<b)) then ix e i else 0
def tabs (f:Zd) (q:Int) (e:List Int):Z5:=
 ⟨q,tabl q fun a=>tabl q fun b=>sumA f a b 1,tabl q fun a=>tabl q fun b=>sumA f a b (f.Prime-1),tabl q fun a=>tabl q fun b=>mulA f a b,tabl q fun i=>if 1<=i then ix e i else 0⟩
theorem ZCW {q a b:Int} {e:List Int}:(iv q e a b).length=q.toNat:=Zm
theorem ZGY {f:Zd} {q:Int} {a0:List Int} (hF:Ff f q a0) {a:Int} (l:0<=a) (p:a<q) {A S M:List (List Int)} (hA:(A.length:Int)=a) (hS:(S.length:Int)=a) (hM:(M.length:Int)=a):
  loop (Zdp f q a A S M) (0,iv q a0 a 0,List.replicate q.toNat 0,List.replicate q.toNat 0,List.replicate q.toNat 0)=some (.inl (a+1,A++[tabl q fun b=>sumA f a b 1],S++[tabl q fun b=>sumA f a b (f.Prime-1)],M++[tabl q fun b=>mulA f a b],iv q a0 (a+1) 0)):=by
 have a8:=hF.q2;have a6:=hF.q64
 have ab:=Zl (B:=Zdp f q a A S M) (fun b=>(b,iv q a0 a b,Tb q (fun b=>sumA f a b 1) b,Tb q (fun b=>sumA f a b (f.Prime-1)) b,Tb q (fun b=>mulA f a b) b)) (i:=0) (n:=q) ω fun b e k=>by
  have c1:=Zul hF.fd (a:=a) (b:=b) (c:=1) (s:=1) l ω e ω (.inl ⟨rfl,rfl⟩)
  have c2:=Zul hF.fd (a:=a) (b:=b) (c:=f.Prime-1) (s:=-1) l ω e ω (.inr ⟨rfl,rfl⟩)
  have r:=ZwF hF.fd (a:=a) (b:=b) l ω e ω
  have s1:=Zo1 (q:=q) (b:=b) (g:=fun b=>sumA f a b 1) e k
  have s2:=Zo1 (q:=q) (b:=b) (g:=fun b=>sumA f a b (f.Prime-1)) e k
  have u:=Zo1 (q:=q) (b:=b) (g:=fun b=>mulA f a b) e k
  have l1:(Tb q (fun b=>sumA f a b 1) b).length=q.toNat:=Zlp
  have l2:(Tb q (fun b=>sumA f a b (f.Prime-1)) b).length=q.toNat:=Zlp
  have v:(Tb q (fun b=>mulA f a b) b).length=q.toNat:=Zlp
  have w:(Tb q (fun b=>mulA f a b) (b+1)).length=q.toNat:=Zlp
  have x:(iv q a0 a b).length=q.toNat:=ZCW
  have y:ix (Tb q (fun b=>mulA f a b) (b+1)) b=mulA f a b:=by
   unfold Tb
   rw [ZI e k,if_pos ω]
  have hI:=hF.inv2 a b l p e k
  by_cases hm:mulA f a b=1
  ·have hb:=hI.1 hm
   have a2:1<=a:=by
    by_cases h:a=0
    ·subst h
     rw [hF.z1 b e k] at hm
     omega
    ·omega
   have o:(iv q a0 a b).set a.toNat b=iv q a0 a (b+1):=by
    apply Zam l p
    ·intro j j0 j1 j2
     by_cases hj:1<=j/\(j<a\/(j=a/\ix a0 a<b))
     ·rw [if_pos hj,if_pos ω]
     ·rw [if_neg hj,if_neg ω]
    ·rw [if_pos ω,hb]
   simp (disch:=omega) only [pz,Zdp,c1,c2,r,l1,l2,v,w,x,s1,s2,u,y,o]
  ·have hb:¬ b=ix a0 a:=fun h=>hm (hI.2 h)
   have o:iv q a0 a b=iv q a0 a (b+1):=by
    refine ZM fun j j0 j1=>?_
    by_cases hj:1<=j/\(j<a\/(j=a/\ix a0 a<b))
    ·rw [if_pos hj,if_pos ω]
    ·rw [if_neg hj,if_neg ω]
   rw [o]
   simp (disch:=omega) only [pz,Zdp,c1,c2,r,l1,l2,v,w,x,s1,s2,u,y]
 have e0:((0:Int),iv q a0 a 0,List.replicate q.toNat (0:Int),List.replicate q.toNat (0:Int),List.replicate q.toNat (0:Int))=(fun b=>(b,iv q a0 a b,Tb q (fun b=>sumA f a b 1) b,Tb q (fun b=>sumA f a b (f.Prime-1)) b,Tb q (fun b=>mulA f a b) b)) 0:=by
  show _=((0:Int),iv q a0 a 0,Tb q _ 0,Tb q _ 0,Tb q _ 0)
  rw [Zow,Zow,Zow]
 rw [e0,ab]
 refine Zc ?_
 have o:iv q a0 a q=iv q a0 (a+1) 0:=by
  refine ZM fun j j0 j1=>?_
  by_cases hj:1<=j/\j<a+1
  ·by_cases h:j=a
   ·have:=hF.inv1 a ω p
    rw [if_pos ω,if_pos ω]
   ·rw [if_pos ω,if_pos ω]
  ·by_cases h:j=a+1
   ·by_cases h':a+1<q
    ·have:=hF.inv1 (a+1) ω h'
     rw [if_neg ω,if_neg ω]
    ·omega
   ·rw [if_neg ω,if_neg ω]
 simp only [ZAp,o]
 simp (disch:=omega) only [pz,Zdp,ZmQ,gApp1]
theorem ZuE {f:Zd} {q:Int} {u:List Int} (w:Ff f q u) (hs:Za5 f=some q):Zhq f=some (tabs f q u):=by
 have r:=w.q2;have c:=w.q64
 unfold Zhq
 rw [show Zd.mk f.Prime f.Degree f.Poly=f from rfl,hs]
 simp (disch:=omega) only [pz,Zaw]
 have y:List.replicate q.toNat (0:Int)=iv q u 0 0:=by
  rw [ZgA]
  exact ZM fun j e g=>by
   by_cases h:j=0
   ·rw [if_neg ω]
   ·rw [if_neg ω]
 have x:=Zl (B:=Zfs f q) (fun a=>(a,tabl a fun a=>tabl q fun b=>sumA f a b 1,tabl a fun a=>tabl q fun b=>sumA f a b (f.Prime-1),tabl a fun a=>tabl q fun b=>mulA f a b,iv q u a 0)) (i:=0) (n:=q) ω fun a k l=>by
  have:=ZGY w k l (A:=tabl a fun a=>tabl q fun b=>sumA f a b 1) (S:=tabl a fun a=>tabl q fun b=>sumA f a b (f.Prime-1)) (M:=tabl a fun a=>tabl q fun b=>mulA f a b) (by rw [Zm];omega) (by rw [Zm];omega) (by rw [Zm];omega)
  simp (disch:=omega) only [pz,Zfs,Zaw,this,ZW]
 have o:((0:Int),([]:List (List Int)),([]:List (List Int)),([]:List (List Int)),List.replicate q.toNat (0:Int))=(fun a=>(a,tabl a fun a=>tabl q fun b=>sumA f a b 1,tabl a fun a=>tabl q fun b=>sumA f a b (f.Prime-1),tabl a fun a=>tabl q fun b=>mulA f a b,iv q u a 0)) 0:=by
  rw [y];rfl
 rw [o,x]
 refine Zc ?_
 have p:iv q u q 0=tabl q fun i=>if 1<=i then ix u i else 0:=by
  refine ZM fun j e g=>?_
  by_cases h:1<=j
  ·rw [if_pos ω,if_pos h]
  ·rw [if_neg ω,if_neg h]
 simp (disch:=omega) only [pz,Zfs,p]
 rfl
structure Mat (q w:Int) (xs:List (List Int)):Prop where
 len:∀ i,0<=i->i<(xs.length:Int)->((ix xs i).length:Int)=w
 rng:∀ i,0<=i->i<(xs.length:Int)->In q (ix xs i)
 n:(xs.length:Int)<=64
 w1:w<=64
def scl (f:Zd) (row:List Int) (c:Int):List Int:=tabl row.length fun t=>mulA f (ix row t) c
def less (f:Zd) (v w:List Int) (c:Int):List Int:=tabl v.length fun t=>sumA f (ix v t) (mulA f (ix w t) c) (f.Prime-1)
def elim (f:Zd) (c r:Int) (row:List Int) (a:List (List Int)):List (List Int):=tabl a.length fun j=>if j=r then row else less f (ix a j) row (ix (ix a j) c)
theorem ZBg {f:Zd} {q:Int} {r:List Int} (u:Ff f q r) {e:Int} (c:1<=e) (h1:e<q):Zkn f e=some (ix r e):=by
 have g:=u.q64
 obtain ⟨j,k⟩:=u.inv1 e c h1
 unfold Zkn
 have y:=Zl (B:=Zj3 f e) (fun b=>b) (i:=1) (n:=ix r e) ω fun b l o=>by
  have w:=Zl7 u.fd (a:=e) (b:=b) ω ω ω ω
  have x:=u.inv2 e b ω h1 ω ω
  have p:¬ mulA f e b=1:=fun h=>by have:=x.1 h;omega
  simp (disch:=omega) only [pz,Zj3,w]
 rw [y]
 refine Zc ?_
 have w:=Zl7 u.fd (a:=e) (b:=ix r e) ω ω ω ω
 have x:=(u.inv2 e (ix r e) ω h1 ω ω).2 rfl
 simp (disch:=omega) only [pz,Zj3,w]
theorem ZuK {f:Zd} {q:Int} {w:List Int} (x:Ff f q w) {row:List Int} {c:Int} (hr:In q row) (r:(row.length:Int)<=64) (j:0<=c) (c1:c<q):ZfN f row c=some (scl f row c):=by
 have k:=x.q64
 unfold ZfN
 have u:=Zl (B:=Zht f row c) (fun t=>(tabl t fun t=>mulA f (ix row t) c,t)) (i:=0) (n:=row.length) ω fun t e g=>by
  obtain ⟨l,o⟩:=hr t e g
  have y:=Zl7 x.fd (a:=ix row t) (b:=c) ω ω ω ω
  have r:(tabl t fun t=>mulA f (ix row t) c).length=t.toNat:=Zm
  simp (disch:=omega) only [pz,Zht,y,gApp1,r,ZW]
 have h:(([]:List Int),(0:Int))=(fun t=>(tabl t fun t=>mulA f (ix row t) c,t)) 0:=rfl
 rw [h,u]
 refine Zc ?_
 simp (disch:=omega) only [pz,Zht]
 rfl
theorem ZGH {f:Zd} {q:Int} {a2:List Int} (hF:Ff f q a2) {v w:List Int} {c:Int} (g:In q v) (hw:In q w) (hl:(v.length:Int)<=64) (he:w.length=v.length) (l:0<=c) (c1:c<q):ZjJ f v w c=some (less f v w c):=by
 have o:=hF.q64;have hp:=hF.fd.p2;have h:=hF.fd.p64
 unfold ZjJ
 have a3:=Zl (B:=Zhk f v w c) (fun t=>(tabl t fun t=>sumA f (ix v t) (mulA f (ix w t) c) (f.Prime-1),t)) (i:=0) (n:=v.length) ω fun t e j=>by
  obtain ⟨p,r⟩:=g t e j
  obtain ⟨s,u⟩:=hw t e ω
  have hM:=Zl7 hF.fd (a:=ix w t) (b:=c) ω ω ω ω
  obtain ⟨x,y⟩:=ZcY hF.fd hF.pw (ix w t) c
  have hS:=ZuF hF.fd (a:=ix v t) (b:=mulA f (ix w t) c) (c:=f.Prime-1) ω ω ω ω ω ω
  have hl:(tabl t fun t=>sumA f (ix v t) (mulA f (ix w t) c) (f.Prime-1)).length=t.toNat:=Zm
  simp (disch:=omega) only [pz,Zhk,hM,hS,gApp1,hl,ZW]
 have k:(([]:List Int),(0:Int))=(fun t=>(tabl t fun t=>sumA f (ix v t) (mulA f (ix w t) c) (f.Prime-1),t)) 0:=rfl
 rw [k,a3]
 refine Zc ?_
 simp (disch:=omega) only [pz,Zhk]
 rfl
theorem Zir {f:Zd} {row:List Int} {c:Int}:(scl f row c).length=row.length:=by unfold scl;rw [Zm];omega
theorem Zuf {f:Zd} {v w:List Int} {c:Int}:(less f v w c).length=v.length:=by unfold less;rw [Zm];omega
theorem Zmp {f:Zd} {q:Int} {e:List Int} (g:Ff f q e) {row:List Int} {c:Int}:In q (scl f row c):=fun i a h1=>by
 rw [Zir] at h1
 unfold scl
 rw [ZI a h1]
 exact ZcY g.fd g.pw _ _
theorem ZBB {f:Zd} {q:Int} {e:List Int} (g:Ff f q e) {v w:List Int} {c:Int}:In q (less f v w c):=fun i a h1=>by
 rw [Zuf] at h1
 unfold less
 rw [ZI a h1]
 exact ZlY g.fd g.pw _ _ _
theorem ZgI {f:Zd} {c r:Int} {row:List Int} {a:List (List Int)}:(elim f c r row a).length=a.length:=by unfold elim;rw [Zm];omega
theorem Mat.elim {f:Zd} {q w:Int} {g:List Int} (l:Ff f q g) {c r:Int} {row:List Int} {h:List (List Int)} (e:Mat q w h) (k:In q row) (j:(row.length:Int)=w):Mat q w (elim f c r row h):=by
 refine ⟨fun i a h1=>?_,fun i a h1=>?_,by rw [ZgI];exact e.n,e.w1⟩
 ·rw [ZgI] at h1
  unfold Proofs.YtepnljbkgjbbmaaGreatDoor.elim
  rw [ZI a h1]
  split
  ·exact j
  ·rw [Zuf];exact e.len i a h1
 ·rw [ZgI] at h1
  unfold Proofs.YtepnljbkgjbbmaaGreatDoor.elim
  rw [ZI a h1]
  split
  ·exact k
  ·exact ZBB l
theorem Mat.set {q w:Int} {xs:List (List Int)} {i:Int} {row:List Int} (h:Mat q w xs) (f:0<=i) (k:In q row) (g:(row.length:Int)=w):Mat q w (xs.set i.toNat row):=by
 refine ⟨fun j c a=>?_,fun j c a=>?_,by rw [List.length_set];exact h.n,h.w1⟩<;>rw [List.length_set] at a
 ·by_cases e:i=j
  ·subst e;rw [ZdA f a];exact g
  ·rw [Zkr f c e];exact h.len j c a
 ·by_cases e:i=j
  ·subst e;rw [ZdA f a];exact k
  ·rw [Zkr f c e];exact h.rng j c a
theorem ZGA {f:Zd} {q w:Int} {a2:List Int} (hF:Ff f q a2) {piv:List Int} {c i:Int} {xs:List (List Int)} (a:Mat q w xs) (p:0<=c) (a3:c<w) (a4:(piv.length:Int)<=i) (r:i<xs.length) (hp:¬ ix (ix xs i) c=0):
  ZaG f piv c xs i=some (.inl (piv++[c],c+1,elim f c piv.length (scl f (ix xs i) (ix a2 (ix (ix xs i) c))) ((xs.set i.toNat (ix xs piv.length)).set piv.length (scl f (ix xs i) (ix a2 (ix (ix xs i) c)))))):=by
 have hq:=hF.q64;have hn:=a.n;have hw:=a.w1
 have ad:=a.len i ω r
 have a9:=a.rng i ω r
 obtain ⟨u,g⟩:=a9 c p ω
 obtain ⟨v0,v1⟩:=hF.inv1 (ix (ix xs i) c) ω g
 have hI:=ZBg hF (e:=ix (ix xs i) c) ω g
 have hS:=ZuK hF (row:=ix xs i) (c:=ix a2 (ix (ix xs i) c)) a9 ω ω v1
 have ao:(xs.set i.toNat (ix xs piv.length)).length=xs.length:=List.length_set
 simp (disch:=omega) only [pz,ZaG,hI,hS]
 generalize a6:scl f (ix xs i) (ix a2 (ix (ix xs i) c))=row
 have ac:(row.length:Int)=w:=by rw [<-a6,Zir];exact ad
 have a7:In q row:=by rw [<-a6];exact Zmp hF
 have hy:Mat q w ((xs.set i.toNat (ix xs piv.length)).set piv.length row):=(a.set ω (a.rng _ ω ω) (a.len _ ω ω)).set (i:=(piv.length:Int)) ω a7 ac
 have a8:ix ((xs.set i.toNat (ix xs piv.length)).set piv.length row) (piv.length:Int)=row:=ZdA (i:=(piv.length:Int)) ω (by rw [List.length_set];omega)
 have ae:((xs.set i.toNat (ix xs piv.length)).set piv.length row).length=xs.length:=by rw [List.length_set,List.length_set]
 generalize ((xs.set i.toNat (ix xs piv.length)).set piv.length row)=ys at hy a8 ae ⊢
 have ag:=Zl (B:=Ze4 f piv c row) (fun j=>(j,tabl ys.length fun t=>if t<j then (if t=piv.length then row else less f (ix ys t) row (ix (ix ys t) c)) else ix ys t)) (i:=0) (n:=ys.length) ω fun j k l=>by
  have x:(tabl ys.length fun t=>if t<j then (if t=piv.length then row else less f (ix ys t) row (ix (ix ys t) c)) else ix ys t).length=ys.length:=by rw [Zm];omega
  have y:ix (tabl ys.length fun t=>if t<j then (if t=piv.length then row else less f (ix ys t) row (ix (ix ys t) c)) else ix ys t) j=ix ys j:=by rw [ZI k l,if_neg ω]
  by_cases hj:j=piv.length
  ·have hs:(tabl ys.length fun t=>if t<j then (if t=piv.length then row else less f (ix ys t) row (ix (ix ys t) c)) else ix ys t)=tabl ys.length fun t=>if t<j+1 then (if t=piv.length then row else less f (ix ys t) row (ix (ix ys t) c)) else ix ys t:=by
    refine ZM fun t s o=>?_
    by_cases h:t<j
    ·rw [if_pos h,if_pos (show t<j+1 by omega)]
    ·by_cases h':t=j
     ·rw [if_neg h,if_pos (show t<j+1 by omega),if_pos ω,h',hj,a8]
     ·rw [if_neg h,if_neg (show ¬ t<j+1 by omega)]
   have a0:(tabl ys.length fun t=>if t<j+1 then (if t=piv.length then row else less f (ix ys t) row (ix (ix ys t) c)) else ix ys t).length=ys.length:=by rw [Zm];omega
   simp only [hs]
   simp (disch:=omega) only [pz,Ze4,a0]
  ·have ap:=hy.len j k l
   have aa:=hy.rng j k l
   obtain ⟨d0,d1⟩:=aa c p ω
   have hL:=ZGH hF (v:=ix ys j) (w:=row) (c:=ix (ix ys j) c) aa a7 ω ω d0 d1
   have hs:(tabl ys.length fun t=>if t<j then (if t=piv.length then row else less f (ix ys t) row (ix (ix ys t) c)) else ix ys t).set j.toNat (less f (ix ys j) row (ix (ix ys j) c))=tabl ys.length fun t=>if t<j+1 then (if t=piv.length then row else less f (ix ys t) row (ix (ix ys t) c)) else ix ys t:=by
    apply Zam k l
    ·intro t s o t2
     by_cases h:t<j
     ·rw [if_pos h,if_pos (show t<j+1 by omega)]
     ·rw [if_neg h,if_neg (show ¬ t<j+1 by omega)]
    ·rw [if_pos ω,if_neg hj]
   simp (disch:=omega) only [pz,Ze4,x,y,hL,hs]
 have u:((0:Int),ys)=(fun j=>(j,tabl ys.length fun t=>if t<j then (if t=piv.length then row else less f (ix ys t) row (ix (ix ys t) c)) else ix ys t)) 0:=by
  show _=((0:Int),_)
  congr 1
  refine (Zbe ys).symm.trans (ZM fun t s o=>?_)
  rw [if_neg ω]
 rw [u,ag]
 refine Zc ?_
 have g:(tabl ys.length fun t=>if t<(ys.length:Int) then (if t=piv.length then row else less f (ix ys t) row (ix (ix ys t) c)) else ix ys t)=elim f c piv.length row ys:=ZM fun t s o=>by rw [if_pos o]
 simp (disch:=omega) only [pz,Ze4,g,ZgI,gApp1]
theorem ZaB {α:Type} [Inhabited α] {n:Int} {f:Int->α} {i:Int} (a:0<=i) (h1:i<n):gIdx (tabl n f) i=some (f i):=by
 rw [Zis a (by rw [Zm];omega),ZI a h1]
theorem Zty {f:Zd} {q:Int} {e:List Int}:(tabs f q e).qadd=tabl q fun a=>tabl q fun b=>sumA f a b 1:=rfl
theorem Zs8 {f:Zd} {q:Int} {e:List Int}:(tabs f q e).qsub=tabl q fun a=>tabl q fun b=>sumA f a b (f.Prime-1):=rfl
theorem ZmO {f:Zd} {q:Int} {e:List Int}:(tabs f q e).qmul=tabl q fun a=>tabl q fun b=>mulA f a b:=rfl
theorem ZC3 {f:Zd} {q:Int} {a:List Int}:(tabs f q a).qinv=tabl q fun i=>if 1<=i then ix a i else 0:=rfl
theorem ZCI {f:Zd} {q:Int} {j:List Int} (h:Ff f q j) {v w c:Int} (v0:0<=v) (v1:v<q) (w0:0<=w) (w1:w<q) (a:0<=c) (c1:c<q):sumA f v (mulA f (sumA f 0 c (f.Prime-1)) w) 1=sumA f v (mulA f w c) (f.Prime-1):=by
 obtain ⟨e,g⟩:=ZcY h.fd h.pw w c
 rw [h.neg c w a c1 w0 w1,h.comm c w a c1 w0 w1,h.sub v _ v0 v1 e g]
theorem ZxH {f:Zd} {q:Int} {a0:List Int} (hF:Ff f q a0) {v w:List Int} {c:Int} (p:In q v) (hw:In q w) (hl:(v.length:Int)<=64) (he:w.length=v.length) (r:0<=c) (c1:c<q):
  ZbJ (tabs f q a0) v w (sumA f 0 c (f.Prime-1))=some (less f v w c):=by
 have hq:=hF.q64
 obtain ⟨n0,n1⟩:=ZlY hF.fd hF.pw 0 c (f.Prime-1)
 unfold ZbJ
 have a2:=Zl (B:=Zbm (tabs f q a0) w (sumA f 0 c (f.Prime-1))) (fun t=>(t,tabl v.length fun u=>if u<t then sumA f (ix v u) (mulA f (ix w u) c) (f.Prime-1) else ix v u)) (i:=0) (n:=v.length) ω fun t a e=>by
  obtain ⟨j,k⟩:=p t a e
  obtain ⟨l,o⟩:=hw t a ω
  have a5:(tabl v.length fun u=>if u<t then sumA f (ix v u) (mulA f (ix w u) c) (f.Prime-1) else ix v u).length=v.length:=by rw [Zm];omega
  have g:ix (tabl v.length fun u=>if u<t then sumA f (ix v u) (mulA f (ix w u) c) (f.Prime-1) else ix v u) t=ix v t:=by rw [ZI a e,if_neg ω]
  obtain ⟨s,x⟩:=ZcY hF.fd hF.pw (sumA f 0 c (f.Prime-1)) (ix w t)
  have hs:(tabl v.length fun u=>if u<t then sumA f (ix v u) (mulA f (ix w u) c) (f.Prime-1) else ix v u).set t.toNat (sumA f (ix v t) (mulA f (sumA f 0 c (f.Prime-1)) (ix w t)) 1)=tabl v.length fun u=>if u<t+1 then sumA f (ix v u) (mulA f (ix w u) c) (f.Prime-1) else ix v u:=by
   apply Zam a e
   ·intro u u0 u1 u2
    by_cases h:u<t
    ·rw [if_pos h,if_pos (show u<t+1 by omega)]
    ·rw [if_neg h,if_neg (show ¬ u<t+1 by omega)]
   ·rw [if_pos ω,ZCI hF j k l o r c1]
  have i1:gIdx (tabl v.length fun u=>if u<t then sumA f (ix v u) (mulA f (ix w u) c) (f.Prime-1) else ix v u) t=some (ix v t):=by rw [Zis a ω,g]
  have y:gIdx (tabs f q a0).qadd (ix v t)=some (tabl q fun b=>sumA f (ix v t) b 1):=by rw [Zty,ZaB j k]
  have i3:gIdx (tabs f q a0).qmul (sumA f 0 c (f.Prime-1))=some (tabl q fun b=>mulA f (sumA f 0 c (f.Prime-1)) b):=by rw [ZmO,ZaB n0 n1]
  have i4:gIdx (tabl q fun b=>mulA f (sumA f 0 c (f.Prime-1)) b) (ix w t)=some (mulA f (sumA f 0 c (f.Prime-1)) (ix w t)):=ZaB l o
  have i5:gIdx (tabl q fun b=>sumA f (ix v t) b 1) (mulA f (sumA f 0 c (f.Prime-1)) (ix w t))=some (sumA f (ix v t) (mulA f (sumA f 0 c (f.Prime-1)) (ix w t)) 1):=ZaB s x
  simp (disch:=omega) only [pz,Zbm,g,y,i3,i4,i5,hs]
 have e0:((0:Int),v)=(fun t=>(t,tabl v.length fun u=>if u<t then sumA f (ix v u) (mulA f (ix w u) c) (f.Prime-1) else ix v u)) 0:=by
  show _=((0:Int),_)
  congr 1
  refine (Zbe v).symm.trans (ZM fun t a e=>?_)
  rw [if_neg ω]
 rw [e0,a2]
 refine Zc ?_
 have e1:(tabl v.length fun u=>if u<(v.length:Int) then sumA f (ix v u) (mulA f (ix w u) c) (f.Prime-1) else ix v u)=less f v w c:=ZM fun t a e=>by rw [if_pos e]
 simp (disch:=omega) only [pz,Zbm,e1]
theorem Zxf {f:Zd} {q:Int} {o:List Int} (l:Ff f q o) {v w:List Int} (g:In q v) (r:In q w) (u:w.length=v.length):less f v w 0=v:=by
 refine Eq.trans (ZM fun t a h=>?_) (Zbe v)
 obtain ⟨i,j⟩:=g t a h
 obtain ⟨c,e⟩:=r t a ω
 have k:=l.q2
 rw [l.comm _ 0 c e ω ω,l.z1 _ c e,l.z2 _ i j]
theorem ZGi {f:Zd} {q w:Int} {a1:List Int} (hF:Ff f q a1) {piv:List Int} {c d:Int} {row:List Int} {ys:List (List Int)} (hy:Mat q w ys) (r:0<=c) (a4:c<w) (hr:(piv.length:Int)<ys.length) (al:(row.length:Int)=w) (a8:In q row) (a9:ix ys piv.length=row):
  loop (ZbU (tabs f q a1) piv c d ys) (0,ys)=some (if (piv.length:Int)+1=ys.length then .inr (.inr ((elim f c piv.length row ys).take (piv.length+1),piv++[c],d)) else .inr (.inl (piv++[c],d,c+1,elim f c piv.length row ys))):=by
 have hn:=hy.n;have hw:=hy.w1;have hq:=hF.q64;have a5:=hF.q2
 have ad:=Zl (B:=ZbU (tabs f q a1) piv c d ys) (fun j=>(j,tabl ys.length fun t=>if t<j then (if t=piv.length then row else less f (ix ys t) row (ix (ix ys t) c)) else ix ys t)) (i:=0) (n:=ys.length) ω fun j a k=>by
  have a6:(tabl ys.length fun t=>if t<j then (if t=piv.length then row else less f (ix ys t) row (ix (ix ys t) c)) else ix ys t).length=ys.length:=by rw [Zm];omega
  have p:ix (tabl ys.length fun t=>if t<j then (if t=piv.length then row else less f (ix ys t) row (ix (ix ys t) c)) else ix ys t) j=ix ys j:=by rw [ZI a k,if_neg ω]
  have l:gIdx (tabl ys.length fun t=>if t<j then (if t=piv.length then row else less f (ix ys t) row (ix (ix ys t) c)) else ix ys t) j=some (ix ys j):=by rw [Zis a ω,p]
  by_cases hj:j=piv.length
  ·have hs:(tabl ys.length fun t=>if t<j then (if t=piv.length then row else less f (ix ys t) row (ix (ix ys t) c)) else ix ys t)=tabl ys.length fun t=>if t<j+1 then (if t=piv.length then row else less f (ix ys t) row (ix (ix ys t) c)) else ix ys t:=by
    refine ZM fun t o e=>?_
    by_cases h:t<j
    ·rw [if_pos h,if_pos (show t<j+1 by omega)]
    ·by_cases h':t=j
     ·rw [if_neg h,if_pos (show t<j+1 by omega),if_pos ω,h',hj,a9]
     ·rw [if_neg h,if_neg (show ¬ t<j+1 by omega)]
   simp only [hs] at l ⊢
   simp (disch:=omega) only [pz,ZbU,ZdU,l]
  ·have am:=hy.len j a k
   have a2:=hy.rng j a k
   obtain ⟨s,u⟩:=a2 c r ω
   by_cases hz:ix (ix ys j) c=0
   ·have hs:(tabl ys.length fun t=>if t<j then (if t=piv.length then row else less f (ix ys t) row (ix (ix ys t) c)) else ix ys t)=tabl ys.length fun t=>if t<j+1 then (if t=piv.length then row else less f (ix ys t) row (ix (ix ys t) c)) else ix ys t:=by
     refine ZM fun t o e=>?_
     by_cases h:t<j
     ·rw [if_pos h,if_pos (show t<j+1 by omega)]
     ·by_cases h':t=j
      ·rw [if_neg h,if_pos (show t<j+1 by omega),if_neg ω,h',hz,Zxf hF a2 a8 ω]
      ·rw [if_neg h,if_neg (show ¬ t<j+1 by omega)]
    simp only [hs] at l ⊢
    simp (disch:=omega) only [pz,ZbU,ZdU,l]
   ·have hL:=ZxH hF (v:=ix ys j) (w:=row) (c:=ix (ix ys j) c) a2 a8 ω ω s u
    have hs:(tabl ys.length fun t=>if t<j then (if t=piv.length then row else less f (ix ys t) row (ix (ix ys t) c)) else ix ys t).set j.toNat (less f (ix ys j) row (ix (ix ys j) c))=tabl ys.length fun t=>if t<j+1 then (if t=piv.length then row else less f (ix ys t) row (ix (ix ys t) c)) else ix ys t:=by
     apply Zam a k
     ·intro t o e t2
      by_cases h:t<j
      ·rw [if_pos h,if_pos (show t<j+1 by omega)]
      ·rw [if_neg h,if_neg (show ¬ t<j+1 by omega)]
     ·rw [if_pos ω,if_neg hj]
    have x:ix (tabl ys.length fun t=>if t<j then (if t=piv.length then row else less f (ix ys t) row (ix (ix ys t) c)) else ix ys t) (piv.length:Int)=row:=by
     rw [ZI ω hr]
     by_cases h:(piv.length:Int)<j
     ·rw [if_pos h,if_pos rfl]
     ·rw [if_neg h,a9]
    have y:gIdx (tabs f q a1).qsub 0=some (tabl q fun b=>sumA f 0 b (f.Prime-1)):=by rw [Zs8,ZaB ω ω]
    have i4:gIdx (tabl q fun b=>sumA f 0 b (f.Prime-1)) (ix (ix ys j) c)=some (sumA f 0 (ix (ix ys j) c) (f.Prime-1)):=ZaB s u
    have i5:gNe j (piv.length:Int)=some ():=by unfold gNe;rw [if_pos hj]
    have he:Z5.mk (tabs f q a1).qq (tabs f q a1).qadd (tabs f q a1).qsub (tabs f q a1).qmul (tabs f q a1).qinv=tabs f q a1:=rfl
    simp (disch:=omega) only [pz,ZbU,ZdU,p,x,y,i4,i5,he,hL,hs]
 have e0:((0:Int),ys)=(fun j=>(j,tabl ys.length fun t=>if t<j then (if t=piv.length then row else less f (ix ys t) row (ix (ix ys t) c)) else ix ys t)) 0:=by
  show _=((0:Int),_)
  congr 1
  refine (Zbe ys).symm.trans (ZM fun t o e=>?_)
  rw [if_neg ω]
 rw [e0,ad]
 refine Zc ?_
 have e1:(tabl ys.length fun t=>if t<(ys.length:Int) then (if t=piv.length then row else less f (ix ys t) row (ix (ix ys t) c)) else ix ys t)=elim f c piv.length row ys:=ZM fun t o e=>by rw [if_pos e]
 have an:(elim f c piv.length row ys).length=ys.length:=ZgI
 have ac:(piv++[c]).length=piv.length+1:=by simp
 simp only [e1]
 by_cases h:(piv.length:Int)+1=ys.length
 ·rw [if_pos h]
  have g:gSl (elim f c piv.length row ys) 0 ((piv++[c]).length:Int)=some ((elim f c piv.length row ys).take (piv.length+1)):=by
   rw [ZbT ω ω ω,ac]
   rfl
  simp (disch:=omega) only [pz,ZbU,gApp1,ZeX,g]
 ·rw [if_neg h]
  simp (disch:=omega) only [pz,ZbU,gApp1,Zfm]
theorem Zua {α:Type} [Inhabited α] {xs:List α} {k:Nat}:xs.set k (ix xs (k:Int))=xs:=by
 apply ZaL
 ·exact List.length_set
 ·intro i a c
  rw [List.length_set] at c
  by_cases h:(k:Int)=i
  ·subst h
   exact ZdA (i:=(k:Int)) a c
  ·exact Zkr (i:=(k:Int)) ω a h
theorem Ztz {f:Zd} {q w:Int} {a0:List Int} (hF:Ff f q a0) {piv:List Int} {c d:Int} {xs:List (List Int)} (g:Mat q w xs) (o:0<=c) (r:c<w) (hr:(piv.length:Int)<xs.length) (hp:¬ ix (ix xs piv.length) c=0) (y:0<=d) (d1:d<q):
  Zgc (tabs f q a0) piv c d xs=some (if (piv.length:Int)+1=xs.length
   then .inr ((elim f c piv.length (scl f (ix xs piv.length) (ix a0 (ix (ix xs piv.length) c))) (xs.set piv.length (scl f (ix xs piv.length) (ix a0 (ix (ix xs piv.length) c))))).take (piv.length+1),piv++[c],mulA f d (ix (ix xs piv.length) c))
   else .inl (piv++[c],mulA f d (ix (ix xs piv.length) c),c+1,elim f c piv.length (scl f (ix xs piv.length) (ix a0 (ix (ix xs piv.length) c))) (xs.set piv.length (scl f (ix xs piv.length) (ix a0 (ix (ix xs piv.length) c)))))):=by
 have hq:=hF.q64;have hn:=g.n;have hw:=g.w1
 have a9:=g.len piv.length ω hr
 have a5:=g.rng piv.length ω hr
 obtain ⟨l,j⟩:=a5 c o ω
 obtain ⟨v0,v1⟩:=hF.inv1 (ix (ix xs piv.length) c) ω j
 have i1:gIdx (tabs f q a0).qmul d=some (tabl q fun b=>mulA f d b):=by rw [ZmO,ZaB y d1]
 have i2:gIdx (tabl q fun b=>mulA f d b) (ix (ix xs piv.length) c)=some (mulA f d (ix (ix xs piv.length) c)):=ZaB l j
 simp (disch:=omega) only [pz,Zgc,i1,i2]
 generalize hR:ix xs piv.length=R at *
 generalize hE:ix R c=e at *
 have aa:=Zl (B:=ZgG (tabs f q a0) piv c e (mulA f d e) R) (fun t=>(t,xs.set piv.length (tabl R.length fun u=>if u<t then mulA f (ix R u) (ix a0 e) else ix R u))) (i:=0) (n:=R.length) ω fun t k a=>by
  obtain ⟨s,v⟩:=a5 t k a
  have x:(tabl R.length fun u=>if u<t then mulA f (ix R u) (ix a0 e) else ix R u).length=R.length:=by rw [Zm];omega
  have p:ix (tabl R.length fun u=>if u<t then mulA f (ix R u) (ix a0 e) else ix R u) t=ix R t:=by rw [ZI k a,if_neg ω]
  have hs:(tabl R.length fun u=>if u<t then mulA f (ix R u) (ix a0 e) else ix R u).set t.toNat (mulA f (ix a0 e) (ix R t))=tabl R.length fun u=>if u<t+1 then mulA f (ix R u) (ix a0 e) else ix R u:=by
   apply Zam k a
   ·intro u u0 u1 u2
    by_cases h:u<t
    ·rw [if_pos h,if_pos (show u<t+1 by omega)]
    ·rw [if_neg h,if_neg (show ¬ u<t+1 by omega)]
   ·rw [if_pos ω,hF.comm _ _ ω v1 s v]
  generalize (tabl R.length fun u=>if u<t then mulA f (ix R u) (ix a0 e) else ix R u)=A at x p hs ⊢
  have hA:ix (xs.set piv.length A) piv.length=A:=ZdA (i:=(piv.length:Int)) ω hr
  have ak:(xs.set piv.length A).length=xs.length:=List.length_set
  have i3:gIdx (tabs f q a0).qinv e=some (ix a0 e):=by rw [ZC3,ZaB l j,if_pos ω]
  have i4:gIdx (tabs f q a0).qmul (ix a0 e)=some (tabl q fun b=>mulA f (ix a0 e) b):=by rw [ZmO,ZaB ω v1]
  have i5:gIdx (tabl q fun b=>mulA f (ix a0 e) b) (ix R t)=some (mulA f (ix a0 e) (ix R t)):=ZaB s v
  simp (disch:=omega) only [pz,ZgG,hA,p,i3,i4,i5,hs,List.set_set]
 have l:((0:Int),xs)=(fun t=>(t,xs.set piv.length (tabl R.length fun u=>if u<t then mulA f (ix R u) (ix a0 e) else ix R u))) 0:=by
  show _=((0:Int),xs.set piv.length _)
  congr 1
  have:(tabl R.length fun u=>if u<0 then mulA f (ix R u) (ix a0 e) else ix R u)=R:=by
   refine Eq.trans (ZM fun t k a=>?_) (Zbe R)
   rw [if_neg ω]
  rw [this,<-hR,Zua]
 rw [l,aa]
 refine Zc ?_
 have j:(tabl R.length fun u=>if u<(R.length:Int) then mulA f (ix R u) (ix a0 e) else ix R u)=scl f R (ix a0 e):=ZM fun t k a=>by rw [if_pos a]
 simp only [j]
 have a1:((scl f R (ix a0 e)).length:Int)=w:=by rw [Zir];exact a9
 have a2:In q (scl f R (ix a0 e)):=Zmp hF
 generalize scl f R (ix a0 e)=row at a1 a2 ⊢
 have hy:Mat q w (xs.set piv.length row):=g.set (i:=(piv.length:Int)) ω a2 a1
 have a6:ix (xs.set piv.length row) piv.length=row:=ZdA (i:=(piv.length:Int)) ω hr
 have a8:(xs.set piv.length row).length=xs.length:=List.length_set
 have hL:=ZGi hF (d:=mulA f d e) hy o r ω a1 a2 a6
 rw [a8] at hL
 simp (disch:=omega) only [pz,ZgG]
 rw [hL]
 by_cases h:(piv.length:Int)+1=xs.length
 ·rw [if_pos h,if_pos h]
 ·rw [if_neg h,if_neg h]
theorem ZwJ {f:Zd} {q w:Int} {piv:List Int} {c:Int} {xs:List (List Int)} (g:Mat q w xs) (y:0<=c) (a0:c<w) (hr:(piv.length:Int)<=xs.length):
  ∃ i:Int,(piv.length:Int)<=i/\i<=xs.length/\(∀ j,(piv.length:Int)<=j->j<i->ix (ix xs j) c=0)/\(i<xs.length->¬ ix (ix xs i) c=0)/\Zhw f piv c xs=ZaG f piv c xs i:=by
 have hn:=g.n
 have a6:∀ (d:Nat) (i:Int),i+d=xs.length->(piv.length:Int)<=i->(∀ j,(piv.length:Int)<=j->j<i->ix (ix xs j) c=0)->∃ i':Int,(piv.length:Int)<=i'/\i'<=xs.length/\(∀ j,(piv.length:Int)<=j->j<i'->ix (ix xs j) c=0)/\(i'<xs.length->¬ ix (ix xs i') c=0)/\loop (Zcr f piv c xs) i=ZaG f piv c xs i':=by
  intro d
  induction d with
  | zero=>
   intro i hi a3 ha
   refine ⟨i,a3,by omega,ha,fun h=>by omega,?_⟩
   have hB:Zcr f piv c xs i=(ZaG f piv c xs i).map fun x=>.inr x:=by
    simp (disch:=omega) only [pz,Zcr]
   cases hk:ZaG f piv c xs i with
   | none=>
    exfalso
    unfold ZaG at hk
    obtain rfl:i=(xs.length:Int):=ω
    have:((xs.length:Int)==(xs.length:Int))=true:=by simp
    rw [this] at hk
    cases hk
   | some r=>rw [hk] at hB;exact Zc hB
  | succ d ih=>
   intro i hi a3 ha
   have hl:=g.len i ω ω
   by_cases h:ix (ix xs i) c=0
   ·obtain ⟨i',l,o,p,s,u⟩:=ih (i+1) ω ω fun j k v=>by
     by_cases e:j=i
     ·rw [e];exact h
     ·exact ha j k ω
    refine ⟨i',l,o,p,s,?_⟩
    rw [<-u]
    refine ZG ?_
    simp (disch:=omega) only [pz,Zcr,h]
   ·refine ⟨i,a3,by omega,ha,fun _=>h,?_⟩
    have hB:Zcr f piv c xs i=(ZaG f piv c xs i).map fun x=>.inr x:=by
     simp (disch:=omega) only [pz,Zcr,h]
    cases hk:ZaG f piv c xs i with
    | none=>
     rw [hk] at hB
     cases hl:loop (Zcr f piv c xs) i with
     | none=>rfl
     | some r=>
      obtain ⟨m,hm⟩:=Zj hl
      obtain ⟨_,a,_,h1,_⟩:=Zi hm
      rw [hB] at h1
      cases h1
    | some r=>rw [hk] at hB;exact Zc hB
 unfold Zhw
 exact a6 (xs.length-piv.length) piv.length ω ω fun j k v=>by omega
theorem ZvU {q w:Int} {piv:List Int} {c i:Int} {xs:List (List Int)} (a:Mat q w xs) (g:0<=c) (l:c<w) (hr:(piv.length:Int)<=xs.length) (o:(piv.length:Int)<=i) (p:i<=xs.length) (hz:∀ j,(piv.length:Int)<=j->j<i->ix (ix xs j) c=0) (hp:i<xs.length->¬ ix (ix xs i) c=0):
  Zf2 (xs.drop piv.length) (fun f=>Zew f c)=some (if i<xs.length then i-piv.length else -1):=by
 have r:=a.n
 unfold Zf2
 have a2:((xs.drop piv.length).length:Int)=(xs.length:Int)-piv.length:=by rw [List.length_drop];omega
 have u:∀ k,0<=k->ix (xs.drop piv.length) k=ix xs (piv.length+k):=fun k k0=>Zpb (i:=(piv.length:Int)) ω k0
 have y:=Zl (B:=ZcH (xs.drop piv.length) (fun f=>Zew f c)) (fun k=>k) (i:=0) (n:=i-piv.length) ω fun k k0 k1=>by
  have hl:=a.len (piv.length+k) ω ω
  have x:=hz (piv.length+k) ω ω
  simp (disch:=omega) only [pz,ZcH,Zew,u,x]
 rw [y]
 refine Zc ?_
 by_cases h:i<xs.length
 ·rw [if_pos h]
  have hl:=a.len i ω h
  have a1:=hp h
  have e:(piv.length:Int)+(i-piv.length)=i:=ω
  simp (disch:=omega) only [pz,ZcH,Zew,u,e]
 ·rw [if_neg h]
  simp (disch:=omega) only [pz,ZcH]
theorem ZqX {xs:List (List Int)} {k:Nat} (h:k<=xs.length):gSl xs 0 (k:Int)=some (xs.take k):=by
 rw [ZbT ω ω ω]
 simp
theorem ZB0 {f:Zd} {q w:Int} {a0:List Int} (hF:Ff f q a0):∀ (n:Nat) (c:Int) (piv:List Int) (xs:List (List Int)) (d:Int),c+n=w->0<=c->(piv.length:Int)<xs.length->Mat q w xs->0<=d->d<q ->
  ∃ R a1 d',loop (ZcM f w) (piv,c,xs)=some (R,a1)/\a1.length<=R.length/\R.length=xs.length/\Mat q w R/\loop (ZbO (tabs f q a0)) (piv,d,c,xs)=some (R.take a1.length,a1,d'):=by
 intro n
 induction n with
 | zero=>
  intro c piv xs d hc g hp a l o
  have hn:=a.n;have hw:=a.w1
  have v:=a.len 0 ω ω
  refine ⟨xs,piv,d,Zc ?_,by omega,rfl,a,Zc ?_⟩
  ·simp (disch:=omega) only [pz,ZcM]
  ·simp (disch:=omega) only [pz,ZbO,ZeX,ZqX]
 | succ n ih=>
  intro c piv xs d hc g hp a l o
  have hn:=a.n;have hw:=a.w1;have a6:=hF.q2
  have v:=a.len 0 ω ω
  obtain ⟨i,x,i1,iz,ip,hs⟩:=ZwJ (f:=f) (piv:=piv) a g ω ω
  have hi:=ZvU (piv:=piv) a g ω ω x i1 iz ip
  have a9:gSl xs (piv.length:Int) (xs.length:Int)=some (xs.drop piv.length):=Zlm (lo:=(piv.length:Int)) ω ω
  have hB:ZcM f w (piv,c,xs)=ZaG f piv c xs i:=by
   rw [<-hs]
   simp (disch:=omega) only [pz,ZcM]
  by_cases h:i<xs.length
  ·rw [if_pos h] at hi
   have ab:=ip h
   have ae:=ZGA hF (piv:=piv) a g (by omega:c<w) x h ab
   rw [ae] at hB
   rw [ZG hB]
   have aj:=a.len i ω h
   have ak:=a.rng i ω h
   have am:=a.len piv.length ω hp
   have al:=a.rng piv.length ω hp
   have af:In q (scl f (ix xs i) (ix a0 (ix (ix xs i) c))):=Zmp hF
   have a8:((scl f (ix xs i) (ix a0 (ix (ix xs i) c))).length:Int)=w:=by rw [Zir];exact aj
   obtain ⟨m0,m1⟩:=ak c g ω
   have hI:∃ d',0<=d'/\d'<q/\ZbO (tabs f q a0) (piv,d,c,xs)=some (if (piv.length:Int)+1=xs.length
     then .inr ((elim f c piv.length (scl f (ix xs i) (ix a0 (ix (ix xs i) c))) ((xs.set i.toNat (ix xs piv.length)).set piv.length (scl f (ix xs i) (ix a0 (ix (ix xs i) c))))).take (piv.length+1),piv++[c],d')
     else .inl (piv++[c],d',c+1,elim f c piv.length (scl f (ix xs i) (ix a0 (ix (ix xs i) c))) ((xs.set i.toNat (ix xs piv.length)).set piv.length (scl f (ix xs i) (ix a0 (ix (ix xs i) c)))))):=by
    by_cases aa:i=piv.length
    ·subst aa
     have hk:=Ztz hF (piv:=piv) a g (by omega:c<w) hp ab l o
     obtain ⟨j,k⟩:=ZcY hF.fd hF.pw d (ix (ix xs piv.length) c)
     refine ⟨_,j,k,?_⟩
     rw [Int.toNat_natCast,Zua]
     rw [Int.sub_self] at hi
     rw [<-hk]
     simp (disch:=omega) only [pz,ZbO,ZgY,a9,hi]
    ·have av:Mat q w ((xs.set piv.length (ix xs i)).set i.toNat (ix xs piv.length)):=(a.set (i:=(piv.length:Int)) ω ak aj).set ω al am
     have aq:((xs.set piv.length (ix xs i)).set i.toNat (ix xs piv.length)).length=xs.length:=by rw [List.length_set,List.length_set]
     have a3:(xs.set piv.length (ix xs i)).length=xs.length:=List.length_set
     have ai:ix ((xs.set piv.length (ix xs i)).set i.toNat (ix xs piv.length)) piv.length=ix xs i:=by
      rw [Zkr ω ω aa]
      exact ZdA (i:=(piv.length:Int)) ω hp
     have au:∀ row,((xs.set piv.length (ix xs i)).set i.toNat (ix xs piv.length)).set piv.length row=(xs.set i.toNat (ix xs piv.length)).set piv.length row:=fun row=>by
      rw [List.set_comm (ix xs i) (ix xs piv.length) (by omega:piv.length≠i.toNat),List.set_set]
     obtain ⟨n0,n1⟩:=ZlY hF.fd hF.pw 0 d (f.Prime-1)
     have hk:=Ztz hF (piv:=piv) (d:=sumA f 0 d (f.Prime-1)) av g (by omega:c<w) ω (by rw [ai];exact ab) n0 n1
     rw [ai,aq,au] at hk
     obtain ⟨j,k⟩:=ZcY hF.fd hF.pw (sumA f 0 d (f.Prime-1)) (ix (ix xs i) c)
     refine ⟨_,j,k,?_⟩
     rw [<-hk]
     have j1:gIdx (tabs f q a0).qsub 0=some (tabl q fun b=>sumA f 0 b (f.Prime-1)):=by rw [Zs8,ZaB ω ω]
     have j2:gIdx (tabl q fun b=>sumA f 0 b (f.Prime-1)) d=some (sumA f 0 d (f.Prime-1)):=ZaB l o
     have e:(piv.length:Int)+(i-piv.length)=i:=ω
     simp (disch:=omega) only [pz,ZbO,ZgY,a9,hi,e,j1,j2]
   obtain ⟨d',j,k,hI⟩:=hI
   have ax:((xs.set i.toNat (ix xs piv.length)).set piv.length (scl f (ix xs i) (ix a0 (ix (ix xs i) c)))).length=xs.length:=by rw [List.length_set,List.length_set]
   have ap:Mat q w ((xs.set i.toNat (ix xs piv.length)).set piv.length (scl f (ix xs i) (ix a0 (ix (ix xs i) c)))):=(a.set ω al am).set (i:=(piv.length:Int)) ω af a8
   have ad:Mat q w (elim f c piv.length (scl f (ix xs i) (ix a0 (ix (ix xs i) c))) ((xs.set i.toNat (ix xs piv.length)).set piv.length (scl f (ix xs i) (ix a0 (ix (ix xs i) c))))):=Mat.elim hF ap af a8
   have an:(elim f c piv.length (scl f (ix xs i) (ix a0 (ix (ix xs i) c))) ((xs.set i.toNat (ix xs piv.length)).set piv.length (scl f (ix xs i) (ix a0 (ix (ix xs i) c))))).length=xs.length:=by rw [ZgI,ax]
   generalize elim f c piv.length (scl f (ix xs i) (ix a0 (ix (ix xs i) c))) ((xs.set i.toNat (ix xs piv.length)).set piv.length (scl f (ix xs i) (ix a0 (ix (ix xs i) c))))=E at hI ad an ⊢
   have ao:(piv++[c]).length=piv.length+1:=by simp
   by_cases a7:(piv.length:Int)+1=xs.length
   ·rw [if_pos a7] at hI
    refine ⟨E,piv++[c],d',Zc ?_,by omega,an,ad,?_⟩
    ·by_cases b5:c+1<w
     ·simp (disch:=omega) only [pz,ZcM]
     ·simp (disch:=omega) only [pz,ZcM]
    ·rw [ao];exact Zc hI
   ·rw [if_neg a7] at hI
    rw [ZG hI]
    obtain ⟨R,a1,ac,p,r,y,s,u⟩:=ih (c+1) (piv++[c]) E d' ω ω ω ad j k
    exact ⟨R,a1,ac,p,r,by omega,s,u⟩
  ·rw [if_neg h] at hi
   have ae:ZaG f piv c xs i=some (.inl (piv,c+1,xs)):=by
    obtain rfl:i=(xs.length:Int):=ω
    simp (disch:=omega) only [pz,ZaG]
   rw [ae] at hB
   rw [ZG hB]
   have hI:ZbO (tabs f q a0) (piv,d,c,xs)=some (.inl (piv,0,c+1,xs)):=by
    simp (disch:=omega) only [pz,ZbO,ZgY,Zfm,a9,hi]
   rw [ZG hI]
   obtain ⟨R,a1,ac,p,r,y,s,u⟩:=ih (c+1) piv xs 0 ω ω hp a ω ω
   exact ⟨R,a1,ac,p,r,y,s,u⟩
theorem Zq1 {m:List (List Int)} (hs:Sz2 m):Zhr m=some m:=by
 unfold Zhr
 have h1:=hs.1
 have g:=Zl (B:=ZfV m) (fun k=>(m.take k.toNat,k)) (i:=0) (n:=m.length) ω fun k a h1=>by
  have j:=ZsE (hs.2 (ix m k) (Zo a h1))
  have h:(m.take k.toNat).length=k.toNat:=by rw [List.length_take];omega
  simp (disch:=omega) only [pz,ZfV,j,gApp1,h,ZaC]
 have c:(([]:List (List Int)),(0:Int))=(fun k:Int=>(m.take k.toNat,k)) 0:=by simp
 rw [c,g]
 refine Zc ?_
 have e:m.take (m.length:Int).toNat=m:=by simp
 simp (disch:=omega) only [pz,ZfV,e]
theorem Ztt {f:Zd} {q w:Int} {r:List Int} (y:Ff f q r) {m:List (List Int)} (hs:Sz2 m) (u:Mat q w m) (hw:0<=w) (h1:1<=(m.length:Int)):
  ∃ R piv d,Zgx f m=some R/\ZhJ (tabs f q r) m=some (R,piv,d)/\R.length<=m.length/\∀ x∈R,(x.length:Int)<=1048576:=by
 have k:=y.q2
 obtain ⟨R,piv,d,e,l,o,g,h⟩:=ZB0 y w.toNat 0 [] m 1 ω ω (by simp;omega) u ω ω
 have c:=u.len 0 ω ω
 refine ⟨R.take piv.length,piv,d,?_,?_,by rw [List.length_take];omega,fun x j=>?_⟩
 ·unfold Zgx Zku
  rw [Zq1 hs]
  simp (disch:=omega) only [pz,c,e,ZqX]
 ·unfold ZhJ
  rw [Zc9 hs]
  exact h
 ·obtain ⟨i,a,b,rfl⟩:=Z2 (List.mem_of_mem_take j)
  have:=g.len i a b
  have:=u.w1
  omega
end Go.Proofs.YtepnljbkgjbbmaaGreatDoor
