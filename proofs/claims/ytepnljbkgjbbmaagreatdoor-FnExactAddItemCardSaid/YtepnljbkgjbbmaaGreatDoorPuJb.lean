import Derived.Test.YtepnljbkgjbbmaaGreatDoorPuJa
import Derived.Test.YtepnljbkgjbbmaaGreatDoorPuEv
import Derived.Test.YtepnljbkgjbbmaaGreatDoorCeFns
namespace Go.Proofs.YtepnljbkgjbbmaaGreatDoor
open Go Go.Vc
set_option linter.unusedSimpArgs false
set_option linter.unusedVariables false
def qd (p a:Int):Nat->Int
 | 0=>a
 | i+1=>qd p a i/p
def pwN (p:Int):Nat->Int
 | 0=>1
 | i+1=>pwN p i*p
def dig (p:Int) (k:Int) (a:Int):List Int:=tabl k fun j=>qd p a j.toNat%p
def nmN (p:Int) (xs:List Int):Nat->Int
 | 0=>0
 | m+1=>nmN p xs m*p+ix xs ((xs.length:Int)-1-(m:Int))
def nm (p:Int) (xs:List Int):Int:=nmN p xs xs.length
def axAt (p c:Int) (ws:List Int) (off:Int) (xs:List Int):List Int:=tabl xs.length fun i=>if off<=i/\i<off+(ws.length:Int) then (ix xs i+c*ix ws (i-off))%p else ix xs i
def cnvN (p:Int) (as bs xs:List Int):Nat->List Int
 | 0=>xs
 | i+1=>axAt p (ix as (i:Int)) bs (i:Int) (cnvN p as bs xs i)
def rstN (p:Int) (poly:List Int) (xs:List Int):Nat->List Int
 | 0=>xs
 | m+1=>axAt p (p-ix (rstN p poly xs m) ((xs.length:Int)-1-(m:Int))) poly ((xs.length:Int)-1-(m:Int)-((poly.length:Int)-1)) (rstN p poly xs m)
def In (p:Int) (xs:List Int):Prop:=∀ i,0<=i->i<(xs.length:Int)->0<=ix xs i/\ix xs i<p
theorem ZfM {p a:Int} (h:0<=a) (hp:2<=p):∀ i:Nat,0<=qd p a i/\qd p a i<=a
 | 0=>⟨h,Int.le_refl _⟩
 | i+1=>by
  obtain ⟨h1,c⟩:=ZfM h hp i
  have e:0<=qd p a i/p:=Int.ediv_nonneg h1 ω
  have f:qd p a i/p<=qd p a i:=Int.ediv_le_self _ h1
  exact ⟨e,Int.le_trans f c⟩
theorem ZuS {p a:Int} {i:Int} (h:0<=i):qd p a (i+1).toNat=qd p a i.toNat/p:=by
 rw [show (i+1).toNat=i.toNat+1 by omega];rfl
theorem ZaG {p k a:Int} (h:0<=k):((dig p k a).length:Int)=k:=by unfold dig;rw [Zl];omega
theorem ZbF {p k a:Int} (hp:2<=p):In p (dig p k a):=fun i c h1=>by
 unfold dig at h1 ⊢
 rw [Zl] at h1
 rw [ZH c ω]
 exact ⟨Int.emod_nonneg _ ω,Int.emod_lt_of_pos _ ω⟩
theorem Zlo {p a k:Int} (ha:0<=a) (s:a<=4611686018427387904) (hp:2<=p) (u:p<=64) (hk:0<=k) (v:k<=64):Zbe a p k=some (dig p k a):=by
 unfold Zbe
 have y:=Zj (B:=Zdt p) (fun i=>(qd p a i.toNat,k-i,tabl i fun j=>qd p a j.toNat%p)) (i:=0) (n:=k) hk fun i w h1=>by
  obtain ⟨c,x⟩:=ZfM ha hp i.toNat
  have f:=Int.tmod_eq_emod_of_nonneg (b:=p) c
  have h:=Int.tdiv_eq_ediv_of_nonneg (b:=p) c
  obtain ⟨l,o⟩:=ZfM ha hp (i.toNat+1)
  have hl:(tabl i fun j=>qd p a j.toNat%p).length=i.toNat:=Zl
  have e:k-(i+1)=k-i-1:=ω
  have a3:0<=qd p a i.toNat/p:=l
  have a4:qd p a i.toNat/p<=a:=o
  simp (disch:=omega) only [pz,Zdt,f,h,gApp1,hl,ZuS,ZX,e]
 have r:(a,k,([]:List Int))=(fun i:Int=>(qd p a i.toNat,k-i,tabl i fun j=>qd p a j.toNat%p)) 0:=by simp [qd,Zxv]
 rw [r,y]
 refine Zc ?_
 simp (disch:=omega) only [pz,Zdt,Int.sub_self]
 rfl
theorem ZM {α:Type} {n:Int} {f g:Int->α} (h:∀ i,0<=i->i<n->f i=g i):tabl n f=tabl n g:=by
 unfold tabl
 apply List.map_congr_left
 intro j a
 rw [List.mem_range] at a
 exact h j ω ω
theorem Zak {α:Type} [Inhabited α] {n:Int} {f g:Int->α} {k:Int} (c:0<=k) (h1:k<n) (hg:∀ i,0<=i->i<n->i≠k->g i=f i) {y:α} (j:y=g k):(tabl n f).set k.toNat y=tabl n g:=by
 apply ZaH
 ·rw [List.length_set,Zl,Zl]
 ·intro i a e
  rw [List.length_set,Zl] at e
  by_cases h:k=i
  ·subst h
   rw [Zc5 c (by rw [Zl];omega),ZH c h1,j]
  ·rw [Zf5 c a h,ZH a ω,ZH a ω,hg i a ω ω]
theorem Zbg {α:Type} [Inhabited α] (xs:List α):tabl xs.length (fun i=>ix xs i)=xs:=by
 apply ZaH
 ·rw [Zl];omega
 ·intro i a c
  rw [Zl] at c
  rw [ZH a ω]
theorem Zfn {α:Type} [Inhabited α] {n:Int} {z:α}:List.replicate n.toNat z=tabl n fun _=>z:=by
 apply ZaH
 ·rw [Zl,List.length_replicate]
 ·intro i a c
  rw [List.length_replicate] at c
  rw [ZH a ω,Zcg a ω]
theorem ZgO {p a k:Int} (ha:0<=a) (x:a<=4611686018427387904) (hp:2<=p) (y:p<=64) (hk:0<=k) (a0:k<=64):ZaT a p k=some (dig p k a):=by
 unfold ZaT
 rw [Zau hk ω ω]
 show loop (ZcR p (List.replicate k.toNat 0)) (a,0,List.replicate k.toNat 0)=_
 have a1:=Zj (B:=ZcR p (List.replicate k.toNat 0)) (fun i=>(qd p a i.toNat,i,tabl k fun j=>if j<i then qd p a j.toNat%p else 0)) (i:=0) (n:=k) hk fun i h h1=>by
  obtain ⟨e,g2⟩:=ZfM ha hp i.toNat
  have l:=Int.tmod_eq_emod_of_nonneg (b:=p) e
  have o:=Int.tdiv_eq_ediv_of_nonneg (b:=p) e
  obtain ⟨r,s⟩:=ZfM ha hp (i.toNat+1)
  have hl:(tabl k fun j=>if j<i then qd p a j.toNat%p else 0).length=k.toNat:=Zl
  have c:(List.replicate k.toNat (0:Int)).length=k.toNat:=List.length_replicate
  have a6:0<=qd p a i.toNat/p:=r
  have a7:qd p a i.toNat/p<=a:=s
  have hset:(tabl k fun j=>if j<i then qd p a j.toNat%p else 0).set i.toNat (qd p a i.toNat%p)=tabl k fun j=>if j<i+1 then qd p a j.toNat%p else 0:=by
   apply Zak h h1
   ·intro j u f j2
    by_cases hj:j<i
    ·rw [if_pos hj,if_pos ω]
    ·rw [if_neg hj,if_neg ω]
   ·rw [if_pos ω]
  simp (disch:=omega) only [pz,ZcR,l,o,hl,c,ZuS,hset]
 have v:(a,(0:Int),List.replicate k.toNat (0:Int))=(fun i:Int=>(qd p a i.toNat,i,tabl k fun j=>if j<i then qd p a j.toNat%p else 0)) 0:=by
  show _=(a,(0:Int),_)
  rw [Zfn]
  congr 2
 rw [v,a1]
 refine Zc ?_
 have c:(List.replicate k.toNat (0:Int)).length=k.toNat:=List.length_replicate
 have w:(tabl k fun j=>if j<k then qd p a j.toNat%p else 0)=dig p k a:=by
  unfold dig
  exact ZM fun j u f=>by rw [if_pos f]
 simp (disch:=omega) only [pz,ZcR,c,w]
theorem Zbb {p:Int} (hp:2<=p):∀ m:Nat,1<=pwN p m
 | 0=>Int.le_refl _
 | m+1=>by
  have h:=Zbb hp m
  have:1*2<=pwN p m*p:=Int.mul_le_mul h hp ω ω
  show 1<=pwN p m*p
  omega
theorem Zl5 {p:Int} (hp:2<=p) {m:Nat}:∀ d:Nat,pwN p m<=pwN p (m+d)
 | 0=>Int.le_refl _
 | d+1=>by
  have h:=Zl5 (m:=m) hp d
  have h1:=Zbb hp (m+d)
  have:pwN p (m+d)*1<=pwN p (m+d)*p:=Int.mul_le_mul_of_nonneg_left ω ω
  show _<=pwN p (m+d)*p
  omega
theorem ZiU {p:Int} {xs:List Int} (hp:2<=p) (a:In p xs):∀ m:Nat,m<=xs.length->0<=nmN p xs m/\nmN p xs m<pwN p m
 | 0,_=>⟨Int.le_refl _,by show (0:Int)<1;omega⟩
 | m+1,hm=>by
  obtain ⟨h1,e⟩:=ZiU hp a m ω
  obtain ⟨f,h⟩:=a ((xs.length:Int)-1-m) ω ω
  have i:0<=nmN p xs m*p:=Int.mul_nonneg h1 ω
  have c:(nmN p xs m+1)*p<=pwN p m*p:=Int.mul_le_mul_of_nonneg_right ω ω
  rw [Int.add_mul,Int.one_mul] at c
  refine ⟨?_,?_⟩
  ·show 0<=nmN p xs m*p+ix xs ((xs.length:Int)-1-(m:Int))
   omega
  ·show nmN p xs m*p+ix xs ((xs.length:Int)-1-(m:Int))<pwN p m*p
   omega
theorem Zqi {p:Int} {xs:List Int} (hp:2<=p) (k:p<=64) (a:In p xs) (hl:xs.length<=64) (hw:pwN p xs.length<=64):Zbi xs p=some (nm p xs):=by
 unfold Zbi
 have x:=Zj (B:=ZeS xs p) (fun m=>(nmN p xs m.toNat,(xs.length:Int)-1-m)) (i:=0) (n:=xs.length) ω fun m l h1=>by
  obtain ⟨e,o⟩:=ZiU hp a m.toNat ω
  obtain ⟨r,s⟩:=ZiU hp a (m.toNat+1) ω
  have f:=Zl5 hp (m:=m.toNat+1) (xs.length-(m.toNat+1))
  rw [show m.toNat+1+(xs.length-(m.toNat+1))=xs.length by omega] at f
  have y:nmN p xs (m.toNat+1)=nmN p xs m.toNat*p+ix xs ((xs.length:Int)-1-(m.toNat:Int)):=rfl
  rw [show (m.toNat:Int)=m by omega] at y
  have es:(m+1).toNat=m.toNat+1:=ω
  have u:0<=nmN p xs m.toNat*p:=Int.mul_nonneg e ω
  obtain ⟨v,w⟩:=a ((xs.length:Int)-1-m) ω ω
  have c:(xs.length:Int)-1-(m+1)=(xs.length:Int)-1-m-1:=ω
  simp (disch:=omega) only [pz,ZeS,es,y,c]
 have h:((0:Int),IntKind.i64.wrap ((xs.length:Int)-1))=(fun m:Int=>(nmN p xs m.toNat,(xs.length:Int)-1-m)) 0:=by
  show _=((0:Int),_)
  rw [wr64 ω ω]
  simp
 rw [h,x]
 refine Zc ?_
 have j:(xs.length:Int)-1-(xs.length:Int)=-1:=ω
 have c:(xs.length:Int).toNat=xs.length:=ω
 simp (disch:=omega) only [pz,ZeS,j,c]
 rfl
theorem ZqK (xs:List Int) (p:Int):Zk6 xs p=Zbi xs p:=rfl
theorem Za5 {p c off:Int} {ws xs:List Int}:(axAt p c ws off xs).length=xs.length:=by unfold axAt;rw [Zl];omega
theorem ZjN {p c off:Int} {ws xs:List Int} (hp:2<=p) (e:In p xs):In p (axAt p c ws off xs):=fun i a h1=>by
 rw [Za5] at h1
 unfold axAt
 rw [ZH a ω]
 split
 ·exact ⟨Int.emod_nonneg _ ω,Int.emod_lt_of_pos _ ω⟩
 ·exact e i a h1
theorem Zex {ρ:Type} {B:Int×List Int->Option ((Int×List Int) ⊕ ρ)} {p c off:Int} {ws xs:List Int} (o:0<=off) (h1:off+(ws.length:Int)<=xs.length)
  (hs:∀ j u,0<=j->j<(ws.length:Int)->u.length=xs.length->ix u (off+j)=ix xs (off+j)->B (j,u)=some (.inl (j+1,u.set (off+j).toNat ((ix xs (off+j)+c*ix ws j)%p)))):
  loop B (0,xs)=loop B ((ws.length:Int),axAt p c ws off xs):=by
 have w:=Zj (B:=B) (fun j=>(j,tabl xs.length fun i=>if off<=i/\i<off+j then (ix xs i+c*ix ws (i-off))%p else ix xs i)) (i:=0) (n:=ws.length) ω fun j a e=>by
  show B (j,_)=_
  rw [hs j _ a e (by rw [Zl];omega) (by rw [ZH ω ω,if_neg ω])]
  congr 3
  apply Zak ω ω
  ·intro i f k r
   by_cases h:off<=i/\i<off+j
   ·rw [if_pos h,if_pos ω]
   ·rw [if_neg h,if_neg ω]
  ·rw [if_pos ω,show off+j-off=j by omega]
 have l:((0:Int),xs)=(fun j:Int=>(j,tabl xs.length fun i=>if off<=i/\i<off+j then (ix xs i+c*ix ws (i-off))%p else ix xs i)) 0:=by
  show _=((0:Int),_)
  congr 1
  refine (Zbg xs).symm.trans (ZM fun i f k=>?_)
  rw [if_neg ω]
 rw [l,w]
 rfl
structure Fd (f:Ze):Prop where
 p2:2<=f.Prime
 p64:f.Prime<=64
 k1:1<=f.Degree
 k6:f.Degree<=6
 pl:(f.Poly.length:Int)=f.Degree+1
 mon:ix f.Poly f.Degree=1
 rng:In f.Prime f.Poly
 w64:pwN f.Prime f.Degree.toNat<=64
def sumA (f:Ze) (a b c:Int):Int:=nm f.Prime (axAt f.Prime c (dig f.Prime f.Degree b) 0 (dig f.Prime f.Degree a))
theorem Zh0 {a b p:Int} (e:0<=a) (h1:a<=p) (c:0<=b) (f:b<=p) (hp:p<=64):0<=a*b/\a*b<=4096:=by
 refine ⟨Int.mul_nonneg e c,?_⟩
 have:=Int.mul_le_mul (Int.le_trans h1 hp) (Int.le_trans f hp) c ω
 omega
theorem ZrI {f:Ze} (e:Fd f) (a b c:Int):Zbi (axAt f.Prime c (dig f.Prime f.Degree b) 0 (dig f.Prime f.Degree a)) f.Prime=some (sumA f a b c):=by
 have:=e.p2;have:=e.p64;have:=e.k1;have:=e.k6
 have h:=ZaG (p:=f.Prime) (k:=f.Degree) (a:=a) ω
 refine Zqi ω ω (ZjN ω (ZbF ω)) (by rw [Za5];omega) ?_
 rw [Za5,show (dig f.Prime f.Degree a).length=f.Degree.toNat by omega]
 exact e.w64
theorem Zuh {f:Ze} (hf:Fd f) {a b c:Int} (ha:0<=a) (s:a<=4096) (i:0<=b) (u:b<=4096) (l:0<=c) (e:c<=f.Prime):Zin f a b c=some (sumA f a b c):=by
 have:=hf.p2;have:=hf.p64;have:=hf.k1;have:=hf.k6
 have a3:=ZaG (p:=f.Prime) (k:=f.Degree) (a:=a) ω
 have a4:=ZaG (p:=f.Prime) (k:=f.Degree) (a:=b) ω
 unfold Zin
 rw [Zlo ha ω ω ω ω ω,Zlo i ω ω ω ω ω]
 show loop (Zgu f c (dig f.Prime f.Degree b)) (0,dig f.Prime f.Degree a)=_
 rw [Zex (p:=f.Prime) (c:=c) (off:=0) (ws:=dig f.Prime f.Degree b) ω ω fun j ys h v hy he=>by
  rw [Int.zero_add] at he ⊢
  obtain ⟨w,x⟩:=ZbF (p:=f.Prime) (k:=f.Degree) (a:=a) ω j h ω
  obtain ⟨o,y⟩:=ZbF (p:=f.Prime) (k:=f.Degree) (a:=b) ω j h ω
  obtain ⟨g5,g6⟩:=Zh0 l e o ω hf.p64
  have r:=Int.tmod_eq_emod_of_nonneg (b:=f.Prime) (a:=ix (dig f.Prime f.Degree a) j+c*ix (dig f.Prime f.Degree b) j) ω
  simp (disch:=omega) only [pz,Zgu,he,r]]
 refine Zc ?_
 simp (disch:=omega) only [pz,Zgu,Za5,ZrI hf a b c]
theorem ZHf {x y p:Int} (a:0<=x) (h1:0<=y) (hp:2<=p) (e:y<p):(x+-1*y+p)%p=(x+(p-1)*y)%p:=by
 have:x+(p-1)*y=(x+-1*y+p)+p*(y-1):=by
  rw [Int.sub_mul,Int.mul_sub,Int.one_mul];omega
 rw [this,Int.add_mul_emod_self_left]
theorem ZsQ {f:Ze} (hf:Fd f) {a b c s:Int} (ha:0<=a) (w:a<=4096) (i:0<=b) (x:b<=4096) (hs:(s=1/\c=1)\/(s=-1/\c=f.Prime-1)):Zit f a b s=some (sumA f a b c):=by
 have:=hf.p2;have:=hf.p64;have:=hf.k1;have:=hf.k6
 have a3:=ZaG (p:=f.Prime) (k:=f.Degree) (a:=a) ω
 have a4:=ZaG (p:=f.Prime) (k:=f.Degree) (a:=b) ω
 unfold Zit
 rw [ZgO ha ω ω ω ω ω,ZgO i ω ω ω ω ω]
 show loop (ZgG f s (dig f.Prime f.Degree a) (dig f.Prime f.Degree b)) (0,dig f.Prime f.Degree a)=_
 rw [Zex (p:=f.Prime) (c:=c) (off:=0) (ws:=dig f.Prime f.Degree b) ω ω fun j ys e y hy he=>by
  rw [Int.zero_add] at he ⊢
  obtain ⟨l,g2⟩:=ZbF (p:=f.Prime) (k:=f.Degree) (a:=a) ω j e ω
  obtain ⟨o,r⟩:=ZbF (p:=f.Prime) (k:=f.Degree) (a:=b) ω j e ω
  have hm:-64<=s*ix (dig f.Prime f.Degree b) j/\s*ix (dig f.Prime f.Degree b) j<=64/\0<=ix (dig f.Prime f.Degree a) j+s*ix (dig f.Prime f.Degree b) j+f.Prime:=by
   rcases hs with ⟨h,_⟩|⟨h,_⟩<;>subst h<;>omega
  have u:=Int.tmod_eq_emod_of_nonneg (b:=f.Prime) (a:=ix (dig f.Prime f.Degree a) j+s*ix (dig f.Prime f.Degree b) j+f.Prime) ω
  have v:(ix (dig f.Prime f.Degree a) j+s*ix (dig f.Prime f.Degree b) j+f.Prime)%f.Prime=(ix (dig f.Prime f.Degree a) j+c*ix (dig f.Prime f.Degree b) j)%f.Prime:=by
   rcases hs with ⟨h,h'⟩|⟨h,h'⟩<;>subst h<;>subst h'
   ·rw [Int.add_emod_right]
   ·exact ZHf l o ω r
  simp (disch:=omega) only [pz,ZgG,he,u,v]]
 refine Zc ?_
 simp (disch:=omega) only [pz,ZgG,Za5,ZqK,ZrI hf a b c]
theorem Ztt {xs:List Int} (h:(xs.length:Int)<=1048576):ZaY xs=some xs:=by
 unfold ZaY
 rw [ZaR (by simp;omega) (by simp;omega)]
 rfl
theorem ZbE {p:Int} {poly xs:List Int}:∀ m,(rstN p poly xs m).length=xs.length
 | 0=>rfl
 | m+1=>by show (axAt _ _ _ _ _).length=_;rw [Za5,ZbE m]
theorem Zgc {p:Int} {poly xs:List Int} (hp:2<=p) (a:In p xs):∀ m,In p (rstN p poly xs m)
 | 0=>a
 | m+1=>ZjN hp (Zgc hp a m)
theorem Zry {p:Int} {poly xs:List Int} {m:Int} (h:0<=m):rstN p poly xs (m+1).toNat=axAt p (p-ix (rstN p poly xs m.toNat) ((xs.length:Int)-1-m)) poly ((xs.length:Int)-1-m-((poly.length:Int)-1)) (rstN p poly xs m.toNat):=by
 rw [show (m+1).toNat=m.toNat+1 by omega]
 show axAt _ _ _ _ _=_
 rw [show (m.toNat:Int)=m by omega]
theorem ZzN {poly k:List Int} (u:(k.length:Int)<=1048576) (r:1<=(poly.length:Int)) (h:(poly.length:Int)-1<=k.length):loop (ρ:=(Int×List Int) ⊕ List Int) (ZcU poly) k=some (.inr (k.take ((poly.length:Int)-1).toNat)):=by
 have o:=Zj (B:=ZcU poly) (fun j=>k.take ((k.length:Int)-j).toNat) (i:=0) (n:=(k.length:Int)-((poly.length:Int)-1)) ω fun j f h1=>by
  have l:(k.take ((k.length:Int)-j).toNat).length=((k.length:Int)-j).toNat:=by rw [List.length_take];omega
  have e:(List.take ((((k.length:Int)-j).toNat:Int)-1).toNat (k.take ((k.length:Int)-j).toNat)).drop (0:Int).toNat=k.take ((k.length:Int)-(j+1)).toNat:=by
   rw [show (0:Int).toNat=0 from rfl,List.drop_zero,List.take_take]
   congr 1
   omega
  simp (disch:=omega) only [pz,ZcU,l,ZbG,e]
 have a:k=(fun j:Int=>k.take ((k.length:Int)-j).toNat) 0:=by simp
 conv=>lhs;rw [a]
 rw [o]
 refine Zc ?_
 have c:(k.length:Int)-((k.length:Int)-((poly.length:Int)-1))=(poly.length:Int)-1:=ω
 have l:(k.take ((poly.length:Int)-1).toNat).length=((poly.length:Int)-1).toNat:=by rw [List.length_take];omega
 simp (disch:=omega) only [pz,ZcU,c,l]
theorem ZC2 {p y:Int} {poly ys:List Int} (hp:2<=p) (f:p<=64) (hP:In p poly) (hy:In p ys) (hl:(ys.length:Int)<=4096) (h1:1<=(poly.length:Int)) (s:(poly.length:Int)-1<=y) (h:y<ys.length):
  Zbv poly p (y,ys)=some (.inl (y-1,axAt p (p-ix ys y) poly (y-((poly.length:Int)-1)) ys)):=by
 have hg:0<=y:=ω
 obtain ⟨u,v⟩:=hy y ω h
 simp (disch:=omega) only [pz,Zbv]
 rw [Zex (p:=p) (c:=p-ix ys y) (off:=y-((poly.length:Int)-1)) (ws:=poly) ω ω fun j zs i k hz he=>by
  obtain ⟨l,o⟩:=hP j i k
  obtain ⟨w,x⟩:=hy (y-((poly.length:Int)-1)+j) ω ω
  obtain ⟨g7,g8⟩:=Zh0 (a:=p-ix ys y) (b:=ix poly j) ω ω l (Int.le_of_lt o) f
  have r:=Int.tmod_eq_emod_of_nonneg (b:=p) (a:=ix ys (y-((poly.length:Int)-1)+j)+(p-ix ys y)*ix poly j) ω
  have e:y-(poly.length:Int)+1+j=y-((poly.length:Int)-1)+j:=ω
  simp (disch:=omega) only [pz,Zfk,e,he,r]]
 refine Zc ?_
 simp (disch:=omega) only [pz,Zfk]
theorem ZBP {p y:Int} {poly ys:List Int} (hp:2<=p) (e:p<=64) (hP:In p poly) (hy:In p ys) (hl:(ys.length:Int)<=4096) (h1:1<=(poly.length:Int)) (s:(poly.length:Int)-1<=y) (f:y<ys.length):
  ZbI poly p (y,ys)=some (.inl (y-1,axAt p (p-ix ys y) poly (y-((poly.length:Int)-1)) ys)):=by
 have hg:0<=y:=ω
 obtain ⟨u,v⟩:=hy y ω f
 simp (disch:=omega) only [pz,ZbI]
 rw [Zex (p:=p) (c:=p-ix ys y) (off:=y-((poly.length:Int)-1)) (ws:=poly) ω ω fun j zs h i hz he=>by
  obtain ⟨k,l⟩:=hP j h i
  obtain ⟨w,x⟩:=hy (y-((poly.length:Int)-1)+j) ω ω
  obtain ⟨g7,g8⟩:=Zh0 (a:=ix ys y) (b:=ix poly j) ω ω k (Int.le_of_lt l) e
  generalize hX:ix ys (y-((poly.length:Int)-1)+j)=X at *
  generalize hM:ix ys y*ix poly j=M at *
  have b1:=Int.lt_tmod_of_pos (X-M) (by omega:(0:Int)<p)
  have b2:=Int.tmod_lt_of_pos (X-M) (by omega:(0:Int)<p)
  have o:=Int.tmod_eq_emod_of_nonneg (b:=p) (a:=(X-M).tmod p+p) ω
  have r:((X-M).tmod p+p)%p=(X+(p-ix ys y)*ix poly j)%p:=by
   rw [Int.add_emod_right,Int.sub_mul,hM]
   have h9:=Int.mul_tdiv_add_tmod (X-M) p
   have:(X+(p*ix poly j-M))=(X-M).tmod p+p*((X-M).tdiv p+ix poly j):=by
    rw [Int.mul_add];omega
   rw [this,Int.add_mul_emod_self_left]
  simp (disch:=omega) only [pz,Zev,he,hM,o,r]]
 refine Zc ?_
 simp (disch:=omega) only [pz,Zev]
theorem ZGb {p:Int} {poly xs:List Int} (hp:2<=p) (a:p<=64) (r:In p poly) (c:In p xs) (u:(xs.length:Int)<=4096) (h1:1<=(poly.length:Int)) (j:(poly.length:Int)-1<=xs.length):
  ZdX xs poly p=some ((rstN p poly xs ((xs.length:Int)-((poly.length:Int)-1)).toNat).take ((poly.length:Int)-1).toNat):=by
 unfold ZdX
 rw [Ztt ω]
 show loop (Zbv poly p) (IntKind.i64.wrap ((xs.length:Int)-1),xs)=_
 rw [wr64 ω ω]
 have l:=Zj (B:=Zbv poly p) (fun m=>((xs.length:Int)-1-m,rstN p poly xs m.toNat)) (i:=0) (n:=(xs.length:Int)-((poly.length:Int)-1)) ω fun m e k=>by
  have o:=ZbE (p:=p) (poly:=poly) (xs:=xs) m.toNat
  show Zbv poly p ((xs.length:Int)-1-m,_)=_
  rw [ZC2 hp a r (Zgc hp c _) ω h1 ω ω,Zry e,show (xs.length:Int)-1-(m+1)=(xs.length:Int)-1-m-1 by omega]
 have f:((xs.length:Int)-1,xs)=(fun m:Int=>((xs.length:Int)-1-m,rstN p poly xs m.toNat)) 0:=by
  show _=((xs.length:Int)-1-0,xs)
  rw [Int.sub_zero]
 rw [f,l]
 refine Zc ?_
 have o:=ZbE (p:=p) (poly:=poly) (xs:=xs) ((xs.length:Int)-((poly.length:Int)-1)).toNat
 have h:(xs.length:Int)-1-((xs.length:Int)-((poly.length:Int)-1))=(poly.length:Int)-2:=ω
 simp (disch:=omega) only [pz,Zbv,h]
 rw [ZzN ω h1 ω]
theorem Zzm {p:Int} {poly xs:List Int} (hp:2<=p) (a:p<=64) (r:In p poly) (c:In p xs) (u:(xs.length:Int)<=4096) (h1:1<=(poly.length:Int)) (j:(poly.length:Int)-1<=xs.length):
  Zdy xs poly p=some ((rstN p poly xs ((xs.length:Int)-((poly.length:Int)-1)).toNat).take ((poly.length:Int)-1).toNat):=by
 unfold Zdy
 rw [ZjL ω]
 show loop (ZbI poly p) (IntKind.i64.wrap ((xs.length:Int)-1),xs)=_
 rw [wr64 ω ω]
 have l:=Zj (B:=ZbI poly p) (fun m=>((xs.length:Int)-1-m,rstN p poly xs m.toNat)) (i:=0) (n:=(xs.length:Int)-((poly.length:Int)-1)) ω fun m e k=>by
  have o:=ZbE (p:=p) (poly:=poly) (xs:=xs) m.toNat
  show ZbI poly p ((xs.length:Int)-1-m,_)=_
  rw [ZBP hp a r (Zgc hp c _) ω h1 ω ω,Zry e,show (xs.length:Int)-1-(m+1)=(xs.length:Int)-1-m-1 by omega]
 have f:((xs.length:Int)-1,xs)=(fun m:Int=>((xs.length:Int)-1-m,rstN p poly xs m.toNat)) 0:=by
  show _=((xs.length:Int)-1-0,xs)
  rw [Int.sub_zero]
 rw [f,l]
 refine Zc ?_
 have o:=ZbE (p:=p) (poly:=poly) (xs:=xs) ((xs.length:Int)-((poly.length:Int)-1)).toNat
 have h:(xs.length:Int)-1-((xs.length:Int)-((poly.length:Int)-1))=(poly.length:Int)-2:=ω
 simp (disch:=omega) only [pz,ZbI,h,o,ite_f,ZbG]
 rfl
def mulA (f:Ze) (a b:Int):Int:=
 nm f.Prime ((rstN f.Prime f.Poly (cnvN f.Prime (dig f.Prime f.Degree a) (dig f.Prime f.Degree b) (List.replicate (2*f.Degree-1).toNat 0) f.Degree.toNat) (f.Degree-1).toNat).take f.Degree.toNat)
theorem Zbm {p:Int} {as bs xs:List Int}:∀ m,(cnvN p as bs xs m).length=xs.length
 | 0=>rfl
 | m+1=>by show (axAt _ _ _ _ _).length=_;rw [Za5,Zbm m]
theorem Zcj {p:Int} {as bs xs:List Int} (hp:2<=p) (a:In p xs):∀ m,In p (cnvN p as bs xs m)
 | 0=>a
 | m+1=>ZjN hp (Zcj hp a m)
theorem ZsZ {p:Int} {as bs xs:List Int} {m:Int} (h:0<=m):cnvN p as bs xs (m+1).toNat=axAt p (ix as m) bs m (cnvN p as bs xs m.toNat):=by
 rw [show (m+1).toNat=m.toNat+1 by omega]
 show axAt _ _ _ _ _=_
 rw [show (m.toNat:Int)=m by omega]
theorem Zhv {p n:Int} (hp:2<=p):In p (List.replicate n.toNat 0):=fun i a h1=>by
 rw [List.length_replicate] at h1
 rw [Zcg a h1];omega
theorem ZqC {p:Int} {xs:List Int} {n:Int} (h:In p xs):In p (xs.take n.toNat):=fun i a h1=>by
 rw [List.length_take] at h1
 rw [Zct a ω]
 exact h i a ω
theorem ZBj {f:Ze} (hf:Fd f) {as bs ys:List Int} {i:Int} (ha:In f.Prime as) (e:In f.Prime bs) (hy:In f.Prime ys) (hl:(ys.length:Int)<=4096) (h:0<=i) (h1:i<as.length) (v:i+(bs.length:Int)<=ys.length):
  ZdA f as bs (i,ys)=some (.inl (i+1,axAt f.Prime (ix as i) bs i ys)):=by
 have:=hf.p2;have:=hf.p64
 obtain ⟨w,k⟩:=ha i h h1
 simp (disch:=omega) only [pz,ZdA]
 rw [Zex (p:=f.Prime) (c:=ix as i) (off:=i) (ws:=bs) ω ω fun j zs l o hz he=>by
  obtain ⟨r,s⟩:=e j l o
  obtain ⟨x,y⟩:=hy (i+j) ω ω
  obtain ⟨g7,g8⟩:=Zh0 (a:=ix as i) (b:=ix bs j) ω (Int.le_of_lt k) r (Int.le_of_lt s) hf.p64
  have u:=Int.tmod_eq_emod_of_nonneg (b:=f.Prime) (a:=ix ys (i+j)+ix as i*ix bs j) ω
  simp (disch:=omega) only [pz,Zi6,he,u]]
 refine Zc ?_
 simp (disch:=omega) only [pz,Zi6]
theorem ZB9 {f:Ze} (hf:Fd f) {as bs ys:List Int} {i:Int} (ha:In f.Prime as) (e:In f.Prime bs) (hy:In f.Prime ys) (hl:(ys.length:Int)<=4096) (h:0<=i) (h1:i<as.length) (v:i+(bs.length:Int)<=ys.length):
  ZdM f as bs (i,ys)=some (.inl (i+1,axAt f.Prime (ix as i) bs i ys)):=by
 have:=hf.p2;have:=hf.p64
 obtain ⟨w,k⟩:=ha i h h1
 simp (disch:=omega) only [pz,ZdM]
 rw [Zex (p:=f.Prime) (c:=ix as i) (off:=i) (ws:=bs) ω ω fun j zs l o hz he=>by
  obtain ⟨r,s⟩:=e j l o
  obtain ⟨x,y⟩:=hy (i+j) ω ω
  obtain ⟨g7,g8⟩:=Zh0 (a:=ix as i) (b:=ix bs j) ω (Int.le_of_lt k) r (Int.le_of_lt s) hf.p64
  have u:=Int.tmod_eq_emod_of_nonneg (b:=f.Prime) (a:=ix ys (i+j)+ix as i*ix bs j) ω
  simp (disch:=omega) only [pz,Zjn,he,u]]
 refine Zc ?_
 simp (disch:=omega) only [pz,Zjn]
theorem Zty {f:Ze} (e:Fd f) (a b:Int):Zbi ((rstN f.Prime f.Poly (cnvN f.Prime (dig f.Prime f.Degree a) (dig f.Prime f.Degree b) (List.replicate (2*f.Degree-1).toNat 0) f.Degree.toNat) (f.Degree-1).toNat).take f.Degree.toNat) f.Prime=some (mulA f a b):=by
 have:=e.p2;have:=e.p64;have:=e.k1;have:=e.k6
 have h:((rstN f.Prime f.Poly (cnvN f.Prime (dig f.Prime f.Degree a) (dig f.Prime f.Degree b) (List.replicate (2*f.Degree-1).toNat 0) f.Degree.toNat) (f.Degree-1).toNat).take f.Degree.toNat).length=f.Degree.toNat:=by
  rw [List.length_take,ZbE,Zbm,List.length_replicate];omega
 refine Zqi ω ω (ZqC (Zgc ω (Zcj ω (Zhv ω) _) _)) ω ?_
 rw [h]
 exact e.w64
theorem ZlN {f:Ze} (o:Fd f) {a b:Int} (y:0<=a) (j:a<=4096) (e:0<=b) (l:b<=4096):ZfU f a b=some (mulA f a b):=by
 have:=o.p2;have:=o.p64;have:=o.k1;have:=o.k6;have a1:=o.pl
 have a0:=ZaG (p:=f.Prime) (k:=f.Degree) (a:=a) ω
 have a3:=ZaG (p:=f.Prime) (k:=f.Degree) (a:=b) ω
 unfold ZfU
 rw [Zlo y ω ω ω ω ω,Zlo e ω ω ω ω ω]
 simp (disch:=omega) only [pz,Zau]
 have r:=Zhv (p:=f.Prime) (n:=2*f.Degree-1) ω
 have a2:(List.replicate (2*f.Degree-1).toNat (0:Int)).length=(2*f.Degree-1).toNat:=List.length_replicate
 have u:=Zj (B:=ZdA f (dig f.Prime f.Degree a) (dig f.Prime f.Degree b)) (fun i=>(i,cnvN f.Prime (dig f.Prime f.Degree a) (dig f.Prime f.Degree b) (List.replicate (2*f.Degree-1).toNat 0) i.toNat)) (i:=0) (n:=f.Degree) ω fun i c h1=>by
  have x:=Zbm (p:=f.Prime) (as:=dig f.Prime f.Degree a) (bs:=dig f.Prime f.Degree b) (xs:=List.replicate (2*f.Degree-1).toNat 0) i.toNat
  show ZdA _ _ _ (i,_)=_
  rw [ZBj o (ZbF ω) (ZbF ω) (Zcj ω r _) ω c ω ω,ZsZ c]
 have h:((0:Int),List.replicate (2*f.Degree-1).toNat (0:Int))=(fun i:Int=>(i,cnvN f.Prime (dig f.Prime f.Degree a) (dig f.Prime f.Degree b) (List.replicate (2*f.Degree-1).toNat 0) i.toNat)) 0:=rfl
 rw [h,u]
 refine Zc ?_
 have x:=Zbm (p:=f.Prime) (as:=dig f.Prime f.Degree a) (bs:=dig f.Prime f.Degree b) (xs:=List.replicate (2*f.Degree-1).toNat 0) f.Degree.toNat
 have w:=ZGb (p:=f.Prime) (poly:=f.Poly) (xs:=cnvN f.Prime (dig f.Prime f.Degree a) (dig f.Prime f.Degree b) (List.replicate (2*f.Degree-1).toNat 0) f.Degree.toNat) ω ω o.rng (Zcj ω r _) ω ω ω
 rw [show ((cnvN f.Prime (dig f.Prime f.Degree a) (dig f.Prime f.Degree b) (List.replicate (2*f.Degree-1).toNat 0) f.Degree.toNat).length:Int)-((f.Poly.length:Int)-1)=f.Degree-1 by omega,show (f.Poly.length:Int)-1=f.Degree by omega] at w
 simp (disch:=omega) only [pz,ZdA,w,Zty o a b]
theorem Zvw {p c off z:Int} {ws xs:List Int} (h:off+(ws.length:Int)<=xs.length):axAt p c ws off (xs++[z])=axAt p c ws off xs++[z]:=by
 apply ZaH
 ·rw [Za5,List.length_append,List.length_append,Za5]
 ·intro i a e
  rw [Za5,List.length_append] at e
  have f:i<(xs.length:Int)+1:=by simpa using e
  unfold axAt
  rw [ZH a (by rw [List.length_append];exact e)]
  by_cases hi:i<(xs.length:Int)
  ·rw [ZoA a hi,ZoA a (by rw [Zl];omega),ZH a ω]
  ·rw [if_neg ω,Zk5 ω,Zk5 (by rw [Zl];omega),Zl]
   congr 2
theorem ZuH {p z:Int} {as bs xs:List Int} {k:Nat} (h:(k:Int)-1+(bs.length:Int)<=xs.length):∀ m,m<=k->cnvN p as bs (xs++[z]) m=cnvN p as bs xs m++[z]
 | 0,_=>rfl
 | m+1,hm=>by
  show axAt _ _ _ _ (cnvN p as bs (xs++[z]) m)=axAt _ _ _ _ _++[z]
  rw [ZuH h m ω,Zvw (by rw [Zbm];omega)]
theorem ZEp {p off:Int} {ws xs:List Int} (a:In p xs):axAt p p ws off xs=xs:=by
 refine Eq.trans (ZM fun i c e=>?_) (Zbg xs)
 obtain ⟨h1,f⟩:=a i c e
 split
 ·rw [Int.add_mul_emod_self_left,Int.emod_eq_of_lt h1 f]
 ·rfl
theorem Zrr {p:Int} {poly xs:List Int} (hp:2<=p) (c:In p xs) (a:In p (xs++[0])) (h1:1<=(poly.length:Int)):∀ m:Nat,(m:Int)+((poly.length:Int)-1)<=xs.length->rstN p poly (xs++[0]) (m+1)=rstN p poly xs m++[0]
 | 0,h=>by
  show axAt p (p-ix (xs++[0]) _) _ _ (xs++[0])=xs++[0]
  rw [Zk5 (by rw [List.length_append];simp),List.length_append]
  rw [show (((xs.length+[(0:Int)].length:Nat):Int)-1-((0:Nat):Int)-(xs.length:Int))=0 by simp,ZvK,Int.sub_zero,ZEp a]
 | m+1,h=>by
  have e:=ZbE (p:=p) (poly:=poly) (xs:=xs) m
  show axAt p (p-ix (rstN p poly (xs++[0]) (m+1)) _) poly _ (rstN p poly (xs++[0]) (m+1))=axAt _ _ _ _ _++[0]
  rw [Zrr hp c a h1 m ω,List.length_append]
  rw [show (((xs.length+[(0:Int)].length:Nat):Int)-1-((m+1:Nat):Int))=(xs.length:Int)-1-(m:Int) by simp;omega]
  rw [ZoA ω ω,Zvw ω]
theorem ZA8 {f:Ze} (u:Fd f) {a b:Int} (ha:0<=a) (o:a<=4096) (h:0<=b) (r:b<=4096):ZkU f a b=some (mulA f a b):=by
 have:=u.p2;have:=u.p64;have:=u.k1;have:=u.k6;have a5:=u.pl
 have a4:=ZaG (p:=f.Prime) (k:=f.Degree) (a:=a) ω
 have a8:=ZaG (p:=f.Prime) (k:=f.Degree) (a:=b) ω
 unfold ZkU
 rw [ZgO ha ω ω ω ω ω,ZgO h ω ω ω ω ω]
 simp (disch:=omega) only [pz,Zau]
 have a1:=Zhv (p:=f.Prime) (n:=2*f.Degree-1) ω
 have c:=Zhv (p:=f.Prime) (n:=2*f.Degree) ω
 have a7:(List.replicate (2*f.Degree).toNat (0:Int)).length=(2*f.Degree).toNat:=List.length_replicate
 have j:(List.replicate (2*f.Degree-1).toNat (0:Int)).length=(2*f.Degree-1).toNat:=List.length_replicate
 have w:List.replicate (2*f.Degree).toNat (0:Int)=List.replicate (2*f.Degree-1).toNat 0++[0]:=by
  rw [show (2*f.Degree).toNat=(2*f.Degree-1).toNat+1 by omega,List.replicate_succ']
 have a0:=Zj (B:=ZdM f (dig f.Prime f.Degree a) (dig f.Prime f.Degree b)) (fun i=>(i,cnvN f.Prime (dig f.Prime f.Degree a) (dig f.Prime f.Degree b) (List.replicate (2*f.Degree).toNat 0) i.toNat)) (i:=0) (n:=f.Degree) ω fun i e h1=>by
  have hL:=Zbm (p:=f.Prime) (as:=dig f.Prime f.Degree a) (bs:=dig f.Prime f.Degree b) (xs:=List.replicate (2*f.Degree).toNat 0) i.toNat
  show ZdM _ _ _ (i,_)=_
  rw [ZB9 u (ZbF ω) (ZbF ω) (Zcj ω c _) ω e ω ω,ZsZ e]
 have l:((0:Int),List.replicate (2*f.Degree).toNat (0:Int))=(fun i:Int=>(i,cnvN f.Prime (dig f.Prime f.Degree a) (dig f.Prime f.Degree b) (List.replicate (2*f.Degree).toNat 0) i.toNat)) 0:=rfl
 rw [l,a0]
 refine Zc ?_
 have hL:=Zbm (p:=f.Prime) (as:=dig f.Prime f.Degree a) (bs:=dig f.Prime f.Degree b) (xs:=List.replicate (2*f.Degree).toNat 0) f.Degree.toNat
 have x:=Zzm (p:=f.Prime) (poly:=f.Poly) (xs:=cnvN f.Prime (dig f.Prime f.Degree a) (dig f.Prime f.Degree b) (List.replicate (2*f.Degree).toNat 0) f.Degree.toNat) ω ω u.rng (Zcj ω c _) ω ω ω
 rw [show ((cnvN f.Prime (dig f.Prime f.Degree a) (dig f.Prime f.Degree b) (List.replicate (2*f.Degree).toNat 0) f.Degree.toNat).length:Int)-((f.Poly.length:Int)-1)=f.Degree by omega,show (f.Poly.length:Int)-1=f.Degree by omega] at x
 have y:=ZuH (p:=f.Prime) (z:=0) (as:=dig f.Prime f.Degree a) (bs:=dig f.Prime f.Degree b) (xs:=List.replicate (2*f.Degree-1).toNat 0) (k:=f.Degree.toNat) ω f.Degree.toNat (Nat.le_refl _)
 have a6:=Zbm (p:=f.Prime) (as:=dig f.Prime f.Degree a) (bs:=dig f.Prime f.Degree b) (xs:=List.replicate (2*f.Degree-1).toNat 0) f.Degree.toNat
 have hB:=Zrr (p:=f.Prime) (poly:=f.Poly) ω (Zcj (p:=f.Prime) (as:=dig f.Prime f.Degree a) (bs:=dig f.Prime f.Degree b) ω a1 f.Degree.toNat) (by rw [<-y,<-w];exact Zcj ω c _) ω (f.Degree-1).toNat ω
 rw [<-w] at y
 rw [show (f.Degree-1).toNat+1=f.Degree.toNat by omega] at hB
 rw [y] at x ⊢
 rw [hB,List.take_append_of_le_length (by rw [ZbE];omega)] at x
 simp (disch:=omega) only [pz,ZdM,x,ZqK,Zty u a b]
noncomputable def gx (xs:List Int):Nat->Int:=List.rec (fun _=>0) (fun a _ e n=>Nat.rec a (fun m _=>e m) n) xs
theorem gx_ok:∀ (xs:List Int) (n:Nat),gx xs n=ix xs (n:Int)
 | [],n=>by simp [gx,ix]
 | a::xs,0=>rfl
 | a::xs,n+1=>by
  show gx xs n=_
  rw [gx_ok xs n,ZdW ω]
  congr 1
  omega
theorem ZmH {α:Type} {n:Nat} {f:Int->α}:tabl ((n+1:Nat):Int) f=f 0::tabl (n:Int) fun i=>f (i+1):=by
 unfold tabl
 rw [show (((n+1:Nat):Int)).toNat=n+1 by omega,List.range_succ_eq_map,List.map_cons,List.map_map]
 congr 1
noncomputable def axR (p c:Int) (ws:List Int):List Int->List Int:=List.rec (fun xs=>xs) (fun w _ a xs=>List.rec [] (fun x xs _=>Int.emod (Int.add x (Int.mul c w)) p::a xs) xs) ws
noncomputable def axE (p c:Int) (ws:List Int) (off:Nat):List Int->List Int:=Nat.rec (axR p c ws) (fun _ a xs=>List.rec [] (fun x xs _=>x::a xs) xs) off
theorem ZoZ {p c:Int}:∀ (ws xs:List Int),ws.length<=xs.length->axR p c ws xs=axAt p c ws 0 xs
 | [],xs,_=>by
  show xs=_
  refine (Zbg xs).symm.trans (ZM fun i a e=>?_)
  rw [if_neg (by rw [show (([]:List Int).length:Int)=0 from rfl];omega)]
 | w::ws,[],h=>by simp at h
 | w::ws,x::xs,h=>by
  show ((x+c*w)%p)::axR p c ws xs=_
  rw [ZoZ ws xs (by simpa using h)]
  unfold axAt
  rw [show (((x::xs).length:Nat):Int)=((xs.length+1:Nat):Int) from rfl,ZmH]
  congr 1
  ·rw [if_pos (by rw [show (((w::ws).length:Nat):Int)=(ws.length:Int)+1 by simp];omega)];rfl
  ·refine ZM fun i a e=>?_
   rw [show (((w::ws).length:Nat):Int)=(ws.length:Int)+1 by simp]
   by_cases hi:i<(ws.length:Int)
   ·rw [if_pos ω,if_pos ω,ZdW ω,ZdW ω,show i+1-1=i by omega,show i+1-0-1=i-0 by omega]
   ·rw [if_neg ω,if_neg ω,ZdW ω,show i+1-1=i by omega]
theorem ZoH {p c:Int} {ws:List Int}:∀ (off:Nat) (xs:List Int),off+ws.length<=xs.length->axE p c ws off xs=axAt p c ws (off:Int) xs
 | 0,xs,h=>ZoZ ws xs ω
 | off+1,[],h=>by simp at h
 | off+1,x::xs,h=>by
  show x::axE p c ws off xs=_
  rw [ZoH off xs (by simp at h;omega)]
  unfold axAt
  rw [show (((x::xs).length:Nat):Int)=((xs.length+1:Nat):Int) from rfl,ZmH]
  congr 1
  refine ZM fun i a e=>?_
  by_cases hi:(off:Int)<=i/\i<(off:Int)+(ws.length:Int)
  ·rw [if_pos hi,if_pos ω,ZdW ω,show i+1-1=i by omega,show i+1-((off+1:Nat):Int)=i-(off:Int) by omega]
  ·rw [if_neg hi,if_neg ω,ZdW ω,show i+1-1=i by omega]
noncomputable def digE (p:Int) (k:Nat):Int->List Int:=Nat.rec (fun _=>[]) (fun _ e a=>Frc.frc (Int.ediv a p) fun h=>Int.emod a p::e h) k
theorem ZuQ (p a:Int):∀ i:Nat,qd p a (i+1)=qd p (a/p) i
 | 0=>rfl
 | i+1=>by show qd p a (i+1)/p=_;rw [ZuQ p a i];rfl
theorem ZhJ {p:Int}:∀ (k:Nat) (a:Int),digE p k a=dig p (k:Int) a
 | 0,a=>rfl
 | k+1,a=>by
  show Frc.frc (Int.ediv a p) _=_
  rw [Frc.ok]
  show (a%p)::digE p k (a/p)=_
  rw [ZhJ k (a/p)]
  unfold dig
  rw [ZmH]
  congr 1
  refine ZM fun i c e=>?_
  rw [show (i+1).toNat=i.toNat+1 by omega,ZuQ]
noncomputable def nmE (p:Int) (xs:List Int):Int:=List.rec 0 (fun d _ r=>Int.add (Int.mul r p) d) xs
theorem Zuw {p d:Int} {a:List Int}:∀ m:Nat,m<=a.length->nmN p (d::a) m=nmN p a m
 | 0,_=>rfl
 | m+1,h=>by
  show nmN p (d::a) m*p+ix (d::a) _=nmN p a m*p+ix a _
  rw [Zuw m ω,ZdW (by simp;omega)]
  congr 2
  simp;omega
theorem Zmo {p:Int}:∀ xs:List Int,nmE p xs=nm p xs
 | []=>rfl
 | d::ds=>by
  show nmE p ds*p+d=nmN p (d::ds) (ds.length+1)
  show nmE p ds*p+d=nmN p (d::ds) ds.length*p+ix (d::ds) _
  rw [Zuw _ (Nat.le_refl _),Zmo ds,show (((d::ds).length:Nat):Int)-1-(ds.length:Int)=0 by simp,ZvK]
  rfl
noncomputable def sumE (p:Int) (k:Nat) (a b c:Int):Int:=Frc.frc (digE p k a) fun as=>Frc.frc (digE p k b) fun bs=>Frc.frc (axR p c bs as) fun xs=>nmE p xs
noncomputable def cnvE (p:Int) (as bs xs:List Int) (m:Nat):List Int:=Nat.rec xs (fun i r=>axE p (gx as i) bs i r) m
noncomputable def rstE (p:Int) (poly:List Int) (l k:Nat) (xs:List Int) (m:Nat):List Int:=Nat.rec xs (fun m r=>Frc.frc r fun a=>Frc.frc (Int.sub p (gx a (Nat.sub (Nat.sub l 1) m))) fun c=>axE p c poly (Nat.sub (Nat.sub (Nat.sub l 1) m) k) a) m
noncomputable def tkE (n:Nat):List Int->List Int:=Nat.rec (fun _=>[]) (fun _ a xs=>List.rec [] (fun x xs _=>x::a xs) xs) n
theorem Zr2:∀ (n:Nat) (xs:List Int),tkE n xs=xs.take n
 | 0,xs=>rfl
 | n+1,[]=>rfl
 | n+1,x::xs=>by show x::tkE n xs=_;rw [Zr2 n xs];rfl
noncomputable def rpE (n:Nat):List Int:=Nat.rec [] (fun _ r=>0::r) n
theorem Zu1:∀ n:Nat,rpE n=List.replicate n 0
 | 0=>rfl
 | n+1=>by show 0::rpE n=_;rw [Zu1 n];rfl
noncomputable def mulE (p:Int) (k:Nat) (poly:List Int) (a b:Int):Int:=
 Frc.frc (digE p k a) fun as=>Frc.frc (digE p k b) fun bs=>
 Frc.frc (cnvE p as bs (rpE (Nat.sub (Nat.mul 2 k) 1)) k) fun xs=>Frc.frc (rstE p poly (Nat.sub (Nat.mul 2 k) 1) k xs (Nat.sub k 1)) fun e=>nmE p (tkE k e)
theorem Zqt {p:Int} {as bs xs:List Int}:∀ m:Nat,(m:Int)-1+(bs.length:Int)<=xs.length->cnvE p as bs xs m=cnvN p as bs xs m
 | 0,_=>rfl
 | m+1,h=>by
  show axE p (gx as m) bs m (cnvE p as bs xs m)=axAt _ _ _ _ _
  rw [Zqt m ω,ZoH m _ (by rw [Zbm];omega),gx_ok]
theorem Ztq {p:Int} {poly xs:List Int} {l k:Nat} (e:xs.length=l) (j:poly.length=k+1):∀ m:Nat,m+k<=l->rstE p poly l k xs m=rstN p poly xs m
 | 0,_=>rfl
 | m+1,h=>by
  show Frc.frc (rstE p poly l k xs m) _=axAt _ _ _ _ _
  rw [Frc.ok,Frc.ok,Ztq e j m ω,gx_ok]
  rw [ZoH _ _ (by rw [ZbE,e,j];show l-1-m-k+(k+1)<=l;omega)]
  rw [e,j]
  have a:((Nat.sub (Nat.sub l 1) m:Nat):Int)=(l:Int)-1-(m:Int):=by
   show ((l-1-m:Nat):Int)=_;omega
  have c:((Nat.sub (Nat.sub (Nat.sub l 1) m) k:Nat):Int)=(l:Int)-1-(m:Int)-(((k+1:Nat):Int)-1):=by
   show ((l-1-m-k:Nat):Int)=_;omega
  rw [a,c]
  rfl
theorem ZGd {f:Ze} (j:Fd f) {k:Nat} (h:f.Degree=(k:Int)) (a b c:Int):sumE f.Prime k a b c=sumA f a b c:=by
 unfold sumE sumA
 rw [Frc.ok,Frc.ok,Frc.ok,ZhJ,ZhJ,Zmo,h]
 rw [ZoZ _ _ (by
  have h1:=ZaG (p:=f.Prime) (k:=(k:Int)) (a:=a) ω
  have e:=ZaG (p:=f.Prime) (k:=(k:Int)) (a:=b) ω
  omega)]
theorem ZyF {f:Ze} (j:Fd f) {k:Nat} (l:f.Degree=(k:Int)) (a b:Int):mulE f.Prime k f.Poly a b=mulA f a b:=by
 have:=j.k1;have:=j.k6;have o:=j.pl
 have h1:=ZaG (p:=f.Prime) (k:=(k:Int)) (a:=a) ω
 have h:=ZaG (p:=f.Prime) (k:=(k:Int)) (a:=b) ω
 unfold mulE mulA
 rw [Frc.ok,Frc.ok,Frc.ok,Frc.ok,ZhJ,ZhJ,Zmo,l,Zr2,Zu1]
 have c:Nat.sub (Nat.mul 2 k) 1=(2*(k:Int)-1).toNat:=by show 2*k-1=_;omega
 have e:Nat.sub k 1=((k:Int)-1).toNat:=by show k-1=_;omega
 rw [c,e,Int.toNat_natCast]
 rw [Zqt k (by rw [List.length_replicate];omega)]
 rw [Ztq (by rw [Zbm,List.length_replicate]) ω _ ω]
set_option maxRecDepth 20000
noncomputable def allN (n:Nat) (f:Nat->Bool):Bool:=Nat.rec true (fun m r=>bif f m then r else false) n
theorem ZdG {f:Nat->Bool}:∀ {n:Nat},allN n f=true->∀ m,m<n->f m=true
 | 0,_,m,hm=>by omega
 | n+1,h,m,hm=>by
  have a:(bif f n then allN n f else false)=true:=h
  cases hf:f n with
  | false=>rw [hf] at a;cases a
  | true=>
   rw [hf] at a
   by_cases e:m=n
   ·rw [e];exact hf
   ·exact ZdG a m ω
noncomputable def ngE (p:Int) (k:Nat) (a:Int):Int:=sumE p k 0 a (Int.sub p 1)
noncomputable def eqb (a b:Bool):Bool:=Bool.rec (Bool.rec true false b) b a
theorem Zux {a b:Bool} (h:eqb a b=true):a=b:=by cases a<;>cases b<;>first|rfl|cases h
noncomputable def both (a b:Bool):Bool:=Bool.rec false b a
theorem Zdf {a b:Bool} (h:both a b=true):a=true/\b=true:=by cases a<;>cases b<;>first|exact ⟨rfl,rfl⟩|cases h
theorem Zdo {a b:Int} (h:eqi a b=true):a=b:=by rw [<-Zs] at h;simpa using h
theorem Zl8 {a b:Int}:eqi a b=true↔a=b:=by rw [<-Zs];simp
theorem ZGE {a b:Int}:lti a b=true↔a<b:=by rw [<-Zt];simp
noncomputable def chk (p:Int) (k:Nat) (poly e:List Int) (q:Nat):Bool:=
 allN q fun a=>allN (Nat.succ a) fun b=>Frc.frc (mulE p k poly (.ofNat a) (.ofNat b)) fun m=>
  both (eqi m (mulE p k poly (.ofNat b) (.ofNat a))) (both (eqb (eqi m 1) (eqi (.ofNat b) (gx e a))) (eqb (eqi m 1) (eqi (.ofNat a) (gx e b))))
noncomputable def chkN (p:Int) (k:Nat) (poly:List Int) (q:Nat):Bool:=
 allN q fun a=>Frc.frc (ngE p k (.ofNat a)) fun e=>allN q fun b=>both (Frc.frc (mulE p k poly (.ofNat a) (.ofNat b)) fun m=>eqi (mulE p k poly e (.ofNat b)) (ngE p k m))
  (Frc.frc (ngE p k (.ofNat b)) fun nb=>eqi (sumE p k (.ofNat a) (.ofNat b) (Int.sub p 1)) (sumE p k (.ofNat a) nb 1))
noncomputable def chk1 (p:Int) (k:Nat) (poly e:List Int) (q:Nat):Bool:=
 allN q fun a=>both (eqi (mulE p k poly 0 (.ofNat a)) 0) (both (eqi (sumE p k (.ofNat a) 0 (Int.sub p 1)) (.ofNat a)) (Nat.rec true (fun _ _=>both (lti 0 (gx e a)) (lti (gx e a) (.ofNat q))) a))
noncomputable def chk2 (p:Int) (k:Nat) (q:Nat):Bool:=both (eqi p 2) (allN q fun a=>eqi (ngE p k (.ofNat a)) (.ofNat a))
inductive GF:Int->Ze->Prop
 | f2:GF 2 ⟨2,1,[0,1]⟩
 | f3:GF 3 ⟨3,1,[0,1]⟩
 | f4:GF 4 ⟨2,2,[1,1,1]⟩
 | f5:GF 5 ⟨5,1,[0,1]⟩
 | f7:GF 7 ⟨7,1,[0,1]⟩
 | f8:GF 8 ⟨2,3,[1,1,0,1]⟩
 | f9:GF 9 ⟨3,2,[1,0,1]⟩
 | f11:GF 11 ⟨11,1,[0,1]⟩
 | f13:GF 13 ⟨13,1,[0,1]⟩
 | f16:GF 16 ⟨2,4,[1,1,0,0,1]⟩
 | f17:GF 17 ⟨17,1,[0,1]⟩
 | f19:GF 19 ⟨19,1,[0,1]⟩
 | f23:GF 23 ⟨23,1,[0,1]⟩
 | f25:GF 25 ⟨5,2,[2,0,1]⟩
 | f27:GF 27 ⟨3,3,[1,2,0,1]⟩
 | f29:GF 29 ⟨29,1,[0,1]⟩
 | f31:GF 31 ⟨31,1,[0,1]⟩
 | f32:GF 32 ⟨2,5,[1,0,1,0,0,1]⟩
 | f37:GF 37 ⟨37,1,[0,1]⟩
 | f41:GF 41 ⟨41,1,[0,1]⟩
 | f43:GF 43 ⟨43,1,[0,1]⟩
 | f47:GF 47 ⟨47,1,[0,1]⟩
 | f49:GF 49 ⟨7,2,[1,0,1]⟩
 | f53:GF 53 ⟨53,1,[0,1]⟩
 | f59:GF 59 ⟨59,1,[0,1]⟩
 | f61:GF 61 ⟨61,1,[0,1]⟩
 | f64:GF 64 ⟨2,6,[1,1,0,0,0,0,1]⟩
structure Ff (f:Ze) (q:Int) (inv:List Int):Prop where
 fd:Fd f
 pw:pwN f.Prime f.Degree.toNat=q
 q2:2<=q
 q64:q<=64
 comm:∀ a b,0<=a->a<q->0<=b->b<q->mulA f a b=mulA f b a
 neg:∀ a b,0<=a->a<q->0<=b->b<q->mulA f (sumA f 0 a (f.Prime-1)) b=sumA f 0 (mulA f a b) (f.Prime-1)
 sub:∀ a b,0<=a->a<q->0<=b->b<q->sumA f a b (f.Prime-1)=sumA f a (sumA f 0 b (f.Prime-1)) 1
 inv1:∀ a,1<=a->a<q->1<=ix inv a/\ix inv a<q
 inv2:∀ a b,0<=a->a<q->0<=b->b<q->(mulA f a b=1↔b=ix inv a)
 z1:∀ a,0<=a->a<q->mulA f 0 a=0
 z2:∀ a,0<=a->a<q->sumA f a 0 (f.Prime-1)=a
theorem ZvG {f:Ze} {q:Int} (h:Fd f) (a:pwN f.Prime f.Degree.toNat=q) {xs:List Int} (c:In f.Prime xs) (e:xs.length=f.Degree.toNat):0<=nm f.Prime xs/\nm f.Prime xs<q:=by
 have:=ZiU h.p2 c xs.length (Nat.le_refl _)
 unfold nm
 rw [e,a] at this
 rw [e]
 exact this
theorem Zj3 {f:Ze} {q:Int} (h:Fd f) (e:pwN f.Prime f.Degree.toNat=q) (a b c:Int):0<=sumA f a b c/\sumA f a b c<q:=by
 have:=h.p2;have:=h.k1
 refine ZvG h e (ZjN ω (ZbF ω)) ?_
 have:=ZaG (p:=f.Prime) (k:=f.Degree) (a:=a) ω
 rw [Za5];omega
theorem Zc3 {f:Ze} {q:Int} (e:Fd f) (c:pwN f.Prime f.Degree.toNat=q) (a b:Int):0<=mulA f a b/\mulA f a b<q:=by
 have:=e.p2;have:=e.k1
 refine ZvG e c (ZqC (Zgc ω (Zcj ω (Zhv ω) _) _)) ?_
 rw [List.length_take,ZbE,Zbm,List.length_replicate];omega
theorem ff_of {f:Ze} {q k:Nat} {a2:List Int} (hf:Fd f) (hk:f.Degree=(k:Int)) (v:pwN f.Prime k=q) (a5:2<=q) (w:q<=64) (h1:chk f.Prime k f.Poly a2 q=true) (x:chk1 f.Prime k f.Poly a2 q=true) (y:chkN f.Prime k f.Poly q=true\/chk2 f.Prime k q=true):Ff f q a2:=by
 have hM:∀ a b,mulE f.Prime k f.Poly a b=mulA f a b:=ZyF hf hk
 have hS:∀ a b c,sumE f.Prime k a b c=sumA f a b c:=ZGd hf hk
 have a8:pwN f.Prime f.Degree.toNat=(q:Int):=by rw [hk,Int.toNat_natCast];exact v
 have a3:∀ a b:Nat,a<q->b<=a->mulA f a b=mulA f b a/\(mulA f a b=1↔(b:Int)=ix a2 a)/\(mulA f a b=1↔(a:Int)=ix a2 b):=by
  intro a b ha l
  have h:=ZdG (ZdG h1 a ha) b ω
  simp only [Frc.ok] at h
  obtain ⟨o,e⟩:=Zdf h
  obtain ⟨e,p⟩:=Zdf e
  rw [hM,hM] at o
  have e:=Zux e
  have p:=Zux p
  rw [hM,gx_ok] at e
  rw [hM,gx_ok] at p
  refine ⟨Zdo o,?_,?_⟩
  ·rw [<-Zl8,<-Zl8 (a:=(b:Int))]
   exact ⟨fun h=>e.symm.trans h,fun h=>e.trans h⟩
  ·rw [<-Zl8,<-Zl8 (a:=(a:Int))]
   exact ⟨fun h=>p.symm.trans h,fun h=>p.trans h⟩
 have a1:∀ {a:Int},0<=a->a<(q:Int)->∃ n:Nat,a=(n:Int)/\n<q:=fun {a} h0 h1=>⟨a.toNat,by omega,by omega⟩
 have one:∀ a:Nat,a<q->mulA f 0 a=0/\sumA f a 0 (f.Prime-1)=a/\(1<=a->1<=ix a2 a/\ix a2 a<q):=by
  intro a ha
  obtain ⟨o,e⟩:=Zdf (ZdG x a ha)
  obtain ⟨e,p⟩:=Zdf e
  rw [hM] at o
  rw [hS] at e
  refine ⟨Zdo o,Zdo e,fun h=>?_⟩
  cases a with
  | zero=>omega
  | succ n=>
   obtain ⟨g4,u⟩:=Zdf (show both _ _=true from p)
   rw [gx_ok,ZGE] at g4 u
   exact ⟨by omega,u⟩
 have a7:∀ a b:Nat,a<q->b<q->mulA f (sumA f 0 a (f.Prime-1)) b=sumA f 0 (mulA f a b) (f.Prime-1)/\sumA f a b (f.Prime-1)=sumA f a (sumA f 0 b (f.Prime-1)) 1:=by
  intro a b ha l
  rcases y with h|h
  ·have h:=ZdG h a ha
   simp only [Frc.ok] at h
   have h:=ZdG h b l
   obtain ⟨o,e⟩:=Zdf h
   unfold ngE at o e
   simp only [hM,hS] at o e
   exact ⟨Zdo o,Zdo e⟩
  ·obtain ⟨o,e⟩:=Zdf h
   have hp:=Zdo o
   have ng:∀ a:Nat,a<q->sumA f 0 a (f.Prime-1)=a:=fun a ha=>by
    have:=Zdo (ZdG e a ha)
    unfold ngE at this
    rw [hS] at this
    exact this
   rw [ng a ha,ng b l]
   obtain ⟨m0,m1⟩:=Zc3 hf a8 a b
   obtain ⟨m,em,hm⟩:=a1 m0 m1
   rw [em,ng m hm]
   refine ⟨rfl,?_⟩
   rw [hp];rfl
 refine ⟨hf,a8,by omega,by omega,?_,?_,?_,?_,?_,?_,?_⟩
 ·intro a b j i r s
  obtain ⟨a,rfl,ha⟩:=a1 j i
  obtain ⟨b,rfl,l⟩:=a1 r s
  by_cases h:b<=a
  ·exact (a3 a b ha h).1
  ·exact (a3 b a l ω).1.symm
 ·intro a b j i r s
  obtain ⟨a,rfl,ha⟩:=a1 j i
  obtain ⟨b,rfl,l⟩:=a1 r s
  exact (a7 a b ha l).1
 ·intro a b j i r s
  obtain ⟨a,rfl,ha⟩:=a1 j i
  obtain ⟨b,rfl,l⟩:=a1 r s
  exact (a7 a b ha l).2
 ·intro a j i
  obtain ⟨a,rfl,ha⟩:=a1 ω i
  exact (one a ha).2.2 ω
 ·intro a b j i r s
  obtain ⟨a,rfl,ha⟩:=a1 j i
  obtain ⟨b,rfl,l⟩:=a1 r s
  by_cases h:b<=a
  ·exact (a3 a b ha h).2.1
  ·have:=a3 b a l ω
   rw [<-this.1]
   exact this.2.2
 ·intro a j i
  obtain ⟨a,rfl,ha⟩:=a1 j i
  exact (one a ha).1
 ·intro a j i
  obtain ⟨a,rfl,ha⟩:=a1 j i
  exact (one a ha).2.1
theorem ff2:Ff ⟨2,1,[0,1]⟩ 2 [(-1),1]:=by
 refine ff_of (q:=2) (k:=1) ⟨by decide,by decide,by decide,by decide,rfl,rfl,?_,by decide⟩ rfl (by decide) (by decide) (by decide) κ κ (.inr κ)
 intro i a h1
 rcases (show i=0\/i=1 by simp at h1;omega) with rfl|rfl<;>decide
theorem ff3:Ff ⟨3,1,[0,1]⟩ 3 [(-1),1,2]:=by
 refine ff_of (q:=3) (k:=1) ⟨by decide,by decide,by decide,by decide,rfl,rfl,?_,by decide⟩ rfl (by decide) (by decide) (by decide) κ κ (.inl κ)
 intro i a h1
 rcases (show i=0\/i=1 by simp at h1;omega) with rfl|rfl<;>decide
theorem ff4:Ff ⟨2,2,[1,1,1]⟩ 4 [(-1),1,3,2]:=by
 refine ff_of (q:=4) (k:=2) ⟨by decide,by decide,by decide,by decide,rfl,rfl,?_,by decide⟩ rfl (by decide) (by decide) (by decide) κ κ (.inr κ)
 intro i a h1
 rcases (show i=0\/i=1\/i=2 by simp at h1;omega) with rfl|rfl|rfl<;>decide
theorem ff5:Ff ⟨5,1,[0,1]⟩ 5 [(-1),1,3,2,4]:=by
 refine ff_of (q:=5) (k:=1) ⟨by decide,by decide,by decide,by decide,rfl,rfl,?_,by decide⟩ rfl (by decide) (by decide) (by decide) κ κ (.inl κ)
 intro i a h1
 rcases (show i=0\/i=1 by simp at h1;omega) with rfl|rfl<;>decide
theorem ff7:Ff ⟨7,1,[0,1]⟩ 7 [(-1),1,4,5,2,3,6]:=by
 refine ff_of (q:=7) (k:=1) ⟨by decide,by decide,by decide,by decide,rfl,rfl,?_,by decide⟩ rfl (by decide) (by decide) (by decide) κ κ (.inl κ)
 intro i a h1
 rcases (show i=0\/i=1 by simp at h1;omega) with rfl|rfl<;>decide
theorem ff8:Ff ⟨2,3,[1,1,0,1]⟩ 8 [(-1),1,5,6,7,2,3,4]:=by
 refine ff_of (q:=8) (k:=3) ⟨by decide,by decide,by decide,by decide,rfl,rfl,?_,by decide⟩ rfl (by decide) (by decide) (by decide) κ κ (.inr κ)
 intro i a h1
 rcases (show i=0\/i=1\/i=2\/i=3 by simp at h1;omega) with rfl|rfl|rfl|rfl<;>decide
theorem ff9:Ff ⟨3,2,[1,0,1]⟩ 9 [(-1),1,2,6,5,4,3,8,7]:=by
 refine ff_of (q:=9) (k:=2) ⟨by decide,by decide,by decide,by decide,rfl,rfl,?_,by decide⟩ rfl (by decide) (by decide) (by decide) κ κ (.inl κ)
 intro i a h1
 rcases (show i=0\/i=1\/i=2 by simp at h1;omega) with rfl|rfl|rfl<;>decide
theorem ff11:Ff ⟨11,1,[0,1]⟩ 11 [(-1),1,6,4,3,9,2,8,7,5,10]:=by
 refine ff_of (q:=11) (k:=1) ⟨by decide,by decide,by decide,by decide,rfl,rfl,?_,by decide⟩ rfl (by decide) (by decide) (by decide) κ κ (.inl κ)
 intro i a h1
 rcases (show i=0\/i=1 by simp at h1;omega) with rfl|rfl<;>decide
theorem ff13:Ff ⟨13,1,[0,1]⟩ 13 [(-1),1,7,9,10,8,11,2,5,3,4,6,12]:=by
 refine ff_of (q:=13) (k:=1) ⟨by decide,by decide,by decide,by decide,rfl,rfl,?_,by decide⟩ rfl (by decide) (by decide) (by decide) κ κ (.inl κ)
 intro i a h1
 rcases (show i=0\/i=1 by simp at h1;omega) with rfl|rfl<;>decide
theorem ff16:Ff ⟨2,4,[1,1,0,0,1]⟩ 16 [(-1),1,9,14,13,11,7,6,15,2,12,5,10,4,3,8]:=by
 refine ff_of (q:=16) (k:=4) ⟨by decide,by decide,by decide,by decide,rfl,rfl,?_,by decide⟩ rfl (by decide) (by decide) (by decide) κ κ (.inr κ)
 intro i a h1
 rcases (show i=0\/i=1\/i=2\/i=3\/i=4 by simp at h1;omega) with rfl|rfl|rfl|rfl|rfl<;>decide
theorem ff17:Ff ⟨17,1,[0,1]⟩ 17 [(-1),1,9,6,13,7,3,5,15,2,12,14,10,4,11,8,16]:=by
 refine ff_of (q:=17) (k:=1) ⟨by decide,by decide,by decide,by decide,rfl,rfl,?_,by decide⟩ rfl (by decide) (by decide) (by decide) κ κ (.inl κ)
 intro i a h1
 rcases (show i=0\/i=1 by simp at h1;omega) with rfl|rfl<;>decide
theorem ff19:Ff ⟨19,1,[0,1]⟩ 19 [(-1),1,10,13,5,4,16,11,12,17,2,7,8,3,15,14,6,9,18]:=by
 refine ff_of (q:=19) (k:=1) ⟨by decide,by decide,by decide,by decide,rfl,rfl,?_,by decide⟩ rfl (by decide) (by decide) (by decide) κ κ (.inl κ)
 intro i a h1
 rcases (show i=0\/i=1 by simp at h1;omega) with rfl|rfl<;>decide
theorem ff23:Ff ⟨23,1,[0,1]⟩ 23 [(-1),1,12,8,6,14,4,10,3,18,7,21,2,16,5,20,13,19,9,17,15,11,22]:=by
 refine ff_of (q:=23) (k:=1) ⟨by decide,by decide,by decide,by decide,rfl,rfl,?_,by decide⟩ rfl (by decide) (by decide) (by decide) κ κ (.inl κ)
 intro i a h1
 rcases (show i=0\/i=1 by simp at h1;omega) with rfl|rfl<;>decide
theorem ff25:Ff ⟨5,2,[2,0,1]⟩ 25 [(-1),1,3,2,4,10,17,22,23,18,5,14,21,24,11,20,19,6,9,16,15,12,7,8,13]:=by
 refine ff_of (q:=25) (k:=2) ⟨by decide,by decide,by decide,by decide,rfl,rfl,?_,by decide⟩ rfl (by decide) (by decide) (by decide) κ κ (.inl κ)
 intro i a h1
 rcases (show i=0\/i=1\/i=2 by simp at h1;omega) with rfl|rfl|rfl<;>decide
theorem ff27:Ff ⟨3,3,[1,2,0,1]⟩ 27 [(-1),1,2,19,21,24,11,12,15,25,23,6,7,22,18,8,20,26,14,3,16,4,13,10,5,9,17]:=by
 refine ff_of (q:=27) (k:=3) ⟨by decide,by decide,by decide,by decide,rfl,rfl,?_,by decide⟩ rfl (by decide) (by decide) (by decide) κ κ (.inl κ)
 intro i a h1
 rcases (show i=0\/i=1\/i=2\/i=3 by simp at h1;omega) with rfl|rfl|rfl|rfl<;>decide
theorem ff29:Ff ⟨29,1,[0,1]⟩ 29 [(-1),1,15,10,22,6,5,25,11,13,3,8,17,9,27,2,20,12,21,26,16,18,4,24,23,7,19,14,28]:=by
 refine ff_of (q:=29) (k:=1) ⟨by decide,by decide,by decide,by decide,rfl,rfl,?_,by decide⟩ rfl (by decide) (by decide) (by decide) κ κ (.inl κ)
 intro i a h1
 rcases (show i=0\/i=1 by simp at h1;omega) with rfl|rfl<;>decide
theorem ff31:Ff ⟨31,1,[0,1]⟩ 31 [(-1),1,16,21,8,25,26,9,4,7,28,17,13,12,20,29,2,11,19,18,14,3,24,27,22,5,6,23,10,15,30]:=by
 refine ff_of (q:=31) (k:=1) ⟨by decide,by decide,by decide,by decide,rfl,rfl,?_,by decide⟩ rfl (by decide) (by decide) (by decide) κ κ (.inl κ)
 intro i a h1
 rcases (show i=0\/i=1 by simp at h1;omega) with rfl|rfl<;>decide
theorem ff32:Ff ⟨2,5,[1,0,1,0,0,1]⟩ 32 [(-1),1,18,28,9,23,14,12,22,4,25,16,7,15,6,13,11,24,2,29,30,26,8,5,17,10,21,31,3,19,20,27]:=by
 refine ff_of (q:=32) (k:=5) ⟨by decide,by decide,by decide,by decide,rfl,rfl,?_,by decide⟩ rfl (by decide) (by decide) (by decide) κ κ (.inr κ)
 intro i a h1
 rcases (show i=0\/i=1\/i=2\/i=3\/i=4\/i=5 by simp at h1;omega) with rfl|rfl|rfl|rfl|rfl|rfl<;>decide
theorem ff37:Ff ⟨37,1,[0,1]⟩ 37 [(-1),1,19,25,28,15,31,16,14,33,26,27,34,20,8,5,7,24,35,2,13,30,32,29,17,3,10,11,4,23,21,6,22,9,12,18,36]:=by
 refine ff_of (q:=37) (k:=1) ⟨by decide,by decide,by decide,by decide,rfl,rfl,?_,by decide⟩ rfl (by decide) (by decide) (by decide) κ κ (.inl κ)
 intro i a h1
 rcases (show i=0\/i=1 by simp at h1;omega) with rfl|rfl<;>decide
theorem ff41:Ff ⟨41,1,[0,1]⟩ 41 [(-1),1,21,14,31,33,7,6,36,32,37,15,24,19,3,11,18,29,16,13,39,2,28,25,12,23,30,38,22,17,26,4,9,5,35,34,8,10,27,20,40]:=by
 refine ff_of (q:=41) (k:=1) ⟨by decide,by decide,by decide,by decide,rfl,rfl,?_,by decide⟩ rfl (by decide) (by decide) (by decide) κ κ (.inl κ)
 intro i a h1
 rcases (show i=0\/i=1 by simp at h1;omega) with rfl|rfl<;>decide
theorem ff43:Ff ⟨43,1,[0,1]⟩ 43 [(-1),1,22,29,11,26,36,37,27,24,13,4,18,10,40,23,35,38,12,34,28,41,2,15,9,31,5,8,20,3,33,25,39,30,19,16,6,7,17,32,14,21,42]:=by
 refine ff_of (q:=43) (k:=1) ⟨by decide,by decide,by decide,by decide,rfl,rfl,?_,by decide⟩ rfl (by decide) (by decide) (by decide) κ κ (.inl κ)
 intro i a h1
 rcases (show i=0\/i=1 by simp at h1;omega) with rfl|rfl<;>decide
theorem ff47:Ff ⟨47,1,[0,1]⟩ 47 [(-1),1,24,16,12,19,8,27,6,21,33,30,4,29,37,22,3,36,34,5,40,9,15,45,2,32,38,7,42,13,11,44,25,10,18,43,17,14,26,41,20,39,28,35,31,23,46]:=by
 refine ff_of (q:=47) (k:=1) ⟨by decide,by decide,by decide,by decide,rfl,rfl,?_,by decide⟩ rfl (by decide) (by decide) (by decide) κ κ (.inl κ)
 intro i a h1
 rcases (show i=0\/i=1 by simp at h1;omega) with rfl|rfl<;>decide
theorem ff49:Ff ⟨7,2,[1,0,1]⟩ 49 [(-1),1,4,5,2,3,6,42,25,34,15,20,29,24,21,10,37,18,17,40,11,14,47,26,13,8,23,44,35,12,33,48,43,30,9,28,45,16,39,38,19,46,7,32,27,36,41,22,31]:=by
 refine ff_of (q:=49) (k:=2) ⟨by decide,by decide,by decide,by decide,rfl,rfl,?_,by decide⟩ rfl (by decide) (by decide) (by decide) κ κ (.inl κ)
 intro i a h1
 rcases (show i=0\/i=1\/i=2 by simp at h1;omega) with rfl|rfl|rfl<;>decide
theorem ff53:Ff ⟨53,1,[0,1]⟩ 53 [(-1),1,27,18,40,32,9,38,20,6,16,29,31,49,19,46,10,25,3,14,8,48,41,30,42,17,51,2,36,11,23,12,5,45,39,50,28,43,7,34,4,22,24,37,47,33,15,44,21,13,35,26,52]:=by
 refine ff_of (q:=53) (k:=1) ⟨by decide,by decide,by decide,by decide,rfl,rfl,?_,by decide⟩ rfl (by decide) (by decide) (by decide) κ κ (.inl κ)
 intro i a h1
 rcases (show i=0\/i=1 by simp at h1;omega) with rfl|rfl<;>decide
theorem ff59:Ff ⟨59,1,[0,1]⟩ 59 [(-1),1,30,20,15,12,10,17,37,46,6,43,5,50,38,4,48,7,23,28,3,45,51,18,32,26,25,35,19,57,2,40,24,34,33,27,41,8,14,56,31,36,52,11,55,21,9,54,16,53,13,22,42,49,47,44,39,29,58]:=by
 refine ff_of (q:=59) (k:=1) ⟨by decide,by decide,by decide,by decide,rfl,rfl,?_,by decide⟩ rfl (by decide) (by decide) (by decide) κ κ (.inl κ)
 intro i a h1
 rcases (show i=0\/i=1 by simp at h1;omega) with rfl|rfl<;>decide
theorem ff61:Ff ⟨61,1,[0,1]⟩ 61 [(-1),1,31,41,46,49,51,35,23,34,55,50,56,47,48,57,42,18,17,45,58,32,25,8,28,22,54,52,24,40,59,2,21,37,9,7,39,33,53,36,29,3,16,44,43,19,4,13,14,5,11,6,27,38,26,10,12,15,20,30,60]:=by
 refine ff_of (q:=61) (k:=1) ⟨by decide,by decide,by decide,by decide,rfl,rfl,?_,by decide⟩ rfl (by decide) (by decide) (by decide) κ κ (.inl κ)
 intro i a h1
 rcases (show i=0\/i=1 by simp at h1;omega) with rfl|rfl<;>decide
theorem ff64:Ff ⟨2,6,[1,1,0,0,0,0,1]⟩ 64 [(-1),1,33,62,49,43,31,44,57,37,52,28,46,40,22,25,61,54,51,39,26,35,14,24,23,15,20,34,11,53,45,6,63,2,27,21,56,9,50,19,13,47,48,5,7,30,12,41,42,4,38,18,10,29,17,60,36,8,59,58,55,16,3,32]:=by
 refine ff_of (q:=64) (k:=6) ⟨by decide,by decide,by decide,by decide,rfl,rfl,?_,by decide⟩ rfl (by decide) (by decide) (by decide) κ κ (.inr κ)
 intro i a h1
 rcases (show i=0\/i=1\/i=2\/i=3\/i=4\/i=5\/i=6 by simp at h1;omega) with rfl|rfl|rfl|rfl|rfl|rfl|rfl<;>decide
theorem Zrn {q:Int} {f:Ze} (h:GF q f):∃ a,Ff f q a:=by
 cases h
 ·exact ⟨_,ff2⟩
 ·exact ⟨_,ff3⟩
 ·exact ⟨_,ff4⟩
 ·exact ⟨_,ff5⟩
 ·exact ⟨_,ff7⟩
 ·exact ⟨_,ff8⟩
 ·exact ⟨_,ff9⟩
 ·exact ⟨_,ff11⟩
 ·exact ⟨_,ff13⟩
 ·exact ⟨_,ff16⟩
 ·exact ⟨_,ff17⟩
 ·exact ⟨_,ff19⟩
 ·exact ⟨_,ff23⟩
 ·exact ⟨_,ff25⟩
 ·exact ⟨_,ff27⟩
 ·exact ⟨_,ff29⟩
 ·exact ⟨_,ff31⟩
 ·exact ⟨_,ff32⟩
 ·exact ⟨_,ff37⟩
 ·exact ⟨_,ff41⟩
 ·exact ⟨_,ff43⟩
 ·exact ⟨_,ff47⟩
 ·exact ⟨_,ff49⟩
 ·exact ⟨_,ff53⟩
 ·exact ⟨_,ff59⟩
 ·exact ⟨_,ff61⟩
 ·exact ⟨_,ff64⟩
structure Made (q:Int) (f:Ze):Prop where
 gf:GF q f
 split:ZbU q=some (f.Prime,f.Degree)
 mks:ZgV q=some f
 mki:ZbQ q=some (f,0)
 oks:Zg3 f=some true
 oki:Zhf f=some true
 szs:Za8 f=some q
 szi:Zba f=some q
def FldAt (q:Int):Prop:=(∃ f,Made q f)\/(ZbU q=some (0,0)/\∃ e,ZbQ q=some (⟨0,0,[]⟩,e))
theorem mk2:FldAt 2:=.inl ⟨_,.f2,Zp (F:=100) _ _ κ,Zaa (F:=100) _ _ κ,Zq (F:=100) _ _ κ,Z5 (F:=100) _ _ κ,Z9 (F:=100) _ _ κ,Z7 (F:=100) _ _ κ,Z8 (F:=100) _ _ κ⟩
theorem mk3:FldAt 3:=.inl ⟨_,.f3,Zp (F:=100) _ _ κ,Zaa (F:=100) _ _ κ,Zq (F:=100) _ _ κ,Z5 (F:=100) _ _ κ,Z9 (F:=100) _ _ κ,Z7 (F:=100) _ _ κ,Z8 (F:=100) _ _ κ⟩
theorem mk4:FldAt 4:=.inl ⟨_,.f4,Zp (F:=100) _ _ κ,Zaa (F:=100) _ _ κ,Zq (F:=100) _ _ κ,Z5 (F:=100) _ _ κ,Z9 (F:=100) _ _ κ,Z7 (F:=100) _ _ κ,Z8 (F:=100) _ _ κ⟩
theorem mk5:FldAt 5:=.inl ⟨_,.f5,Zp (F:=100) _ _ κ,Zaa (F:=100) _ _ κ,Zq (F:=100) _ _ κ,Z5 (F:=100) _ _ κ,Z9 (F:=100) _ _ κ,Z7 (F:=100) _ _ κ,Z8 (F:=100) _ _ κ⟩
theorem mk6:FldAt 6:=.inr ⟨Zp (F:=100) _ _ κ,_,Zq (F:=100) _ (⟨0,0,[]⟩,2) κ⟩
theorem mk7:FldAt 7:=.inl ⟨_,.f7,Zp (F:=100) _ _ κ,Zaa (F:=100) _ _ κ,Zq (F:=100) _ _ κ,Z5 (F:=100) _ _ κ,Z9 (F:=100) _ _ κ,Z7 (F:=100) _ _ κ,Z8 (F:=100) _ _ κ⟩
theorem mk8:FldAt 8:=.inl ⟨_,.f8,Zp (F:=100) _ _ κ,Zaa (F:=100) _ _ κ,Zq (F:=100) _ _ κ,Z5 (F:=100) _ _ κ,Z9 (F:=100) _ _ κ,Z7 (F:=100) _ _ κ,Z8 (F:=100) _ _ κ⟩
theorem mk9:FldAt 9:=.inl ⟨_,.f9,Zp (F:=100) _ _ κ,Zaa (F:=100) _ _ κ,Zq (F:=100) _ _ κ,Z5 (F:=100) _ _ κ,Z9 (F:=100) _ _ κ,Z7 (F:=100) _ _ κ,Z8 (F:=100) _ _ κ⟩
theorem mk10:FldAt 10:=.inr ⟨Zp (F:=100) _ _ κ,_,Zq (F:=100) _ (⟨0,0,[]⟩,2) κ⟩
theorem mk11:FldAt 11:=.inl ⟨_,.f11,Zp (F:=100) _ _ κ,Zaa (F:=100) _ _ κ,Zq (F:=100) _ _ κ,Z5 (F:=100) _ _ κ,Z9 (F:=100) _ _ κ,Z7 (F:=100) _ _ κ,Z8 (F:=100) _ _ κ⟩
theorem mk12:FldAt 12:=.inr ⟨Zp (F:=100) _ _ κ,_,Zq (F:=100) _ (⟨0,0,[]⟩,2) κ⟩
theorem mk13:FldAt 13:=.inl ⟨_,.f13,Zp (F:=100) _ _ κ,Zaa (F:=100) _ _ κ,Zq (F:=100) _ _ κ,Z5 (F:=100) _ _ κ,Z9 (F:=100) _ _ κ,Z7 (F:=100) _ _ κ,Z8 (F:=100) _ _ κ⟩
theorem mk14:FldAt 14:=.inr ⟨Zp (F:=100) _ _ κ,_,Zq (F:=100) _ (⟨0,0,[]⟩,2) κ⟩
theorem mk15:FldAt 15:=.inr ⟨Zp (F:=100) _ _ κ,_,Zq (F:=100) _ (⟨0,0,[]⟩,2) κ⟩
theorem mk16:FldAt 16:=.inl ⟨_,.f16,Zp (F:=100) _ _ κ,Zaa (F:=100) _ _ κ,Zq (F:=100) _ _ κ,Z5 (F:=100) _ _ κ,Z9 (F:=100) _ _ κ,Z7 (F:=100) _ _ κ,Z8 (F:=100) _ _ κ⟩
theorem mk17:FldAt 17:=.inl ⟨_,.f17,Zp (F:=100) _ _ κ,Zaa (F:=100) _ _ κ,Zq (F:=100) _ _ κ,Z5 (F:=100) _ _ κ,Z9 (F:=100) _ _ κ,Z7 (F:=100) _ _ κ,Z8 (F:=100) _ _ κ⟩
theorem mk18:FldAt 18:=.inr ⟨Zp (F:=100) _ _ κ,_,Zq (F:=100) _ (⟨0,0,[]⟩,2) κ⟩
theorem mk19:FldAt 19:=.inl ⟨_,.f19,Zp (F:=100) _ _ κ,Zaa (F:=100) _ _ κ,Zq (F:=100) _ _ κ,Z5 (F:=100) _ _ κ,Z9 (F:=100) _ _ κ,Z7 (F:=100) _ _ κ,Z8 (F:=100) _ _ κ⟩
theorem mk20:FldAt 20:=.inr ⟨Zp (F:=100) _ _ κ,_,Zq (F:=100) _ (⟨0,0,[]⟩,2) κ⟩
theorem mk21:FldAt 21:=.inr ⟨Zp (F:=100) _ _ κ,_,Zq (F:=100) _ (⟨0,0,[]⟩,2) κ⟩
theorem mk22:FldAt 22:=.inr ⟨Zp (F:=100) _ _ κ,_,Zq (F:=100) _ (⟨0,0,[]⟩,2) κ⟩
theorem mk23:FldAt 23:=.inl ⟨_,.f23,Zp (F:=100) _ _ κ,Zaa (F:=100) _ _ κ,Zq (F:=100) _ _ κ,Z5 (F:=100) _ _ κ,Z9 (F:=100) _ _ κ,Z7 (F:=100) _ _ κ,Z8 (F:=100) _ _ κ⟩
theorem mk24:FldAt 24:=.inr ⟨Zp (F:=100) _ _ κ,_,Zq (F:=100) _ (⟨0,0,[]⟩,2) κ⟩
theorem mk25:FldAt 25:=.inl ⟨_,.f25,Zp (F:=100) _ _ κ,Zaa (F:=100) _ _ κ,Zq (F:=100) _ _ κ,Z5 (F:=100) _ _ κ,Z9 (F:=100) _ _ κ,Z7 (F:=100) _ _ κ,Z8 (F:=100) _ _ κ⟩
theorem mk26:FldAt 26:=.inr ⟨Zp (F:=100) _ _ κ,_,Zq (F:=100) _ (⟨0,0,[]⟩,2) κ⟩
theorem mk27:FldAt 27:=.inl ⟨_,.f27,Zp (F:=100) _ _ κ,Zaa (F:=100) _ _ κ,Zq (F:=100) _ _ κ,Z5 (F:=100) _ _ κ,Z9 (F:=100) _ _ κ,Z7 (F:=100) _ _ κ,Z8 (F:=100) _ _ κ⟩
theorem mk28:FldAt 28:=.inr ⟨Zp (F:=100) _ _ κ,_,Zq (F:=100) _ (⟨0,0,[]⟩,2) κ⟩
theorem mk29:FldAt 29:=.inl ⟨_,.f29,Zp (F:=100) _ _ κ,Zaa (F:=100) _ _ κ,Zq (F:=100) _ _ κ,Z5 (F:=100) _ _ κ,Z9 (F:=100) _ _ κ,Z7 (F:=100) _ _ κ,Z8 (F:=100) _ _ κ⟩
theorem mk30:FldAt 30:=.inr ⟨Zp (F:=100) _ _ κ,_,Zq (F:=100) _ (⟨0,0,[]⟩,2) κ⟩
theorem mk31:FldAt 31:=.inl ⟨_,.f31,Zp (F:=100) _ _ κ,Zaa (F:=100) _ _ κ,Zq (F:=100) _ _ κ,Z5 (F:=100) _ _ κ,Z9 (F:=100) _ _ κ,Z7 (F:=100) _ _ κ,Z8 (F:=100) _ _ κ⟩
theorem mk32:FldAt 32:=.inl ⟨_,.f32,Zp (F:=100) _ _ κ,Zaa (F:=100) _ _ κ,Zq (F:=100) _ _ κ,Z5 (F:=100) _ _ κ,Z9 (F:=100) _ _ κ,Z7 (F:=100) _ _ κ,Z8 (F:=100) _ _ κ⟩
theorem mk33:FldAt 33:=.inr ⟨Zp (F:=100) _ _ κ,_,Zq (F:=100) _ (⟨0,0,[]⟩,2) κ⟩
theorem mk34:FldAt 34:=.inr ⟨Zp (F:=100) _ _ κ,_,Zq (F:=100) _ (⟨0,0,[]⟩,2) κ⟩
theorem mk35:FldAt 35:=.inr ⟨Zp (F:=100) _ _ κ,_,Zq (F:=100) _ (⟨0,0,[]⟩,2) κ⟩
theorem mk36:FldAt 36:=.inr ⟨Zp (F:=100) _ _ κ,_,Zq (F:=100) _ (⟨0,0,[]⟩,2) κ⟩
theorem mk37:FldAt 37:=.inl ⟨_,.f37,Zp (F:=100) _ _ κ,Zaa (F:=100) _ _ κ,Zq (F:=100) _ _ κ,Z5 (F:=100) _ _ κ,Z9 (F:=100) _ _ κ,Z7 (F:=100) _ _ κ,Z8 (F:=100) _ _ κ⟩
theorem mk38:FldAt 38:=.inr ⟨Zp (F:=100) _ _ κ,_,Zq (F:=100) _ (⟨0,0,[]⟩,2) κ⟩
theorem mk39:FldAt 39:=.inr ⟨Zp (F:=100) _ _ κ,_,Zq (F:=100) _ (⟨0,0,[]⟩,2) κ⟩
theorem mk40:FldAt 40:=.inr ⟨Zp (F:=100) _ _ κ,_,Zq (F:=100) _ (⟨0,0,[]⟩,2) κ⟩
theorem mk41:FldAt 41:=.inl ⟨_,.f41,Zp (F:=100) _ _ κ,Zaa (F:=100) _ _ κ,Zq (F:=100) _ _ κ,Z5 (F:=100) _ _ κ,Z9 (F:=100) _ _ κ,Z7 (F:=100) _ _ κ,Z8 (F:=100) _ _ κ⟩
theorem mk42:FldAt 42:=.inr ⟨Zp (F:=100) _ _ κ,_,Zq (F:=100) _ (⟨0,0,[]⟩,2) κ⟩
theorem mk43:FldAt 43:=.inl ⟨_,.f43,Zp (F:=100) _ _ κ,Zaa (F:=100) _ _ κ,Zq (F:=100) _ _ κ,Z5 (F:=100) _ _ κ,Z9 (F:=100) _ _ κ,Z7 (F:=100) _ _ κ,Z8 (F:=100) _ _ κ⟩
theorem mk44:FldAt 44:=.inr ⟨Zp (F:=100) _ _ κ,_,Zq (F:=100) _ (⟨0,0,[]⟩,2) κ⟩
theorem mk45:FldAt 45:=.inr ⟨Zp (F:=100) _ _ κ,_,Zq (F:=100) _ (⟨0,0,[]⟩,2) κ⟩
theorem mk46:FldAt 46:=.inr ⟨Zp (F:=100) _ _ κ,_,Zq (F:=100) _ (⟨0,0,[]⟩,2) κ⟩
theorem mk47:FldAt 47:=.inl ⟨_,.f47,Zp (F:=100) _ _ κ,Zaa (F:=100) _ _ κ,Zq (F:=100) _ _ κ,Z5 (F:=100) _ _ κ,Z9 (F:=100) _ _ κ,Z7 (F:=100) _ _ κ,Z8 (F:=100) _ _ κ⟩
theorem mk48:FldAt 48:=.inr ⟨Zp (F:=100) _ _ κ,_,Zq (F:=100) _ (⟨0,0,[]⟩,2) κ⟩
theorem mk49:FldAt 49:=.inl ⟨_,.f49,Zp (F:=100) _ _ κ,Zaa (F:=100) _ _ κ,Zq (F:=100) _ _ κ,Z5 (F:=100) _ _ κ,Z9 (F:=100) _ _ κ,Z7 (F:=100) _ _ κ,Z8 (F:=100) _ _ κ⟩
theorem mk50:FldAt 50:=.inr ⟨Zp (F:=100) _ _ κ,_,Zq (F:=100) _ (⟨0,0,[]⟩,2) κ⟩
theorem mk51:FldAt 51:=.inr ⟨Zp (F:=100) _ _ κ,_,Zq (F:=100) _ (⟨0,0,[]⟩,2) κ⟩
theorem mk52:FldAt 52:=.inr ⟨Zp (F:=100) _ _ κ,_,Zq (F:=100) _ (⟨0,0,[]⟩,2) κ⟩
theorem mk53:FldAt 53:=.inl ⟨_,.f53,Zp (F:=100) _ _ κ,Zaa (F:=100) _ _ κ,Zq (F:=100) _ _ κ,Z5 (F:=100) _ _ κ,Z9 (F:=100) _ _ κ,Z7 (F:=100) _ _ κ,Z8 (F:=100) _ _ κ⟩
theorem mk54:FldAt 54:=.inr ⟨Zp (F:=100) _ _ κ,_,Zq (F:=100) _ (⟨0,0,[]⟩,2) κ⟩
theorem mk55:FldAt 55:=.inr ⟨Zp (F:=100) _ _ κ,_,Zq (F:=100) _ (⟨0,0,[]⟩,2) κ⟩
theorem mk56:FldAt 56:=.inr ⟨Zp (F:=100) _ _ κ,_,Zq (F:=100) _ (⟨0,0,[]⟩,2) κ⟩
theorem mk57:FldAt 57:=.inr ⟨Zp (F:=100) _ _ κ,_,Zq (F:=100) _ (⟨0,0,[]⟩,2) κ⟩
theorem mk58:FldAt 58:=.inr ⟨Zp (F:=100) _ _ κ,_,Zq (F:=100) _ (⟨0,0,[]⟩,2) κ⟩
theorem mk59:FldAt 59:=.inl ⟨_,.f59,Zp (F:=100) _ _ κ,Zaa (F:=100) _ _ κ,Zq (F:=100) _ _ κ,Z5 (F:=100) _ _ κ,Z9 (F:=100) _ _ κ,Z7 (F:=100) _ _ κ,Z8 (F:=100) _ _ κ⟩
theorem mk60:FldAt 60:=.inr ⟨Zp (F:=100) _ _ κ,_,Zq (F:=100) _ (⟨0,0,[]⟩,2) κ⟩
theorem mk61:FldAt 61:=.inl ⟨_,.f61,Zp (F:=100) _ _ κ,Zaa (F:=100) _ _ κ,Zq (F:=100) _ _ κ,Z5 (F:=100) _ _ κ,Z9 (F:=100) _ _ κ,Z7 (F:=100) _ _ κ,Z8 (F:=100) _ _ κ⟩
theorem mk62:FldAt 62:=.inr ⟨Zp (F:=100) _ _ κ,_,Zq (F:=100) _ (⟨0,0,[]⟩,2) κ⟩
theorem mk63:FldAt 63:=.inr ⟨Zp (F:=100) _ _ κ,_,Zq (F:=100) _ (⟨0,0,[]⟩,2) κ⟩
theorem mk64:FldAt 64:=.inl ⟨_,.f64,Zp (F:=100) _ _ κ,Zaa (F:=100) _ _ κ,Zq (F:=100) _ _ κ,Z5 (F:=100) _ _ κ,Z9 (F:=100) _ _ κ,Z7 (F:=100) _ _ κ,Z8 (F:=100) _ _ κ⟩
theorem Zy2 {ρ:Type} {B:Int->Option (Int ⊕ ρ)} {i n:Int} (hi:i<=n) (h:∀ k,i<=k->k<n->(∃ r,B k=some (.inr r))\/B k=some (.inl (k+1))) (o:∃ r,B n=some (.inr r)):∃ r,loop B i=some r:=by
 have e:∀ (d:Nat) (k:Int),k+d=n->i<=k->∃ r,loop B k=some r:=by
  intro d
  induction d with
  | zero=>intro k l _;obtain rfl:k=n:= ω;obtain ⟨r,a⟩:=o;exact ⟨r,Zc a⟩
  | succ d u=>
   intro k l j
   rcases h k j ω with ⟨r,a⟩|a
   ·exact ⟨r,Zc a⟩
   ·rw [Zv a];exact u (k+1) ω ω
 exact e (n-i).toNat i ω ω
theorem ZnY {l:Nat} {n:Int} (h1:1<=n) (h:pwN 2 l*n<=1000000):l<=20:=by
 by_cases j:l<=20
 ·exact j
 ·exfalso
  have a:=Zl5 (p:=2) ω (m:=20) (l-20)
  rw [show 20+(l-20)=l by omega] at a
  have c:pwN 2 20=1048576:=by decide
  have e:pwN 2 l*1<=pwN 2 l*n:=Int.mul_le_mul_of_nonneg_left h1 ω
  omega
theorem ZtA {p:Int} (hp:2<=p) (e:p<=1000):∀ (d:Nat) (n:Int) (fs:List Int),n<=d->1<=n->pwN 2 fs.length*n<=1000000->∃ n' a1,loop (Zd4 p) (n,fs)=some (.inl (n',a1,p+1))/\1<=n'/\n'<=n/\pwN 2 a1.length*n'<=1000000
 | 0,n,fs,h,h1,_=>by omega
 | d+1,n,fs,h,h1,f=>by
  have hl:=ZnY h1 f
  have i:=Int.tmod_eq_emod_of_nonneg (b:=p) (a:=n) ω
  have l:=Int.tdiv_eq_ediv_of_nonneg (b:=p) (a:=n) ω
  have a3:=Zbb (p:=2) ω fs.length
  by_cases hm:n%p=0
  ·have o:p*(n/p)=n:=Int.mul_ediv_cancel' (Int.dvd_of_emod_eq_zero hm)
   have j:0<=n/p:=Int.ediv_nonneg ω ω
   have k:1<=n/p:=by
    by_cases r:n/p=0
    ·rw [r] at o;omega
    ·omega
   have x:2*(n/p)<=p*(n/p):=Int.mul_le_mul_of_nonneg_right hp j
   have a5:pwN 2 (fs++[p]).length*(n/p)<=1000000:=by
    rw [List.length_append]
    show pwN 2 fs.length*2*(n/p)<=_
    rw [Int.mul_assoc]
    have:pwN 2 fs.length*(2*(n/p))<=pwN 2 fs.length*n:=Int.mul_le_mul_of_nonneg_left ω ω
    omega
   have s:n<=1000000:=by
    have:=Int.mul_le_mul_of_nonneg_right (a:=1) (b:=pwN 2 fs.length) (c:=n) a3 ω
    omega
   obtain ⟨n',a1,u,v,y,w⟩:=ZtA hp e d (n/p) (fs++[p]) ω k a5
   refine ⟨n',a1,?_,v,by omega,w⟩
   rw [<-u]
   refine Zv ?_
   have hz:n.tmod p=0:=by rw [i];exact hm
   simp (disch:=omega) only [pz,Zd4,hz,l,gApp1]
  ·have s:n<=1000000:=by
    have:=Int.mul_le_mul_of_nonneg_right (a:=1) (b:=pwN 2 fs.length) (c:=n) a3 ω
    omega
   refine ⟨n,fs,Zc ?_,h1,by omega,f⟩
   have hz:¬ n.tmod p=0:=by rw [i];exact hm
   simp (disch:=omega) only [pz,Zd4,hz]
theorem ZwK:∀ (d:Nat) (n:Int) (w:List Int) (p:Int),1001-p<=d->2<=p->p<=1001->1<=n->n<=1000000->pwN 2 w.length*n<=1000000->∃ r:List Int,loop Zbu (n,w,p)=some r/\r.length<=21:=by
 intro d
 induction d with
 | zero=>
  intro n w p i hp a h1 j c
  have hl:=ZnY h1 c
  obtain rfl:p=1001:=ω
  by_cases h:1<n
  ·refine ⟨w++[n],Zc ?_,by simp;omega⟩
   simp (disch:=omega) only [pz,Zbu,gApp1]
  ·refine ⟨w,Zc ?_,by omega⟩
   simp (disch:=omega) only [pz,Zbu]
 | succ d ih=>
  intro n w p i hp a h1 j c
  have hl:=ZnY h1 c
  have a3:0<=p*p/\p*p<=1002001:=by
   refine ⟨Int.mul_nonneg ω ω,?_⟩
   have:=Int.mul_le_mul a a ω ω
   omega
  by_cases s:p*p<=n
  ·have e:p<=1000:=by
    by_cases h:p<=1000
    ·exact h
    ·have:(1001:Int)*1001<=p*p:=Int.mul_le_mul ω ω ω ω
     omega
   obtain ⟨n',x,k,l,u,o⟩:=ZtA hp e n.toNat n w ω h1 c
   obtain ⟨r,y,f⟩:=ih n' x (p+1) ω ω ω l ω o
   refine ⟨r,?_,f⟩
   rw [<-y]
   refine Zv ?_
   simp (disch:=omega) only [pz,Zbu,k]
  ·by_cases h:1<n
   ·refine ⟨w++[n],Zc ?_,by simp;omega⟩
    simp (disch:=omega) only [pz,Zbu,gApp1]
   ·refine ⟨w,Zc ?_,by omega⟩
    simp (disch:=omega) only [pz,Zbu]
theorem ZCd (n:Int):∃ r:List Int,ZcI n=some r/\r.length<=21:=by
 unfold ZcI Zab
 by_cases h1:1<=n
 ·by_cases c:n<=1000000
  ·obtain ⟨r,e,a⟩:=ZwK 1001 n [] 2 ω ω ω h1 c (by show 1*n<=_;omega)
   refine ⟨r,?_,a⟩
   rw [<-e]
   simp (disch:=omega) only [pz,]
  ·refine ⟨[],?_,by simp⟩
   simp (disch:=omega) only [pz,]
 ·refine ⟨[],?_,by simp⟩
  simp (disch:=omega) only [pz,]
theorem ZFv (n:Int):∃ r:Int×Int,ZcX n=some r:=by
 unfold ZcX
 obtain ⟨l,e,a⟩:=ZCd n
 rw [e]
 show ∃ r,loop (ZbW l) 0=some r
 refine Zy2 (n:=l.length) ω ?_ ?_
 ·intro k k0 k1
  by_cases h:ix l k=ix l 0
  ·refine .inr ?_
   simp (disch:=omega) only [pz,ZbW,h]
  ·refine .inl ⟨(0,0),?_⟩
   simp (disch:=omega) only [pz,ZbW,h]
 ·by_cases h:l.length=0
  ·refine ⟨(0,0),?_⟩
   simp (disch:=omega) only [pz,ZbW]
  ·refine ⟨(ix l 0,l.length),?_⟩
   simp (disch:=omega) only [pz,ZbW,ZW]
theorem Zqm (q:Int):FldAt q:=by
 by_cases h:2<=q/\q<=64
 ·obtain ⟨h1,a⟩:=h
  obtain ⟨n,rfl⟩:∃ n:Nat,q=(n:Int):=⟨q.toNat,by omega⟩
  have i:n<65:=ω
  have f:2<=n:=ω
  clear h1 a
  revert n
  have j:∀ n:Nat,n<65->2<=n->FldAt (n:Int):=by
   intro n h1 a
   match n,h1,a with
   | 0,_,h=>omega
   | 1,_,h=>omega
   | 2,_,_=>exact mk2
   | 3,_,_=>exact mk3
   | 4,_,_=>exact mk4
   | 5,_,_=>exact mk5
   | 6,_,_=>exact mk6
   | 7,_,_=>exact mk7
   | 8,_,_=>exact mk8
   | 9,_,_=>exact mk9
   | 10,_,_=>exact mk10
   | 11,_,_=>exact mk11
   | 12,_,_=>exact mk12
   | 13,_,_=>exact mk13
   | 14,_,_=>exact mk14
   | 15,_,_=>exact mk15
   | 16,_,_=>exact mk16
   | 17,_,_=>exact mk17
   | 18,_,_=>exact mk18
   | 19,_,_=>exact mk19
   | 20,_,_=>exact mk20
   | 21,_,_=>exact mk21
   | 22,_,_=>exact mk22
   | 23,_,_=>exact mk23
   | 24,_,_=>exact mk24
   | 25,_,_=>exact mk25
   | 26,_,_=>exact mk26
   | 27,_,_=>exact mk27
   | 28,_,_=>exact mk28
   | 29,_,_=>exact mk29
   | 30,_,_=>exact mk30
   | 31,_,_=>exact mk31
   | 32,_,_=>exact mk32
   | 33,_,_=>exact mk33
   | 34,_,_=>exact mk34
   | 35,_,_=>exact mk35
   | 36,_,_=>exact mk36
   | 37,_,_=>exact mk37
   | 38,_,_=>exact mk38
   | 39,_,_=>exact mk39
   | 40,_,_=>exact mk40
   | 41,_,_=>exact mk41
   | 42,_,_=>exact mk42
   | 43,_,_=>exact mk43
   | 44,_,_=>exact mk44
   | 45,_,_=>exact mk45
   | 46,_,_=>exact mk46
   | 47,_,_=>exact mk47
   | 48,_,_=>exact mk48
   | 49,_,_=>exact mk49
   | 50,_,_=>exact mk50
   | 51,_,_=>exact mk51
   | 52,_,_=>exact mk52
   | 53,_,_=>exact mk53
   | 54,_,_=>exact mk54
   | 55,_,_=>exact mk55
   | 56,_,_=>exact mk56
   | 57,_,_=>exact mk57
   | 58,_,_=>exact mk58
   | 59,_,_=>exact mk59
   | 60,_,_=>exact mk60
   | 61,_,_=>exact mk61
   | 62,_,_=>exact mk62
   | 63,_,_=>exact mk63
   | 64,_,_=>exact mk64
   | n+65,h,_=>omega
  exact j
 ·refine .inr ⟨?_,?_⟩
  ·unfold ZbU Z3
   by_cases h1:2<=q
   ·simp (disch:=omega) only [pz,]
   ·simp (disch:=omega) only [pz,]
  ·obtain ⟨r,k⟩:=ZFv q
   by_cases h1:64<q
   ·refine ⟨2,?_⟩
    unfold ZbQ
    rw [k]
    by_cases c:r.1=0
    ·simp (disch:=omega) only [pz,c]
    ·simp (disch:=omega) only [pz,c]
   ·have hz:ZcX q=some (0,0):=by
     by_cases a:1<=q
     ·obtain rfl:q=1:=ω
      have:ZbQ 1=some (⟨0,0,[]⟩,2):=Zq (F:=100) _ _ κ
      exact Zue (F:=100) _ _ κ
     ·unfold ZcX ZcI Zab
      have e:loop (ZbW []) 0=some (0,0):=by
       refine Zc ?_
       rfl
      simp (disch:=omega) only [pz,e]
    refine ⟨2,?_⟩
    unfold ZbQ
    rw [hz]
    rfl
def Tb (q:Int) (g:Int->Int) (b:Int):List Int:=tabl q fun j=>if j<b then g j else 0
theorem Zpt {q b:Int} {g:Int->Int} (a:0<=b) (h1:b<q):(Tb q g b).set b.toNat (g b)=Tb q g (b+1):=by
 apply Zak a h1
 ·intro j c e f
  by_cases h:j<b
  ·rw [if_pos h,if_pos ω]
  ·rw [if_neg h,if_neg ω]
 ·rw [if_pos ω]
theorem Zo4 {q:Int} {g:Int->Int}:Tb q g 0=List.replicate q.toNat 0:=by
 rw [Zfn]
 exact ZM fun j a c=>by rw [if_neg ω]
theorem ZBJ {q:Int} {g:Int->Int}:Tb q g q=tabl q g:=ZM fun j c a=>by rw [if_pos a]
theorem ZlL {q b:Int} {g:Int->Int}:(Tb q g b).length=q.toNat:=Zl
def iv (q:Int) (e:List Int) (a b:Int):List Int:=tabl q fun i=>if 1<=i/\(i<a\/(i=a/\ix e a<b)) then ix e i else 0
def tabs (f:Ze) (q:Int) (e:List Int):Z2:=
 ⟨q,tabl q fun a=>tabl q fun b=>sumA f a b 1,tabl q fun a=>tabl q fun b=>sumA f a b (f.Prime-1),tabl q fun a=>tabl q fun b=>mulA f a b,tabl q fun i=>if 1<=i then ix e i else 0⟩
theorem Zy9 {q a b:Int} {e:List Int}:(iv q e a b).length=q.toNat:=Zl
theorem ZBS {f:Ze} {q:Int} {a0:List Int} (hF:Ff f q a0) {a:Int} (l:0<=a) (p:a<q) {A S M:List (List Int)} (hA:(A.length:Int)=a) (hS:(S.length:Int)=a) (hM:(M.length:Int)=a):
  loop (Zec f q a A S M) (0,iv q a0 a 0,List.replicate q.toNat 0,List.replicate q.toNat 0,List.replicate q.toNat 0)=some (.inl (a+1,A++[tabl q fun b=>sumA f a b 1],S++[tabl q fun b=>sumA f a b (f.Prime-1)],M++[tabl q fun b=>mulA f a b],iv q a0 (a+1) 0)):=by
 have a8:=hF.q2;have a6:=hF.q64
 have a5:=Zj (B:=Zec f q a A S M) (fun b=>(b,iv q a0 a b,Tb q (fun b=>sumA f a b 1) b,Tb q (fun b=>sumA f a b (f.Prime-1)) b,Tb q (fun b=>mulA f a b) b)) (i:=0) (n:=q) ω fun b e k=>by
  have c1:=ZsQ hF.fd (a:=a) (b:=b) (c:=1) (s:=1) l ω e ω (.inl ⟨rfl,rfl⟩)
  have c2:=ZsQ hF.fd (a:=a) (b:=b) (c:=f.Prime-1) (s:=-1) l ω e ω (.inr ⟨rfl,rfl⟩)
  have r:=ZA8 hF.fd (a:=a) (b:=b) l ω e ω
  have s1:=Zpt (q:=q) (b:=b) (g:=fun b=>sumA f a b 1) e k
  have s2:=Zpt (q:=q) (b:=b) (g:=fun b=>sumA f a b (f.Prime-1)) e k
  have u:=Zpt (q:=q) (b:=b) (g:=fun b=>mulA f a b) e k
  have l1:(Tb q (fun b=>sumA f a b 1) b).length=q.toNat:=ZlL
  have l2:(Tb q (fun b=>sumA f a b (f.Prime-1)) b).length=q.toNat:=ZlL
  have v:(Tb q (fun b=>mulA f a b) b).length=q.toNat:=ZlL
  have w:(Tb q (fun b=>mulA f a b) (b+1)).length=q.toNat:=ZlL
  have x:(iv q a0 a b).length=q.toNat:=Zy9
  have y:ix (Tb q (fun b=>mulA f a b) (b+1)) b=mulA f a b:=by
   unfold Tb
   rw [ZH e k,if_pos ω]
  have hI:=hF.inv2 a b l p e k
  by_cases hm:mulA f a b=1
  ·have hb:=hI.1 hm
   have a2:1<=a:=by
    by_cases h:a=0
    ·subst h
     rw [hF.z1 b e k] at hm
     omega
    ·omega
   have o:(iv q a0 a b).set a.toNat b=iv q a0 a (b+1):=by
    apply Zak l p
    ·intro j j0 j1 j2
     by_cases hj:1<=j/\(j<a\/(j=a/\ix a0 a<b))
     ·rw [if_pos hj,if_pos ω]
     ·rw [if_neg hj,if_neg ω]
    ·rw [if_pos ω,hb]
   simp (disch:=omega) only [pz,Zec,c1,c2,r,l1,l2,v,w,x,s1,s2,u,y,o]
  ·have hb:¬ b=ix a0 a:=fun h=>hm (hI.2 h)
   have o:iv q a0 a b=iv q a0 a (b+1):=by
    refine ZM fun j j0 j1=>?_
    by_cases hj:1<=j/\(j<a\/(j=a/\ix a0 a<b))
    ·rw [if_pos hj,if_pos ω]
    ·rw [if_neg hj,if_neg ω]
   rw [o]
   simp (disch:=omega) only [pz,Zec,c1,c2,r,l1,l2,v,w,x,s1,s2,u,y]
 have e0:((0:Int),iv q a0 a 0,List.replicate q.toNat (0:Int),List.replicate q.toNat (0:Int),List.replicate q.toNat (0:Int))=(fun b=>(b,iv q a0 a b,Tb q (fun b=>sumA f a b 1) b,Tb q (fun b=>sumA f a b (f.Prime-1)) b,Tb q (fun b=>mulA f a b) b)) 0:=by
  show _=((0:Int),iv q a0 a 0,Tb q _ 0,Tb q _ 0,Tb q _ 0)
  rw [Zo4,Zo4,Zo4]
 rw [e0,a5]
 refine Zc ?_
 have o:iv q a0 a q=iv q a0 (a+1) 0:=by
  refine ZM fun j j0 j1=>?_
  by_cases hj:1<=j/\j<a+1
  ·by_cases h:j=a
   ·have:=hF.inv1 a ω p
    rw [if_pos ω,if_pos ω]
   ·rw [if_pos ω,if_pos ω]
  ·by_cases h:j=a+1
   ·by_cases h':a+1<q
    ·have:=hF.inv1 (a+1) ω h'
     rw [if_neg ω,if_neg ω]
    ·omega
   ·rw [if_neg ω,if_neg ω]
 simp only [ZBJ,o]
 simp (disch:=omega) only [pz,Zec,Zot,gApp1]
theorem ZuU {f:Ze} {q:Int} {u:List Int} (w:Ff f q u) (hs:Zba f=some q):Zh8 f=some (tabs f q u):=by
 have s:=w.q2;have c:=w.q64
 unfold Zh8
 rw [show Ze.mk f.Prime f.Degree f.Poly=f from rfl,hs]
 simp (disch:=omega) only [pz,Zau]
 have y:List.replicate q.toNat (0:Int)=iv q u 0 0:=by
  rw [Zfn]
  exact ZM fun j e k=>by
   by_cases h:j=0
   ·rw [if_neg ω]
   ·rw [if_neg ω]
 have x:=Zj (B:=ZgT f q) (fun a=>(a,tabl a fun a=>tabl q fun b=>sumA f a b 1,tabl a fun a=>tabl q fun b=>sumA f a b (f.Prime-1),tabl a fun a=>tabl q fun b=>mulA f a b,iv q u a 0)) (i:=0) (n:=q) ω fun a l o=>by
  have:=ZBS w l o (A:=tabl a fun a=>tabl q fun b=>sumA f a b 1) (S:=tabl a fun a=>tabl q fun b=>sumA f a b (f.Prime-1)) (M:=tabl a fun a=>tabl q fun b=>mulA f a b) (by rw [Zl];omega) (by rw [Zl];omega) (by rw [Zl];omega)
  simp (disch:=omega) only [pz,ZgT,Zau,this,ZX]
 have p:((0:Int),([]:List (List Int)),([]:List (List Int)),([]:List (List Int)),List.replicate q.toNat (0:Int))=(fun a=>(a,tabl a fun a=>tabl q fun b=>sumA f a b 1,tabl a fun a=>tabl q fun b=>sumA f a b (f.Prime-1),tabl a fun a=>tabl q fun b=>mulA f a b,iv q u a 0)) 0:=by
  rw [y];rfl
 rw [p,x]
 refine Zc ?_
 have r:iv q u q 0=tabl q fun i=>if 1<=i then ix u i else 0:=by
  refine ZM fun j e k=>?_
  by_cases h:1<=j
  ·rw [if_pos ω,if_pos h]
  ·rw [if_neg ω,if_neg h]
 simp (disch:=omega) only [pz,ZgT,r]
 rfl
structure Mat (q w:Int) (xs:List (List Int)):Prop where
 len:∀ i,0<=i->i<(xs.length:Int)->((ix xs i).length:Int)=w
 rng:∀ i,0<=i->i<(xs.length:Int)->In q (ix xs i)
 n:(xs.length:Int)<=64
 w1:w<=64
def scl (f:Ze) (row:List Int) (c:Int):List Int:=tabl row.length fun t=>mulA f (ix row t) c
def less (f:Ze) (v w:List Int) (c:Int):List Int:=tabl v.length fun t=>sumA f (ix v t) (mulA f (ix w t) c) (f.Prime-1)
def elim (f:Ze) (c r:Int) (row:List Int) (a:List (List Int)):List (List Int):=tabl a.length fun j=>if j=r then row else less f (ix a j) row (ix (ix a j) c)
theorem ZzV {f:Ze} {q:Int} {u:List Int} (w:Ff f q u) {e:Int} (c:1<=e) (h1:e<q):Zjd f e=some (ix u e):=by
 have j:=w.q64
 obtain ⟨k,l⟩:=w.inv1 e c h1
 unfold Zjd
 have y:=Zj (B:=Zkn f e) (fun b=>b) (i:=1) (n:=ix u e) ω fun b o p=>by
  have x:=ZlN w.fd (a:=e) (b:=b) ω ω ω ω
  have hI:=w.inv2 e b ω h1 ω ω
  have r:¬ mulA f e b=1:=fun h=>by have:=hI.1 h;omega
  simp (disch:=omega) only [pz,Zkn,x]
 rw [y]
 refine Zc ?_
 have x:=ZlN w.fd (a:=e) (b:=ix u e) ω ω ω ω
 have hI:=(w.inv2 e (ix u e) ω h1 ω ω).2 rfl
 simp (disch:=omega) only [pz,Zkn,x]
theorem Zp5 {f:Ze} {q:Int} {w:List Int} (x:Ff f q w) {row:List Int} {c:Int} (y:In q row) (u:(row.length:Int)<=64) (k:0<=c) (c1:c<q):ZgC f row c=some (scl f row c):=by
 have l:=x.q64
 unfold ZgC
 have r:=Zj (B:=ZgS f row c) (fun t=>(tabl t fun t=>mulA f (ix row t) c,t)) (i:=0) (n:=row.length) ω fun t e h=>by
  obtain ⟨o,p⟩:=y t e h
  have hM:=ZlN x.fd (a:=ix row t) (b:=c) ω ω ω ω
  have u:(tabl t fun t=>mulA f (ix row t) c).length=t.toNat:=Zl
  simp (disch:=omega) only [pz,ZgS,hM,gApp1,u,ZX]
 have j:(([]:List Int),(0:Int))=(fun t=>(tabl t fun t=>mulA f (ix row t) c,t)) 0:=rfl
 rw [j,r]
 refine Zc ?_
 simp (disch:=omega) only [pz,ZgS]
 rfl
theorem ZAM {f:Ze} {q:Int} {a3:List Int} (hF:Ff f q a3) {v w:List Int} {c:Int} (h:In q v) (hw:In q w) (hl:(v.length:Int)<=64) (he:w.length=v.length) (o:0<=c) (c1:c<q):Zjt f v w c=some (less f v w c):=by
 have p:=hF.q64;have hp:=hF.fd.p2;have j:=hF.fd.p64
 unfold Zjt
 have a1:=Zj (B:=Ziq f v w c) (fun t=>(tabl t fun t=>sumA f (ix v t) (mulA f (ix w t) c) (f.Prime-1),t)) (i:=0) (n:=v.length) ω fun t e k=>by
  obtain ⟨r,s⟩:=h t e k
  obtain ⟨u,x⟩:=hw t e ω
  have hM:=ZlN hF.fd (a:=ix w t) (b:=c) ω ω ω ω
  obtain ⟨y,g6⟩:=Zc3 hF.fd hF.pw (ix w t) c
  have hS:=Zuh hF.fd (a:=ix v t) (b:=mulA f (ix w t) c) (c:=f.Prime-1) ω ω ω ω ω ω
  have hl:(tabl t fun t=>sumA f (ix v t) (mulA f (ix w t) c) (f.Prime-1)).length=t.toNat:=Zl
  simp (disch:=omega) only [pz,Ziq,hM,hS,gApp1,hl,ZX]
 have l:(([]:List Int),(0:Int))=(fun t=>(tabl t fun t=>sumA f (ix v t) (mulA f (ix w t) c) (f.Prime-1),t)) 0:=rfl
 rw [l,a1]
 refine Zc ?_
 simp (disch:=omega) only [pz,Ziq]
 rfl
theorem Zif {f:Ze} {row:List Int} {c:Int}:(scl f row c).length=row.length:=by unfold scl;rw [Zl];omega
theorem Zvs {f:Ze} {v w:List Int} {c:Int}:(less f v w c).length=v.length:=by unfold less;rw [Zl];omega
theorem Zk2 {f:Ze} {q:Int} {e:List Int} (h:Ff f q e) {row:List Int} {c:Int}:In q (scl f row c):=fun i a h1=>by
 rw [Zif] at h1
 unfold scl
 rw [ZH a h1]
 exact Zc3 h.fd h.pw _ _
theorem ZCG {f:Ze} {q:Int} {e:List Int} (h:Ff f q e) {v w:List Int} {c:Int}:In q (less f v w c):=fun i a h1=>by
 rw [Zvs] at h1
 unfold less
 rw [ZH a h1]
 exact Zj3 h.fd h.pw _ _ _
theorem ZeI {f:Ze} {c r:Int} {row:List Int} {a:List (List Int)}:(elim f c r row a).length=a.length:=by unfold elim;rw [Zl];omega
theorem Mat.elim {f:Ze} {q w:Int} {h:List Int} (l:Ff f q h) {c r:Int} {row:List Int} {j:List (List Int)} (e:Mat q w j) (o:In q row) (k:(row.length:Int)=w):Mat q w (elim f c r row j):=by
 refine ⟨fun i a h1=>?_,fun i a h1=>?_,by rw [ZeI];exact e.n,e.w1⟩
 ·rw [ZeI] at h1
  unfold Proofs.YtepnljbkgjbbmaaGreatDoor.elim
  rw [ZH a h1]
  split
  ·exact k
  ·rw [Zvs];exact e.len i a h1
 ·rw [ZeI] at h1
  unfold Proofs.YtepnljbkgjbbmaaGreatDoor.elim
  rw [ZH a h1]
  split
  ·exact o
  ·exact ZCG l
theorem Mat.set {q w:Int} {xs:List (List Int)} {i:Int} {row:List Int} (h:Mat q w xs) (f:0<=i) (l:In q row) (k:(row.length:Int)=w):Mat q w (xs.set i.toNat row):=by
 refine ⟨fun j c a=>?_,fun j c a=>?_,by rw [List.length_set];exact h.n,h.w1⟩<;>rw [List.length_set] at a
 ·by_cases e:i=j
  ·subst e;rw [Zc5 f a];exact k
  ·rw [Zf5 f c e];exact h.len j c a
 ·by_cases e:i=j
  ·subst e;rw [Zc5 f a];exact l
  ·rw [Zf5 f c e];exact h.rng j c a
theorem Zyt {f:Ze} {q w:Int} {a3:List Int} (hF:Ff f q a3) {piv:List Int} {c i:Int} {xs:List (List Int)} (a:Mat q w xs) (r:0<=c) (a4:c<w) (a5:(piv.length:Int)<=i) (s:i<xs.length) (hp:¬ ix (ix xs i) c=0):
  ZaF f piv c xs i=some (.inl (piv++[c],c+1,elim f c piv.length (scl f (ix xs i) (ix a3 (ix (ix xs i) c))) ((xs.set i.toNat (ix xs piv.length)).set piv.length (scl f (ix xs i) (ix a3 (ix (ix xs i) c)))))):=by
 have hq:=hF.q64;have hn:=a.n;have hw:=a.w1
 have ae:=a.len i ω s
 have a9:=a.rng i ω s
 obtain ⟨x,k⟩:=a9 c r ω
 obtain ⟨v0,v1⟩:=hF.inv1 (ix (ix xs i) c) ω k
 have hI:=ZzV hF (e:=ix (ix xs i) c) ω k
 have hS:=Zp5 hF (row:=ix xs i) (c:=ix a3 (ix (ix xs i) c)) a9 ω ω v1
 have ar:(xs.set i.toNat (ix xs piv.length)).length=xs.length:=List.length_set
 simp (disch:=omega) only [pz,ZaF,hI,hS]
 generalize a7:scl f (ix xs i) (ix a3 (ix (ix xs i) c))=row
 have ah:(row.length:Int)=w:=by rw [<-a7,Zif];exact ae
 have a8:In q row:=by rw [<-a7];exact Zk2 hF
 have hy:Mat q w ((xs.set i.toNat (ix xs piv.length)).set piv.length row):=(a.set ω (a.rng _ ω ω) (a.len _ ω ω)).set (i:=(piv.length:Int)) ω a8 ah
 have ab:ix ((xs.set i.toNat (ix xs piv.length)).set piv.length row) (piv.length:Int)=row:=Zc5 (i:=(piv.length:Int)) ω (by rw [List.length_set];omega)
 have af:((xs.set i.toNat (ix xs piv.length)).set piv.length row).length=xs.length:=by rw [List.length_set,List.length_set]
 generalize ((xs.set i.toNat (ix xs piv.length)).set piv.length row)=ys at hy ab af ⊢
 have ad:=Zj (B:=ZfH f piv c row) (fun j=>(j,tabl ys.length fun t=>if t<j then (if t=piv.length then row else less f (ix ys t) row (ix (ix ys t) c)) else ix ys t)) (i:=0) (n:=ys.length) ω fun j l o=>by
  have y:(tabl ys.length fun t=>if t<j then (if t=piv.length then row else less f (ix ys t) row (ix (ix ys t) c)) else ix ys t).length=ys.length:=by rw [Zl];omega
  have a0:ix (tabl ys.length fun t=>if t<j then (if t=piv.length then row else less f (ix ys t) row (ix (ix ys t) c)) else ix ys t) j=ix ys j:=by rw [ZH l o,if_neg ω]
  by_cases hj:j=piv.length
  ·have hs:(tabl ys.length fun t=>if t<j then (if t=piv.length then row else less f (ix ys t) row (ix (ix ys t) c)) else ix ys t)=tabl ys.length fun t=>if t<j+1 then (if t=piv.length then row else less f (ix ys t) row (ix (ix ys t) c)) else ix ys t:=by
    refine ZM fun t u p=>?_
    by_cases h:t<j
    ·rw [if_pos h,if_pos (show t<j+1 by omega)]
    ·by_cases h':t=j
     ·rw [if_neg h,if_pos (show t<j+1 by omega),if_pos ω,h',hj,ab]
     ·rw [if_neg h,if_neg (show ¬ t<j+1 by omega)]
   have a1:(tabl ys.length fun t=>if t<j+1 then (if t=piv.length then row else less f (ix ys t) row (ix (ix ys t) c)) else ix ys t).length=ys.length:=by rw [Zl];omega
   simp only [hs]
   simp (disch:=omega) only [pz,ZfH,a1]
  ·have aq:=hy.len j l o
   have aa:=hy.rng j l o
   obtain ⟨d0,d1⟩:=aa c r ω
   have hL:=ZAM hF (v:=ix ys j) (w:=row) (c:=ix (ix ys j) c) aa a8 ω ω d0 d1
   have hs:(tabl ys.length fun t=>if t<j then (if t=piv.length then row else less f (ix ys t) row (ix (ix ys t) c)) else ix ys t).set j.toNat (less f (ix ys j) row (ix (ix ys j) c))=tabl ys.length fun t=>if t<j+1 then (if t=piv.length then row else less f (ix ys t) row (ix (ix ys t) c)) else ix ys t:=by
    apply Zak l o
    ·intro t u p t2
     by_cases h:t<j
     ·rw [if_pos h,if_pos (show t<j+1 by omega)]
     ·rw [if_neg h,if_neg (show ¬ t<j+1 by omega)]
    ·rw [if_pos ω,if_neg hj]
   simp (disch:=omega) only [pz,ZfH,y,a0,hL,hs]
 have x:((0:Int),ys)=(fun j=>(j,tabl ys.length fun t=>if t<j then (if t=piv.length then row else less f (ix ys t) row (ix (ix ys t) c)) else ix ys t)) 0:=by
  show _=((0:Int),_)
  congr 1
  refine (Zbg ys).symm.trans (ZM fun t u p=>?_)
  rw [if_neg ω]
 rw [x,ad]
 refine Zc ?_
 have k:(tabl ys.length fun t=>if t<(ys.length:Int) then (if t=piv.length then row else less f (ix ys t) row (ix (ix ys t) c)) else ix ys t)=elim f c piv.length row ys:=ZM fun t u p=>by rw [if_pos p]
 simp (disch:=omega) only [pz,ZfH,k,ZeI,gApp1]
theorem Zay {α:Type} [Inhabited α] {n:Int} {f:Int->α} {i:Int} (a:0<=i) (h1:i<n):gIdx (tabl n f) i=some (f i):=by
 rw [ZhO a (by rw [Zl];omega),ZH a h1]
theorem Zu8 {f:Ze} {q:Int} {e:List Int}:(tabs f q e).qadd=tabl q fun a=>tabl q fun b=>sumA f a b 1:=rfl
theorem Zud {f:Ze} {q:Int} {e:List Int}:(tabs f q e).qsub=tabl q fun a=>tabl q fun b=>sumA f a b (f.Prime-1):=rfl
theorem Zmi {f:Ze} {q:Int} {e:List Int}:(tabs f q e).qmul=tabl q fun a=>tabl q fun b=>mulA f a b:=rfl
theorem Zz2 {f:Ze} {q:Int} {a:List Int}:(tabs f q a).qinv=tabl q fun i=>if 1<=i then ix a i else 0:=rfl
theorem ZCW {f:Ze} {q:Int} {k:List Int} (j:Ff f q k) {v w c:Int} (v0:0<=v) (v1:v<q) (w0:0<=w) (w1:w<q) (a:0<=c) (c1:c<q):sumA f v (mulA f (sumA f 0 c (f.Prime-1)) w) 1=sumA f v (mulA f w c) (f.Prime-1):=by
 obtain ⟨e,h⟩:=Zc3 j.fd j.pw w c
 rw [j.neg c w a c1 w0 w1,j.comm c w a c1 w0 w1,j.sub v _ v0 v1 e h]
theorem ZAm {f:Ze} {q:Int} {a0:List Int} (hF:Ff f q a0) {v w:List Int} {c:Int} (r:In q v) (hw:In q w) (hl:(v.length:Int)<=64) (he:w.length=v.length) (s:0<=c) (c1:c<q):
  ZcL (tabs f q a0) v w (sumA f 0 c (f.Prime-1))=some (less f v w c):=by
 have hq:=hF.q64
 obtain ⟨n0,n1⟩:=Zj3 hF.fd hF.pw 0 c (f.Prime-1)
 unfold ZcL
 have a2:=Zj (B:=Zb7 (tabs f q a0) w (sumA f 0 c (f.Prime-1))) (fun t=>(t,tabl v.length fun u=>if u<t then sumA f (ix v u) (mulA f (ix w u) c) (f.Prime-1) else ix v u)) (i:=0) (n:=v.length) ω fun t a e=>by
  obtain ⟨k,l⟩:=r t a e
  obtain ⟨o,p⟩:=hw t a ω
  have a6:(tabl v.length fun u=>if u<t then sumA f (ix v u) (mulA f (ix w u) c) (f.Prime-1) else ix v u).length=v.length:=by rw [Zl];omega
  have j:ix (tabl v.length fun u=>if u<t then sumA f (ix v u) (mulA f (ix w u) c) (f.Prime-1) else ix v u) t=ix v t:=by rw [ZH a e,if_neg ω]
  obtain ⟨x,y⟩:=Zc3 hF.fd hF.pw (sumA f 0 c (f.Prime-1)) (ix w t)
  have hs:(tabl v.length fun u=>if u<t then sumA f (ix v u) (mulA f (ix w u) c) (f.Prime-1) else ix v u).set t.toNat (sumA f (ix v t) (mulA f (sumA f 0 c (f.Prime-1)) (ix w t)) 1)=tabl v.length fun u=>if u<t+1 then sumA f (ix v u) (mulA f (ix w u) c) (f.Prime-1) else ix v u:=by
   apply Zak a e
   ·intro u u0 u1 u2
    by_cases h:u<t
    ·rw [if_pos h,if_pos (show u<t+1 by omega)]
    ·rw [if_neg h,if_neg (show ¬ u<t+1 by omega)]
   ·rw [if_pos ω,ZCW hF k l o p s c1]
  have i1:gIdx (tabl v.length fun u=>if u<t then sumA f (ix v u) (mulA f (ix w u) c) (f.Prime-1) else ix v u) t=some (ix v t):=by rw [ZhO a ω,j]
  have i2:gIdx (tabs f q a0).qadd (ix v t)=some (tabl q fun b=>sumA f (ix v t) b 1):=by rw [Zu8,Zay k l]
  have i3:gIdx (tabs f q a0).qmul (sumA f 0 c (f.Prime-1))=some (tabl q fun b=>mulA f (sumA f 0 c (f.Prime-1)) b):=by rw [Zmi,Zay n0 n1]
  have i4:gIdx (tabl q fun b=>mulA f (sumA f 0 c (f.Prime-1)) b) (ix w t)=some (mulA f (sumA f 0 c (f.Prime-1)) (ix w t)):=Zay o p
  have i5:gIdx (tabl q fun b=>sumA f (ix v t) b 1) (mulA f (sumA f 0 c (f.Prime-1)) (ix w t))=some (sumA f (ix v t) (mulA f (sumA f 0 c (f.Prime-1)) (ix w t)) 1):=Zay x y
  simp (disch:=omega) only [pz,Zb7,j,i2,i3,i4,i5,hs]
 have e0:((0:Int),v)=(fun t=>(t,tabl v.length fun u=>if u<t then sumA f (ix v u) (mulA f (ix w u) c) (f.Prime-1) else ix v u)) 0:=by
  show _=((0:Int),_)
  congr 1
  refine (Zbg v).symm.trans (ZM fun t a e=>?_)
  rw [if_neg ω]
 rw [e0,a2]
 refine Zc ?_
 have e1:(tabl v.length fun u=>if u<(v.length:Int) then sumA f (ix v u) (mulA f (ix w u) c) (f.Prime-1) else ix v u)=less f v w c:=ZM fun t a e=>by rw [if_pos e]
 simp (disch:=omega) only [pz,Zb7,e1]
theorem ZFn {f:Ze} {q:Int} {r:List Int} (o:Ff f q r) {v w:List Int} (h:In q v) (u:In q w) (x:w.length=v.length):less f v w 0=v:=by
 refine Eq.trans (ZM fun t a i=>?_) (Zbg v)
 obtain ⟨j,k⟩:=h t a i
 obtain ⟨c,e⟩:=u t a ω
 have l:=o.q2
 rw [o.comm _ 0 c e ω ω,o.z1 _ c e,o.z2 _ j k]
theorem ZIb {f:Ze} {q w:Int} {a1:List Int} (hF:Ff f q a1) {piv:List Int} {c d:Int} {row:List Int} {ys:List (List Int)} (hy:Mat q w ys) (r:0<=c) (a4:c<w) (hr:(piv.length:Int)<ys.length) (an:(row.length:Int)=w) (a8:In q row) (a9:ix ys piv.length=row):
  loop (Zb9 (tabs f q a1) piv c d ys) (0,ys)=some (if (piv.length:Int)+1=ys.length then .inr (.inr ((elim f c piv.length row ys).take (piv.length+1),piv++[c],d)) else .inr (.inl (piv++[c],d,c+1,elim f c piv.length row ys))):=by
 have hn:=hy.n;have hw:=hy.w1;have hq:=hF.q64;have a5:=hF.q2
 have ac:=Zj (B:=Zb9 (tabs f q a1) piv c d ys) (fun j=>(j,tabl ys.length fun t=>if t<j then (if t=piv.length then row else less f (ix ys t) row (ix (ix ys t) c)) else ix ys t)) (i:=0) (n:=ys.length) ω fun j a k=>by
  have a6:(tabl ys.length fun t=>if t<j then (if t=piv.length then row else less f (ix ys t) row (ix (ix ys t) c)) else ix ys t).length=ys.length:=by rw [Zl];omega
  have p:ix (tabl ys.length fun t=>if t<j then (if t=piv.length then row else less f (ix ys t) row (ix (ix ys t) c)) else ix ys t) j=ix ys j:=by rw [ZH a k,if_neg ω]
  have l:gIdx (tabl ys.length fun t=>if t<j then (if t=piv.length then row else less f (ix ys t) row (ix (ix ys t) c)) else ix ys t) j=some (ix ys j):=by rw [ZhO a ω,p]
  by_cases hj:j=piv.length
  ·have hs:(tabl ys.length fun t=>if t<j then (if t=piv.length then row else less f (ix ys t) row (ix (ix ys t) c)) else ix ys t)=tabl ys.length fun t=>if t<j+1 then (if t=piv.length then row else less f (ix ys t) row (ix (ix ys t) c)) else ix ys t:=by
    refine ZM fun t o e=>?_
    by_cases h:t<j
    ·rw [if_pos h,if_pos (show t<j+1 by omega)]
    ·by_cases h':t=j
     ·rw [if_neg h,if_pos (show t<j+1 by omega),if_pos ω,h',hj,a9]
     ·rw [if_neg h,if_neg (show ¬ t<j+1 by omega)]
   simp only [hs] at l ⊢
   simp (disch:=omega) only [pz,Zb9,Zfb,l]
  ·have am:=hy.len j a k
   have a2:=hy.rng j a k
   obtain ⟨s,u⟩:=a2 c r ω
   by_cases hz:ix (ix ys j) c=0
   ·have hs:(tabl ys.length fun t=>if t<j then (if t=piv.length then row else less f (ix ys t) row (ix (ix ys t) c)) else ix ys t)=tabl ys.length fun t=>if t<j+1 then (if t=piv.length then row else less f (ix ys t) row (ix (ix ys t) c)) else ix ys t:=by
     refine ZM fun t o e=>?_
     by_cases h:t<j
     ·rw [if_pos h,if_pos (show t<j+1 by omega)]
     ·by_cases h':t=j
      ·rw [if_neg h,if_pos (show t<j+1 by omega),if_neg ω,h',hz,ZFn hF a2 a8 ω]
      ·rw [if_neg h,if_neg (show ¬ t<j+1 by omega)]
    simp only [hs] at l ⊢
    simp (disch:=omega) only [pz,Zb9,Zfb,l]
   ·have hL:=ZAm hF (v:=ix ys j) (w:=row) (c:=ix (ix ys j) c) a2 a8 ω ω s u
    have hs:(tabl ys.length fun t=>if t<j then (if t=piv.length then row else less f (ix ys t) row (ix (ix ys t) c)) else ix ys t).set j.toNat (less f (ix ys j) row (ix (ix ys j) c))=tabl ys.length fun t=>if t<j+1 then (if t=piv.length then row else less f (ix ys t) row (ix (ix ys t) c)) else ix ys t:=by
     apply Zak a k
     ·intro t o e t2
      by_cases h:t<j
      ·rw [if_pos h,if_pos (show t<j+1 by omega)]
      ·rw [if_neg h,if_neg (show ¬ t<j+1 by omega)]
     ·rw [if_pos ω,if_neg hj]
    have x:ix (tabl ys.length fun t=>if t<j then (if t=piv.length then row else less f (ix ys t) row (ix (ix ys t) c)) else ix ys t) (piv.length:Int)=row:=by
     rw [ZH ω hr]
     by_cases h:(piv.length:Int)<j
     ·rw [if_pos h,if_pos rfl]
     ·rw [if_neg h,a9]
    have y:gIdx (tabs f q a1).qsub 0=some (tabl q fun b=>sumA f 0 b (f.Prime-1)):=by rw [Zud,Zay ω ω]
    have i4:gIdx (tabl q fun b=>sumA f 0 b (f.Prime-1)) (ix (ix ys j) c)=some (sumA f 0 (ix (ix ys j) c) (f.Prime-1)):=Zay s u
    have i5:gNe j (piv.length:Int)=some ():=by unfold gNe;rw [if_pos hj]
    have he:Z2.mk (tabs f q a1).qq (tabs f q a1).qadd (tabs f q a1).qsub (tabs f q a1).qmul (tabs f q a1).qinv=tabs f q a1:=rfl
    simp (disch:=omega) only [pz,Zb9,Zfb,p,x,y,i4,i5,he,hL,hs]
 have e0:((0:Int),ys)=(fun j=>(j,tabl ys.length fun t=>if t<j then (if t=piv.length then row else less f (ix ys t) row (ix (ix ys t) c)) else ix ys t)) 0:=by
  show _=((0:Int),_)
  congr 1
  refine (Zbg ys).symm.trans (ZM fun t o e=>?_)
  rw [if_neg ω]
 rw [e0,ac]
 refine Zc ?_
 have e1:(tabl ys.length fun t=>if t<(ys.length:Int) then (if t=piv.length then row else less f (ix ys t) row (ix (ix ys t) c)) else ix ys t)=elim f c piv.length row ys:=ZM fun t o e=>by rw [if_pos e]
 have al:(elim f c piv.length row ys).length=ys.length:=ZeI
 have ad:(piv++[c]).length=piv.length+1:=by simp
 simp only [e1]
 by_cases h:(piv.length:Int)+1=ys.length
 ·rw [if_pos h]
  have g:gSl (elim f c piv.length row ys) 0 ((piv++[c]).length:Int)=some ((elim f c piv.length row ys).take (piv.length+1)):=by
   rw [ZbG ω ω ω,ad]
   rfl
  simp (disch:=omega) only [pz,Zb9,gApp1,ZeY,g]
 ·rw [if_neg h]
  simp (disch:=omega) only [pz,Zb9,gApp1,Zht]
theorem Zuy {α:Type} [Inhabited α] {xs:List α} {k:Nat}:xs.set k (ix xs (k:Int))=xs:=by
 apply ZaH
 ·exact List.length_set
 ·intro i a c
  rw [List.length_set] at c
  by_cases h:(k:Int)=i
  ·subst h
   exact Zc5 (i:=(k:Int)) a c
  ·exact Zf5 (i:=(k:Int)) ω a h
theorem Zsb {f:Ze} {q w:Int} {a0:List Int} (hF:Ff f q a0) {piv:List Int} {c d:Int} {xs:List (List Int)} (j:Mat q w xs) (p:0<=c) (s:c<w) (hr:(piv.length:Int)<xs.length) (hp:¬ ix (ix xs piv.length) c=0) (d0:0<=d) (d1:d<q):
  Zgj (tabs f q a0) piv c d xs=some (if (piv.length:Int)+1=xs.length
   then .inr ((elim f c piv.length (scl f (ix xs piv.length) (ix a0 (ix (ix xs piv.length) c))) (xs.set piv.length (scl f (ix xs piv.length) (ix a0 (ix (ix xs piv.length) c))))).take (piv.length+1),piv++[c],mulA f d (ix (ix xs piv.length) c))
   else .inl (piv++[c],mulA f d (ix (ix xs piv.length) c),c+1,elim f c piv.length (scl f (ix xs piv.length) (ix a0 (ix (ix xs piv.length) c))) (xs.set piv.length (scl f (ix xs piv.length) (ix a0 (ix (ix xs piv.length) c)))))):=by
 have hq:=hF.q64;have hn:=j.n;have hw:=j.w1
 have a9:=j.len piv.length ω hr
 have a5:=j.rng piv.length ω hr
 obtain ⟨o,k⟩:=a5 c p ω
 obtain ⟨v0,v1⟩:=hF.inv1 (ix (ix xs piv.length) c) ω k
 have i1:gIdx (tabs f q a0).qmul d=some (tabl q fun b=>mulA f d b):=by rw [Zmi,Zay d0 d1]
 have i2:gIdx (tabl q fun b=>mulA f d b) (ix (ix xs piv.length) c)=some (mulA f d (ix (ix xs piv.length) c)):=Zay o k
 simp (disch:=omega) only [pz,Zgj,i1,i2]
 generalize hR:ix xs piv.length=R at *
 generalize hE:ix R c=e at *
 have a6:=Zj (B:=Zip (tabs f q a0) piv c e (mulA f d e) R) (fun t=>(t,xs.set piv.length (tabl R.length fun u=>if u<t then mulA f (ix R u) (ix a0 e) else ix R u))) (i:=0) (n:=R.length) ω fun t l a=>by
  obtain ⟨v,x⟩:=a5 t l a
  have y:(tabl R.length fun u=>if u<t then mulA f (ix R u) (ix a0 e) else ix R u).length=R.length:=by rw [Zl];omega
  have r:ix (tabl R.length fun u=>if u<t then mulA f (ix R u) (ix a0 e) else ix R u) t=ix R t:=by rw [ZH l a,if_neg ω]
  have hs:(tabl R.length fun u=>if u<t then mulA f (ix R u) (ix a0 e) else ix R u).set t.toNat (mulA f (ix a0 e) (ix R t))=tabl R.length fun u=>if u<t+1 then mulA f (ix R u) (ix a0 e) else ix R u:=by
   apply Zak l a
   ·intro u u0 u1 u2
    by_cases h:u<t
    ·rw [if_pos h,if_pos (show u<t+1 by omega)]
    ·rw [if_neg h,if_neg (show ¬ u<t+1 by omega)]
   ·rw [if_pos ω,hF.comm _ _ ω v1 v x]
  generalize (tabl R.length fun u=>if u<t then mulA f (ix R u) (ix a0 e) else ix R u)=A at y r hs ⊢
  have hA:ix (xs.set piv.length A) piv.length=A:=Zc5 (i:=(piv.length:Int)) ω hr
  have al:(xs.set piv.length A).length=xs.length:=List.length_set
  have i3:gIdx (tabs f q a0).qinv e=some (ix a0 e):=by rw [Zz2,Zay o k,if_pos ω]
  have i4:gIdx (tabs f q a0).qmul (ix a0 e)=some (tabl q fun b=>mulA f (ix a0 e) b):=by rw [Zmi,Zay ω v1]
  have i5:gIdx (tabl q fun b=>mulA f (ix a0 e) b) (ix R t)=some (mulA f (ix a0 e) (ix R t)):=Zay v x
  simp (disch:=omega) only [pz,Zip,hA,r,i3,i4,i5,hs,List.set_set]
 have o:((0:Int),xs)=(fun t=>(t,xs.set piv.length (tabl R.length fun u=>if u<t then mulA f (ix R u) (ix a0 e) else ix R u))) 0:=by
  show _=((0:Int),xs.set piv.length _)
  congr 1
  have:(tabl R.length fun u=>if u<0 then mulA f (ix R u) (ix a0 e) else ix R u)=R:=by
   refine Eq.trans (ZM fun t l a=>?_) (Zbg R)
   rw [if_neg ω]
  rw [this,<-hR,Zuy]
 rw [o,a6]
 refine Zc ?_
 have k:(tabl R.length fun u=>if u<(R.length:Int) then mulA f (ix R u) (ix a0 e) else ix R u)=scl f R (ix a0 e):=ZM fun t l a=>by rw [if_pos a]
 simp only [k]
 have a3:((scl f R (ix a0 e)).length:Int)=w:=by rw [Zif];exact a9
 have a2:In q (scl f R (ix a0 e)):=Zk2 hF
 generalize scl f R (ix a0 e)=row at a3 a2 ⊢
 have hy:Mat q w (xs.set piv.length row):=j.set (i:=(piv.length:Int)) ω a2 a3
 have aa:ix (xs.set piv.length row) piv.length=row:=Zc5 (i:=(piv.length:Int)) ω hr
 have a8:(xs.set piv.length row).length=xs.length:=List.length_set
 have hL:=ZIb hF (d:=mulA f d e) hy p s ω a3 a2 aa
 rw [a8] at hL
 simp (disch:=omega) only [pz,Zip]
 rw [hL]
 by_cases h:(piv.length:Int)+1=xs.length
 ·rw [if_pos h,if_pos h]
 ·rw [if_neg h,if_neg h]
theorem ZIp {f:Ze} {q w:Int} {piv:List Int} {c:Int} {xs:List (List Int)} (k:Mat q w xs) (a0:0<=c) (a1:c<w) (hr:(piv.length:Int)<=xs.length):
  ∃ i:Int,(piv.length:Int)<=i/\i<=xs.length/\(∀ j,(piv.length:Int)<=j->j<i->ix (ix xs j) c=0)/\(i<xs.length->¬ ix (ix xs i) c=0)/\Zkd f piv c xs=ZaF f piv c xs i:=by
 have hn:=k.n
 have a6:∀ (d:Nat) (i:Int),i+d=xs.length->(piv.length:Int)<=i->(∀ j,(piv.length:Int)<=j->j<i->ix (ix xs j) c=0)->∃ i':Int,(piv.length:Int)<=i'/\i'<=xs.length/\(∀ j,(piv.length:Int)<=j->j<i'->ix (ix xs j) c=0)/\(i'<xs.length->¬ ix (ix xs i') c=0)/\loop (ZcZ f piv c xs) i=ZaF f piv c xs i':=by
  intro d
  induction d with
  | zero=>
   intro i hi a3 ha
   refine ⟨i,a3,by omega,ha,fun h=>by omega,?_⟩
   have hB:ZcZ f piv c xs i=(ZaF f piv c xs i).map fun x=>.inr x:=by
    simp (disch:=omega) only [pz,ZcZ]
   cases hk:ZaF f piv c xs i with
   | none=>
    exfalso
    unfold ZaF at hk
    obtain rfl:i=(xs.length:Int):=ω
    have:((xs.length:Int)==(xs.length:Int))=true:=by simp
    rw [this] at hk
    cases hk
   | some r=>rw [hk] at hB;exact Zc hB
  | succ d ih=>
   intro i hi a3 ha
   have hl:=k.len i ω ω
   by_cases h:ix (ix xs i) c=0
   ·obtain ⟨i',o,p,s,u,v⟩:=ih (i+1) ω ω fun j l y=>by
     by_cases e:j=i
     ·rw [e];exact h
     ·exact ha j l ω
    refine ⟨i',o,p,s,u,?_⟩
    rw [<-v]
    refine Zv ?_
    simp (disch:=omega) only [pz,ZcZ,h]
   ·refine ⟨i,a3,by omega,ha,fun _=>h,?_⟩
    have hB:ZcZ f piv c xs i=(ZaF f piv c xs i).map fun x=>.inr x:=by
     simp (disch:=omega) only [pz,ZcZ,h]
    cases hk:ZaF f piv c xs i with
    | none=>
     rw [hk] at hB
     cases hl:loop (ZcZ f piv c xs) i with
     | none=>rfl
     | some r=>
      obtain ⟨m,hm⟩:=Zax hl
      obtain ⟨_,a,_,h1,_⟩:=Zh hm
      rw [hB] at h1
      cases h1
    | some r=>rw [hk] at hB;exact Zc hB
 unfold Zkd
 exact a6 (xs.length-piv.length) piv.length ω ω fun j l y=>by omega
theorem ZD4 {q w:Int} {piv:List Int} {c i:Int} {xs:List (List Int)} (a:Mat q w xs) (l:0<=c) (o:c<w) (hr:(piv.length:Int)<=xs.length) (p:(piv.length:Int)<=i) (r:i<=xs.length) (hz:∀ j,(piv.length:Int)<=j->j<i->ix (ix xs j) c=0) (hp:i<xs.length->¬ ix (ix xs i) c=0):
  Zg8 (xs.drop piv.length) (fun f=>ZfJ f c)=some (if i<xs.length then i-piv.length else -1):=by
 have s:=a.n
 unfold Zg8
 have a2:((xs.drop piv.length).length:Int)=(xs.length:Int)-piv.length:=by rw [List.length_drop];omega
 have u:∀ k,0<=k->ix (xs.drop piv.length) k=ix xs (piv.length+k):=fun k k0=>Zm4 (i:=(piv.length:Int)) ω k0
 have x:=Zj (B:=Zcm (xs.drop piv.length) (fun f=>ZfJ f c)) (fun k=>k) (i:=0) (n:=i-piv.length) ω fun k k0 k1=>by
  have hl:=a.len (piv.length+k) ω ω
  have y:=hz (piv.length+k) ω ω
  simp (disch:=omega) only [pz,Zcm,ZfJ,u,y]
 rw [x]
 refine Zc ?_
 by_cases h:i<xs.length
 ·rw [if_pos h]
  have hl:=a.len i ω h
  have a1:=hp h
  have e:(piv.length:Int)+(i-piv.length)=i:=ω
  simp (disch:=omega) only [pz,Zcm,ZfJ,u,e]
 ·rw [if_neg h]
  simp (disch:=omega) only [pz,Zcm]
theorem ZuL {xs:List (List Int)} {k:Nat} (h:k<=xs.length):gSl xs 0 (k:Int)=some (xs.take k):=by
 rw [ZbG ω ω ω]
 simp
theorem ZE7 {f:Ze} {q w:Int} {a0:List Int} (hF:Ff f q a0):∀ (n:Nat) (c:Int) (piv:List Int) (xs:List (List Int)) (d:Int),c+n=w->0<=c->(piv.length:Int)<xs.length->Mat q w xs->0<=d->d<q ->
  ∃ R a1 d',loop (Zc1 f w) (piv,c,xs)=some (R,a1)/\a1.length<=R.length/\R.length=xs.length/\Mat q w R/\loop (ZbV (tabs f q a0)) (piv,d,c,xs)=some (R.take a1.length,a1,d'):=by
 intro n
 induction n with
 | zero=>
  intro c piv xs d hc j hp a o p
  have hn:=a.n;have hw:=a.w1
  have x:=a.len 0 ω ω
  refine ⟨xs,piv,d,Zc ?_,by omega,rfl,a,Zc ?_⟩
  ·simp (disch:=omega) only [pz,Zc1]
  ·simp (disch:=omega) only [pz,ZbV,ZeY,ZuL]
 | succ n ih=>
  intro c piv xs d hc j hp a o p
  have hn:=a.n;have hw:=a.w1;have a7:=hF.q2
  have x:=a.len 0 ω ω
  obtain ⟨i,y,i1,iz,ip,hs⟩:=ZIp (f:=f) (piv:=piv) a j ω ω
  have hi:=ZD4 (piv:=piv) a j ω ω y i1 iz ip
  have ab:gSl xs (piv.length:Int) (xs.length:Int)=some (xs.drop piv.length):=ZlB (lo:=(piv.length:Int)) ω ω
  have hB:Zc1 f w (piv,c,xs)=ZaF f piv c xs i:=by
   rw [<-hs]
   simp (disch:=omega) only [pz,Zc1]
  by_cases h:i<xs.length
  ·rw [if_pos h] at hi
   have aa:=ip h
   have ae:=Zyt hF (piv:=piv) a j (by omega:c<w) y h aa
   rw [ae] at hB
   rw [Zv hB]
   have ai:=a.len i ω h
   have aj:=a.rng i ω h
   have am:=a.len piv.length ω hp
   have al:=a.rng piv.length ω hp
   have ac:In q (scl f (ix xs i) (ix a0 (ix (ix xs i) c))):=Zk2 hF
   have a6:((scl f (ix xs i) (ix a0 (ix (ix xs i) c))).length:Int)=w:=by rw [Zif];exact ai
   obtain ⟨m0,m1⟩:=aj c j ω
   have hI:∃ d',0<=d'/\d'<q/\ZbV (tabs f q a0) (piv,d,c,xs)=some (if (piv.length:Int)+1=xs.length
     then .inr ((elim f c piv.length (scl f (ix xs i) (ix a0 (ix (ix xs i) c))) ((xs.set i.toNat (ix xs piv.length)).set piv.length (scl f (ix xs i) (ix a0 (ix (ix xs i) c))))).take (piv.length+1),piv++[c],d')
     else .inl (piv++[c],d',c+1,elim f c piv.length (scl f (ix xs i) (ix a0 (ix (ix xs i) c))) ((xs.set i.toNat (ix xs piv.length)).set piv.length (scl f (ix xs i) (ix a0 (ix (ix xs i) c)))))):=by
    by_cases a9:i=piv.length
    ·subst a9
     have hk:=Zsb hF (piv:=piv) a j (by omega:c<w) hp aa o p
     obtain ⟨k,l⟩:=Zc3 hF.fd hF.pw d (ix (ix xs piv.length) c)
     refine ⟨_,k,l,?_⟩
     rw [Int.toNat_natCast,Zuy]
     rw [Int.sub_self] at hi
     rw [<-hk]
     simp (disch:=omega) only [pz,ZbV,Zhr,ab,hi]
    ·have av:Mat q w ((xs.set piv.length (ix xs i)).set i.toNat (ix xs piv.length)):=(a.set (i:=(piv.length:Int)) ω aj ai).set ω al am
     have an:((xs.set piv.length (ix xs i)).set i.toNat (ix xs piv.length)).length=xs.length:=by rw [List.length_set,List.length_set]
     have a4:(xs.set piv.length (ix xs i)).length=xs.length:=List.length_set
     have ah:ix ((xs.set piv.length (ix xs i)).set i.toNat (ix xs piv.length)) piv.length=ix xs i:=by
      rw [Zf5 ω ω a9]
      exact Zc5 (i:=(piv.length:Int)) ω hp
     have aq:∀ row,((xs.set piv.length (ix xs i)).set i.toNat (ix xs piv.length)).set piv.length row=(xs.set i.toNat (ix xs piv.length)).set piv.length row:=fun row=>by
      rw [List.set_comm (ix xs i) (ix xs piv.length) (by omega:piv.length≠i.toNat),List.set_set]
     obtain ⟨n0,n1⟩:=Zj3 hF.fd hF.pw 0 d (f.Prime-1)
     have hk:=Zsb hF (piv:=piv) (d:=sumA f 0 d (f.Prime-1)) av j (by omega:c<w) ω (by rw [ah];exact aa) n0 n1
     rw [ah,an,aq] at hk
     obtain ⟨k,l⟩:=Zc3 hF.fd hF.pw (sumA f 0 d (f.Prime-1)) (ix (ix xs i) c)
     refine ⟨_,k,l,?_⟩
     rw [<-hk]
     have j1:gIdx (tabs f q a0).qsub 0=some (tabl q fun b=>sumA f 0 b (f.Prime-1)):=by rw [Zud,Zay ω ω]
     have j2:gIdx (tabl q fun b=>sumA f 0 b (f.Prime-1)) d=some (sumA f 0 d (f.Prime-1)):=Zay o p
     have e:(piv.length:Int)+(i-piv.length)=i:=ω
     simp (disch:=omega) only [pz,ZbV,Zhr,ab,hi,e,j1,j2]
   obtain ⟨d',k,l,hI⟩:=hI
   have ap:((xs.set i.toNat (ix xs piv.length)).set piv.length (scl f (ix xs i) (ix a0 (ix (ix xs i) c)))).length=xs.length:=by rw [List.length_set,List.length_set]
   have ax:Mat q w ((xs.set i.toNat (ix xs piv.length)).set piv.length (scl f (ix xs i) (ix a0 (ix (ix xs i) c)))):=(a.set ω al am).set (i:=(piv.length:Int)) ω ac a6
   have af:Mat q w (elim f c piv.length (scl f (ix xs i) (ix a0 (ix (ix xs i) c))) ((xs.set i.toNat (ix xs piv.length)).set piv.length (scl f (ix xs i) (ix a0 (ix (ix xs i) c))))):=Mat.elim hF ax ac a6
   have ak:(elim f c piv.length (scl f (ix xs i) (ix a0 (ix (ix xs i) c))) ((xs.set i.toNat (ix xs piv.length)).set piv.length (scl f (ix xs i) (ix a0 (ix (ix xs i) c))))).length=xs.length:=by rw [ZeI,ap]
   generalize elim f c piv.length (scl f (ix xs i) (ix a0 (ix (ix xs i) c))) ((xs.set i.toNat (ix xs piv.length)).set piv.length (scl f (ix xs i) (ix a0 (ix (ix xs i) c))))=E at hI af ak ⊢
   have aw:(piv++[c]).length=piv.length+1:=by simp
   by_cases a8:(piv.length:Int)+1=xs.length
   ·rw [if_pos a8] at hI
    refine ⟨E,piv++[c],d',Zc ?_,by omega,ak,af,?_⟩
    ·by_cases b5:c+1<w
     ·simp (disch:=omega) only [pz,Zc1]
     ·simp (disch:=omega) only [pz,Zc1]
    ·rw [aw];exact Zc hI
   ·rw [if_neg a8] at hI
    rw [Zv hI]
    obtain ⟨R,a1,ad,r,s,g3,u,v⟩:=ih (c+1) (piv++[c]) E d' ω ω ω af k l
    exact ⟨R,a1,ad,r,s,by omega,u,v⟩
  ·rw [if_neg h] at hi
   have ae:ZaF f piv c xs i=some (.inl (piv,c+1,xs)):=by
    obtain rfl:i=(xs.length:Int):=ω
    simp (disch:=omega) only [pz,ZaF]
   rw [ae] at hB
   rw [Zv hB]
   have hI:ZbV (tabs f q a0) (piv,d,c,xs)=some (.inl (piv,0,c+1,xs)):=by
    simp (disch:=omega) only [pz,ZbV,Zhr,Zht,ab,hi]
   rw [Zv hI]
   obtain ⟨R,a1,ad,r,s,g3,u,v⟩:=ih (c+1) piv xs 0 ω ω hp a ω ω
   exact ⟨R,a1,ad,r,s,g3,u,v⟩
theorem ZqE {m:List (List Int)} (hs:Sz2 m):ZhF m=some m:=by
 unfold ZhF
 have h1:=hs.1
 have h:=Zj (B:=ZhM m) (fun k=>(m.take k.toNat,k)) (i:=0) (n:=m.length) ω fun k a h1=>by
  have l:=Ztt (hs.2 (ix m k) (Zn a h1))
  have j:(m.take k.toNat).length=k.toNat:=by rw [List.length_take];omega
  simp (disch:=omega) only [pz,ZhM,l,gApp1,j,Zap]
 have c:(([]:List (List Int)),(0:Int))=(fun k:Int=>(m.take k.toNat,k)) 0:=by simp
 rw [c,h]
 refine Zc ?_
 have e:m.take (m.length:Int).toNat=m:=by simp
 simp (disch:=omega) only [pz,ZhM,e]
theorem ZqA {f:Ze} {q w:Int} {r:List Int} (y:Ff f q r) {m:List (List Int)} (hs:Sz2 m) (u:Mat q w m) (hw:0<=w) (h1:1<=(m.length:Int)):
  ∃ R piv d,ZhN f m=some R/\ZjO (tabs f q r) m=some (R,piv,d)/\R.length<=m.length/\∀ x∈R,(x.length:Int)<=1048576:=by
 have l:=y.q2
 obtain ⟨R,piv,d,e,o,p,h,j⟩:=ZE7 y w.toNat 0 [] m 1 ω ω (by simp;omega) u ω ω
 have c:=u.len 0 ω ω
 refine ⟨R.take piv.length,piv,d,?_,?_,by rw [List.length_take];omega,fun x k=>?_⟩
 ·unfold ZhN Zpb
  rw [ZqE hs]
  simp (disch:=omega) only [pz,c,e,ZuL]
 ·unfold ZjO
  rw [Zb0 hs]
  exact j
 ·obtain ⟨i,a,b,rfl⟩:=Z0 (List.mem_of_mem_take k)
  have:=h.len i a b
  have:=u.w1
  omega
theorem ZjC {α:Type} {R:α->α->Prop} (asym:∀ x y,R x y->¬ R y x):∀ {a b:List α},a.Pairwise R->b.Pairwise R->(∀ x,x∈a↔x∈b)->a=b
 | [],[],_,_,_=>rfl
 | [],y::b,_,_,h=>by have:=(h y).2 (List.mem_cons_self ..);simp at this
 | x::a,[],_,_,h=>by have:=(h x).1 (List.mem_cons_self ..);simp at this
 | x::a,y::b,ha,c,h=>by
  rw [List.pairwise_cons] at ha c
  have irr:∀ x,¬ R x x:=fun x f=>asym x x f f
  have e:x=y:=by
   rcases List.mem_cons.1 ((h x).1 (List.mem_cons_self ..)) with e|f
   ·exact e
   ·rcases List.mem_cons.1 ((h y).2 (List.mem_cons_self ..)) with e|hy
    ·exact e.symm
    ·exact absurd (ha.1 y hy) (asym _ _ (c.1 x f))
  subst e
  rw [ZjC asym ha.2 c.2 fun z=>?_]
  constructor
  ·intro hz
   rcases List.mem_cons.1 ((h z).1 (List.mem_cons_of_mem _ hz)) with e|hz'
   ·subst e;exact absurd (ha.1 z hz) (irr z)
   ·exact hz'
  ·intro hz
   rcases List.mem_cons.1 ((h z).2 (List.mem_cons_of_mem _ hz)) with e|hz'
   ·subst e;exact absurd (c.1 z hz) (irr z)
   ·exact hz'
def insL {α:Type} (c:α->Int) (y:α):List α->List α
 | []=>[y]
 | x::r=>if c x<0 then x::insL c y r else if c x=0 then x::r else y::x::r
theorem Zhg {α:Type} {c:α->Int} {y:α} (e:∀ x,c x=0->x=y):∀ {l:List α} {z:α},z∈insL c y l↔z=y\/z∈l
 | [],z=>by simp [insL]
 | x::r,z=>by
  rw [insL]
  by_cases h1:c x<0
  ·rw [if_pos h1,List.mem_cons,Zhg e,List.mem_cons]
   constructor
   ·rintro (h|h|h)
    ·exact .inr (.inl h)
    ·exact .inl h
    ·exact .inr (.inr h)
   ·rintro (h|h|h)
    ·exact .inr (.inl h)
    ·exact .inl h
    ·exact .inr (.inr h)
  ·rw [if_neg h1]
   by_cases a:c x=0
   ·rw [if_pos a]
    have:=e x a
    subst this
    constructor
    ·exact .inr
    ·rintro (h|h)
     ·rw [h];exact List.mem_cons_self ..
     ·exact h
   ·rw [if_neg a,List.mem_cons]
theorem ZlZ {α:Type} {R:α->α->Prop} {c:α->Int} {y:α} (i:∀ x,c x=0->x=y) (h1:∀ x,c x<0->R x y) (a:∀ x,0<c x->R y x) (k:∀ x y z,R x y->R y z->R x z):∀ {l:List α},l.Pairwise R->(insL c y l).Pairwise R
 | [],_=>by simp [insL]
 | x::r,h=>by
  rw [List.pairwise_cons] at h
  rw [insL]
  by_cases f:c x<0
  ·rw [if_pos f,List.pairwise_cons]
   refine ⟨fun z hz=>?_,ZlZ i h1 a k h.2⟩
   rcases (Zhg i).1 hz with e|hz
   ·rw [e];exact h1 x f
   ·exact h.1 z hz
  ·rw [if_neg f]
   by_cases j:c x=0
   ·rw [if_pos j,List.pairwise_cons];exact h
   ·rw [if_neg j,List.pairwise_cons,List.pairwise_cons]
    refine ⟨fun z hz=>?_,h⟩
    rcases List.mem_cons.1 hz with e|hz
    ·rw [e];exact a x ω
    ·exact k _ _ _ (a x ω) (h.1 z hz)
theorem ZmI {α:Type} (c:α->Int) (y:α):∀ (l:List α),(insL c y l).length<=l.length+1
 | []=>by simp [insL]
 | x::r=>by
  have:=ZmI c y r
  rw [insL]
  split
  ·simp only [List.length_cons];omega
  ·split
   ·simp
   ·simp
theorem ZtL {l:List Int} {n:Int} (w:(l.length:Int)<=1000000):∀ (t:List Int) (i:Int) (o:List Int),0<=i->l.drop i.toNat=t->i<=(l.length:Int)->(o.length:Int)<=i+1->loop (ZaK l n) (o,true,i)=some (o++t):=by
 intro t
 induction t with
 | nil=>
  intro i o e c k r
  have hi:i=(l.length:Int):=by have:=congrArg List.length c;simp at this;omega
  rw [List.append_nil]
  refine Zc ?_
  simp (disch:=omega) only [pz,ZaK]
 | cons a t u=>
  intro i o e c k r
  have f:i<(l.length:Int):=by have:=congrArg List.length c;simp at this;omega
  have h:=ZaE (xs:=l) e f
  rw [c] at h
  obtain ⟨rfl,j⟩:=List.cons.inj h
  have hB:ZaK l n (o,true,i)=some (.inl (o++[ix l i],true,i+1)):=by
   simp (disch:=omega) only [pz,ZaK,Zd2,Zcz]
  rw [Zv hB,u (i+1) _ ω j.symm ω (by rw [List.length_append,List.length_singleton];omega),List.append_assoc];rfl
theorem ZBo {l:List Int} {n:Int} (u:(l.length:Int)<=1000000):∀ (t:List Int) (i:Int) (r:List Int),0<=i->l.drop i.toNat=t->i<=(l.length:Int)->(r.length:Int)<=i->loop (ZaK l n) (r,false,i)=some (r++insL (fun x=>x-n) n t):=by
 intro t
 induction t with
 | nil=>
  intro i r f e o y
  have hi:i=(l.length:Int):=by have:=congrArg List.length e;simp at this;omega
  refine Zc ?_
  simp (disch:=omega) only [pz,ZaK,insL]
 | cons a t w=>
  intro i r f e o y
  have h:i<(l.length:Int):=by have:=congrArg List.length e;simp at this;omega
  have j:=ZaE (xs:=l) f h
  rw [e] at j
  obtain ⟨rfl,c⟩:=List.cons.inj j
  rw [insL]
  by_cases h1:ix l i-n<0
  ·rw [if_pos h1]
   have hB:ZaK l n (r,false,i)=some (.inl (r++[ix l i],false,i+1)):=by
    simp (disch:=omega) only [pz,ZaK,Zd2,Zcz]
   rw [Zv hB,w (i+1) _ ω c.symm ω (by rw [List.length_append,List.length_singleton];omega),List.append_assoc];rfl
  ·rw [if_neg h1]
   by_cases k:ix l i-n=0
   ·rw [if_pos k]
    have hB:ZaK l n (r,false,i)=some (.inl (r++[ix l i],true,i+1)):=by
     simp (disch:=omega) only [pz,ZaK,Zd2,Zcz]
    rw [Zv hB,ZtL u t (i+1) _ ω c.symm ω (by rw [List.length_append,List.length_singleton];omega),List.append_assoc];rfl
   ·rw [if_neg k]
    have hB:ZaK l n (r,false,i)=some (.inl (r++[n]++[ix l i],true,i+1)):=by
     have p:(r++[n]).length=r.length+1:=by simp
     simp (disch:=omega) only [pz,ZaK,Zd2,Zcz]
    rw [Zv hB,ZtL u t (i+1) _ ω c.symm ω (by rw [List.length_append,List.length_append,List.length_singleton,List.length_singleton];omega),List.append_assoc,List.append_assoc];rfl
theorem ZxK {l:List Int} {n:Int} (a:(l.length:Int)<=1000000):Zoi l n=some (insL (fun x=>x-n) n l):=ZBo a l 0 [] (Int.le_refl 0) rfl ω (by simp)
theorem ZsH {l:List (List Int)} {y:List Int} (hl:(l.length:Int)<=1000000) (u:∀ x∈l,(x.length:Int)<=1048576):∀ (t:List (List Int)) (i:Int) (r:List (List Int)),0<=i->l.drop i.toNat=t->i<=(l.length:Int)->(r.length:Int)<=i+1->loop (ZaN l y) (r,true,i)=some (r++t):=by
 intro t
 induction t with
 | nil=>
  intro i r f c k ho
  have hi:i=(l.length:Int):=by have:=congrArg List.length c;simp at this;omega
  rw [List.append_nil]
  refine Zc ?_
  simp (disch:=omega) only [pz,ZaN]
 | cons a t w=>
  intro i r f c k ho
  have e:i<(l.length:Int):=by have:=congrArg List.length c;simp at this;omega
  have h:=ZaE (xs:=l) f e
  rw [c] at h
  obtain ⟨rfl,j⟩:=List.cons.inj h
  have o:=Zbx (a:=ix l i) (b:=y) (by have:=u _ (Zn f e);omega)
  have hB:ZaN l y (r,true,i)=some (.inl (r++[ix l i],true,i+1)):=by
   simp (disch:=omega) only [pz,ZaN,Zd8,Zco,o]
  rw [Zv hB,w (i+1) _ ω j.symm ω (by rw [List.length_append,List.length_singleton];omega),List.append_assoc];rfl
theorem Zz3 {l:List (List Int)} {y:List Int} (hl:(l.length:Int)<=1000000) (w:∀ x∈l,(x.length:Int)<=1048576):∀ (t:List (List Int)) (i:Int) (u:List (List Int)),0<=i->l.drop i.toNat=t->i<=(l.length:Int)->(u.length:Int)<=i->loop (ZaN l y) (u,false,i)=some (u++insL (fun x=>cmpL x y) y t):=by
 intro t
 induction t with
 | nil=>
  intro i u h e p ho
  have hi:i=(l.length:Int):=by have:=congrArg List.length e;simp at this;omega
  refine Zc ?_
  simp (disch:=omega) only [pz,ZaN,insL]
 | cons a t ih=>
  intro i u h e p ho
  have f:i<(l.length:Int):=by have:=congrArg List.length e;simp at this;omega
  have k:=ZaE (xs:=l) h f
  rw [e] at k
  obtain ⟨rfl,c⟩:=List.cons.inj k
  have j:=Zbx (a:=ix l i) (b:=y) (by have:=w _ (Zn h f);omega)
  rw [insL]
  by_cases h1:cmpL (ix l i) y<0
  ·rw [if_pos h1]
   have hB:ZaN l y (u,false,i)=some (.inl (u++[ix l i],false,i+1)):=by
    simp (disch:=omega) only [pz,ZaN,Zd8,Zco,j]
   rw [Zv hB,ih (i+1) _ ω c.symm ω (by rw [List.length_append,List.length_singleton];omega),List.append_assoc];rfl
  ·rw [if_neg h1]
   by_cases o:cmpL (ix l i) y=0
   ·rw [if_pos o]
    have hB:ZaN l y (u,false,i)=some (.inl (u++[ix l i],true,i+1)):=by
     simp (disch:=omega) only [pz,ZaN,Zd8,Zco,j]
    rw [Zv hB,ZsH hl w t (i+1) _ ω c.symm ω (by rw [List.length_append,List.length_singleton];omega),List.append_assoc];rfl
   ·rw [if_neg o]
    have hB:ZaN l y (u,false,i)=some (.inl (u++[y]++[ix l i],true,i+1)):=by
     have r:(u++[y]).length=u.length+1:=by simp
     simp (disch:=omega) only [pz,ZaN,Zd8,Zco,j]
    rw [Zv hB,ZsH hl w t (i+1) _ ω c.symm ω (by rw [List.length_append,List.length_append,List.length_singleton,List.length_singleton];omega),List.append_assoc,List.append_assoc];rfl
theorem ZBf {l:List (List Int)} {y:List Int} (a:(l.length:Int)<=1000000) (e:∀ x∈l,(x.length:Int)<=1048576):ZnP l y=some (insL (fun x=>cmpL x y) y l):=Zz3 a e l 0 [] (Int.le_refl 0) rfl ω (by simp)
structure SetIn (s:List Int) (n:Int):Prop where
 srt:s.Pairwise (·<·)
 rng:∀ x∈s,0<=x/\x<n
def LtR (a b:List Int):Prop:=cmpL a b<0
theorem LtR.asym (x y:List Int) (h:LtR x y):¬ LtR y x:=fun k=>by
 unfold LtR at h k
 have:=Zbq x y
 omega
theorem Ztl {f:List Int->List Int->Option Bool} (w:∀ a b,(a.length:Int)<=1000->f a b=some (decide (a=b))):∀ (l:List (List Int)) (p:List Int),(∀ x∈l,(x.length:Int)<=1000)->(p::l).Pairwise (fun a b=>lexC a b<=0) ->
  ∃ q,cpt f p l=some q/\(p::q).Pairwise LtR/\(∀ z,z∈p::q↔z∈p::l)/\q.length<=l.length
 | [],p,_,_=>⟨[],rfl,by simp,by simp,Nat.le_refl _⟩
 | y::l,p,hl,hs=>by
  rw [List.pairwise_cons] at hs
  obtain ⟨q,c,q2,i,k⟩:=Ztl w l y (fun x j=>hl x (List.mem_cons_of_mem _ j)) hs.2
  have r:=w y p (hl y (List.mem_cons_self ..))
  have u:=hs.1 y (List.mem_cons_self ..)
  rw [Zdw] at u
  by_cases e:y=p
  ·subst e
   refine ⟨q,?_,q2,fun z=>?_,by simp;omega⟩
   ·rw [cpt,r,c];simp
   ·rw [i];simp
  ·refine ⟨y::q,?_,?_,fun z=>?_,by simp;omega⟩
   ·rw [cpt,r,c];simp [e]
   ·have o:LtR p y:=by
     unfold LtR
     have:cmpL p y≠0:=fun h=>e ((ZaA _ _).1 h).symm
     omega
    rw [List.pairwise_cons]
    refine ⟨fun z hz=>?_,q2⟩
    rcases List.mem_cons.1 hz with rfl|hz
    ·exact o
    ·exact Zbt _ _ _ o ((List.pairwise_cons.1 q2).1 z hz)
   ·rw [List.mem_cons,i];simp
theorem ZCO {f:List Int->List Int->Option Bool} (k:∀ a b,(a.length:Int)<=1000->f a b=some (decide (a=b))) {l:List (List Int)} (j:∀ x∈l,(x.length:Int)<=1000) (hs:l.Pairwise (fun a b=>lexC a b<=0)):
  ∃ q,cptL f l=some q/\q.Pairwise LtR/\(∀ z,z∈q↔z∈l)/\q.length<=l.length:=by
 cases l with
 | nil=>exact ⟨[],rfl,by simp,by simp,Nat.le_refl _⟩
 | cons p l=>
  obtain ⟨q,c,q2,e,i⟩:=Ztl k l p (fun x h=>j x (List.mem_cons_of_mem _ h)) hs
  exact ⟨p::q,by rw [cptL,c];rfl,q2,e,by simp;omega⟩
def dis (xs:List Int):List Int:=xs.foldl (fun l y=>insL (fun x=>x-y) y l) []
def cnt (xs:List Int):Nat:=(dis xs).length
theorem ZoR:∀ (xs l:List Int),l.Pairwise (·<·)->(xs.foldl (fun l y=>insL (fun x=>x-y) y l) l).Pairwise (·<·)/\∀ z,z∈xs.foldl (fun l y=>insL (fun x=>x-y) y l) l↔z∈l\/z∈xs
 | [],l,h=>⟨h,by simp⟩
 | y::xs,l,h=>by
  have h1:=ZlZ (R:=(·<· :Int->Int->Prop)) (c:=fun x=>x-y) (y:=y) (fun x h=>by omega) (fun x h=>by omega) (fun x h=>by omega) (fun x y z a b=>Int.lt_trans a b) h
  obtain ⟨e,f⟩:=ZoR xs _ h1
  refine ⟨e,fun z=>?_⟩
  rw [List.foldl_cons,f,Zhg (fun x h=>by omega),List.mem_cons]
  constructor
  ·rintro ((h|h)|h)
   ·exact .inr (.inl h)
   ·exact .inl h
   ·exact .inr (.inr h)
  ·rintro (h|h|h)
   ·exact .inl (.inr h)
   ·exact .inl (.inl h)
   ·exact .inr h
theorem Zlm (xs:List Int):(dis xs).Pairwise (·<·):=(ZoR xs [] (by simp)).1
theorem Zcy {xs:List Int} {z:Int}:z∈dis xs↔z∈xs:=by rw [dis,(ZoR xs [] (by simp)).2];simp
theorem ZxS (xs:List Int):(dis xs).Nodup:=(Zlm xs).imp fun h=>by omega
theorem Zw9 {xs l:List Int} (hp:l.Pairwise (·<·)) (e:∀ z,z∈l↔z∈xs):l=dis xs:=ZjC (fun x y a b=>by omega) hp (Zlm xs) fun z=>by rw [e,Zcy]
theorem Zp9 {xs l:List Int} (h:∀ z∈xs,z∈l):cnt xs<=l.length:=ZcV (ZxS xs) fun z hz=>h z (Zcy.1 hz)
theorem ZdU (xs:List Int):cnt xs<=xs.length:=Zp9 fun _ h=>h
theorem ZFF {xs l:List Int} (a:l.Nodup) (h:∀ z∈l,z∈xs):l.length<=cnt xs:=ZcV a fun z hz=>Zcy.2 (h z hz)
theorem Zhx {xs:List Int} {z:Int} (h:z∈xs):(xs.idxOf z:Int)<(xs.length:Int)/\ix xs (xs.idxOf z:Int)=z:=by
 have h1:=List.idxOf_lt_length_of_mem h
 refine ⟨by omega,ZP ?_⟩
 rw [List.getElem?_eq_getElem h1,List.getElem_idxOf h1]
theorem Zwh {xs k:List Int} (o:xs.length=k.length) (h:∀ i j:Int,0<=i->i<(xs.length:Int)->0<=j->j<(xs.length:Int)->ix k i=ix k j->ix xs i=ix xs j):cnt xs<=cnt k:=by
 have:cnt xs<=((dis k).map fun z=>ix xs (k.idxOf z:Int)).length:=Zp9 fun z hz=>by
  obtain ⟨i,a,c,rfl⟩:=Z0 hz
  have l:ix k i∈k:=Zn a ω
  refine List.mem_map.2 ⟨ix k i,Zcy.2 l,?_⟩
  obtain ⟨h1,e⟩:=Zhx l
  exact h _ _ ω ω a c e
 rwa [List.length_map] at this
def sgl (cells:List Int) (v:Int):List Int:=tabl cells.length fun w=>if w=v then 2*ix cells w else 2*ix cells w+1
theorem Zgp (cells:List Int) (v:Int):(sgl cells v).length=cells.length:=by unfold sgl;rw [Zl];omega
theorem ZpQ {cells:List Int} {v w:Int} (a:0<=w) (h1:w<(cells.length:Int)):ix (sgl cells v) w=if w=v then 2*ix cells w else 2*ix cells w+1:=ZH a h1
theorem ZsO {cells:List Int} {u v:Int} (c:0<=u) (e:u<(cells.length:Int)) (v0:0<=v) (v1:v<(cells.length:Int)) (r:u≠v) (h:ix cells u=ix cells v):cnt cells+1<=cnt (sgl cells v):=by
 have o:∀ w:Int,0<=w->w<(cells.length:Int)->ix (sgl cells v) w∈sgl cells v:=fun w a b=>Zn a (by rw [Zgp];exact b)
 have:=ZFF (xs:=sgl cells v) (l:=(2*ix cells v)::(dis cells).map fun x=>2*x+1) (by
  rw [List.nodup_cons]
  refine ⟨fun y=>?_,?_⟩
  ·obtain ⟨x,_,f⟩:=List.mem_map.1 y;omega
  ·have:=(Zlm cells).map (fun x=>2*x+1) (S:=(·≠· :Int->Int->Prop)) (fun a b a0=>by omega)
   exact this) (by
  intro z hz
  rcases List.mem_cons.1 hz with rfl|hz
  ·have:=o v v0 v1
   rwa [ZpQ v0 v1,if_pos rfl] at this
  ·obtain ⟨x,f,rfl⟩:=List.mem_map.1 hz
   obtain ⟨i,j,k,rfl⟩:=Z0 (Zcy.1 f)
   by_cases hi:i=v
   ·have:=o u c e
    rw [ZpQ c e,if_neg r,h] at this
    rw [hi];exact this
   ·have:=o i j k
    rwa [ZpQ j k,if_neg hi] at this)
 simpa [cnt] using this
def keyAt (near:List (List Int)) (cells:List Int) (v:Int):List Int:=ix cells v::sortI ((ix near v).map fun w=>ix cells w)
def rkeys (near:List (List Int)) (cells:List Int):List (List Int):=tabl near.length (keyAt near cells)
def kindsOf (keys:List (List Int)):List (List Int):=keys.foldl (fun l y=>insL (fun x=>cmpL x y) y l) []
theorem ZjJ:∀ (xs l:List (List Int)),l.Pairwise LtR->(xs.foldl (fun l y=>insL (fun x=>cmpL x y) y l) l).Pairwise LtR/\(∀ z,z∈xs.foldl (fun l y=>insL (fun x=>cmpL x y) y l) l↔z∈l\/z∈xs)/\(xs.foldl (fun l y=>insL (fun x=>cmpL x y) y l) l).length<=l.length+xs.length
 | [],l,h=>⟨h,by simp,by simp⟩
 | y::xs,l,h=>by
  have h1:=ZlZ (R:=LtR) (c:=fun x=>cmpL x y) (y:=y) (fun x h=>(ZaA _ _).1 h) (fun x h=>h) (fun x h=>by
   have:=Zbq x y
   show cmpL y x<0
   omega) (fun x y z a b=>Zbt _ _ _ a b) h
  obtain ⟨e,f,i⟩:=ZjJ xs _ h1
  have j:=ZmI (fun x=>cmpL x y) y l
  refine ⟨e,fun z=>?_,by rw [List.foldl_cons,List.length_cons];omega⟩
  rw [List.foldl_cons,f,Zhg (fun x h=>(ZaA _ _).1 h),List.mem_cons]
  constructor
  ·rintro ((h|h)|h)
   ·exact .inr (.inl h)
   ·exact .inl h
   ·exact .inr (.inr h)
  ·rintro (h|h|h)
   ·exact .inl (.inr h)
   ·exact .inl (.inl h)
   ·exact .inr h
theorem Zoo (keys:List (List Int)):(kindsOf keys).Pairwise LtR:=(ZjJ keys [] (by simp)).1
theorem ZcD {keys:List (List Int)} {z:List Int}:z∈kindsOf keys↔z∈keys:=by rw [kindsOf,(ZjJ keys [] (by simp)).2.1];simp
theorem ZkW (keys:List (List Int)):(kindsOf keys).length<=keys.length:=by have:=(ZjJ keys [] (by simp)).2.2;simpa [kindsOf] using this
theorem ZG5 (x y:List Int) (h:LtR x y):¬ LtR y x:=fun k=>by
 have h:cmpL x y<0:=h
 have k:cmpL y x<0:=k
 have:=Zbq x y
 omega
theorem ZHX {keys l:List (List Int)} (hp:l.Pairwise LtR) (a:∀ z,z∈l↔z∈keys):l=kindsOf keys:=ZjC ZG5 hp (Zoo keys) fun z=>by rw [a,ZcD]
def rnd (near:List (List Int)) (cells:List Int):List Int:=(rkeys near cells).map fun x=>((kindsOf (rkeys near cells)).idxOf x:Int)
theorem Zeb (near:List (List Int)) (cells:List Int):(rkeys near cells).length=near.length:=by unfold rkeys;rw [Zl];omega
theorem Zcw (near:List (List Int)) (cells:List Int):(rnd near cells).length=near.length:=by unfold rnd;rw [List.length_map,Zeb]
theorem Zio {near:List (List Int)} {cells:List Int} {v:Int} (a:0<=v) (h1:v<(near.length:Int)):ix (rkeys near cells) v=keyAt near cells v:=ZH a h1
theorem ZiG {near:List (List Int)} {cells:List Int} {v:Int} (a:0<=v) (h1:v<(near.length:Int)):ix (rnd near cells) v=((kindsOf (rkeys near cells)).idxOf (keyAt near cells v):Int):=by
 unfold rnd
 rw [Zgb a (by rw [Zeb];exact h1),Zio a h1]
theorem Zvv {near:List (List Int)} {cells:List Int} {v:Int} (a:0<=v) (h1:v<(near.length:Int)):keyAt near cells v∈kindsOf (rkeys near cells):=by
 rw [ZcD,<-Zio a h1]
 exact Zn a (by rw [Zeb];exact h1)
theorem ZE3 {near:List (List Int)} {cells:List Int}:∀ x∈rnd near cells,0<=x/\x<(near.length:Int):=by
 intro x a
 obtain ⟨y,e,rfl⟩:=List.mem_map.1 a
 have h1:=List.idxOf_lt_length_of_mem (ZcD.2 e)
 have c:=ZkW (rkeys near cells)
 rw [Zeb] at c
 omega
theorem ZIl {near:List (List Int)} {cells:List Int} {u v:Int} (a:0<=u) (c:u<(near.length:Int)) (v0:0<=v) (v1:v<(near.length:Int)) (h:ix (rnd near cells) u=ix (rnd near cells) v):keyAt near cells u=keyAt near cells v:=by
 rw [ZiG a c,ZiG v0 v1] at h
 have h1:=List.idxOf_lt_length_of_mem (Zvv (cells:=cells) a c)
 have e:=List.idxOf_lt_length_of_mem (Zvv (cells:=cells) v0 v1)
 rw [<-List.getElem_idxOf h1,<-List.getElem_idxOf e]
 congr 1
 omega
theorem Zig {near:List (List Int)} {cells:List Int} (k:cells.length=near.length):cnt cells<=cnt (rnd near cells):=by
 refine Zwh (by rw [Zcw,k]) fun i j a e c f h=>?_
 have:=ZIl a ω c ω h
 unfold keyAt at this
 exact (List.cons.inj this).1
def refM (near:List (List Int)):Nat->List Int->List Int
 | 0,cells=>cells
 | f+1,cells=>if cnt (rnd near cells)=cnt cells then rnd near cells else refM near f (rnd near cells)
def refN (near:List (List Int)) (cells:List Int):List Int:=refM near (near.length+1) cells
theorem ZsW (near:List (List Int)):∀ (f:Nat) (cells:List Int),cells.length=near.length->near.length<f+cnt cells->(refM near f cells).length=near.length/\cnt cells<=cnt (refM near f cells)/\∀ x∈refM near f cells,0<=x/\x<(near.length:Int)
 | 0,cells,hl,hf=>by have:=ZdU cells;omega
 | f+1,cells,hl,hf=>by
  have h1:=Zig hl
  have a:=Zcw near cells
  rw [refM]
  by_cases h:cnt (rnd near cells)=cnt cells
  ·rw [if_pos h];exact ⟨a,h1,ZE3⟩
  ·rw [if_neg h]
   obtain ⟨c,i,e⟩:=ZsW near f (rnd near cells) a ω
   exact ⟨c,by omega,e⟩
theorem Zn2 {near:List (List Int)} {cells:List Int} (a:cells.length=near.length):(refN near cells).length=near.length/\cnt cells<=cnt (refN near cells)/\∀ x∈refN near cells,0<=x/\x<(near.length:Int):=ZsW near _ cells a ω
def eC (a b:Zb):Int:=if cmpI a.A b.A=0 then cmpI a.B b.B else cmpI a.A b.A
theorem ZeJ {x y:Int}:cmpI x y=0↔x=y:=by
 unfold cmpI
 split
 ·omega
 ·split<;>omega
theorem Zvc {x y:Int}:cmpI x y<0↔x<y:=by
 unfold cmpI
 split
 ·omega
 ·split<;>omega
theorem Ztn {x y:Int}:0<cmpI x y↔y<x:=by
 unfold cmpI
 split
 ·omega
 ·split<;>omega
theorem eC_lt {a b:Zb}:eC a b<0↔eLess a b:=by
 unfold eC eLess
 by_cases h:cmpI a.A b.A=0
 ·rw [if_pos h,Zvc];rw [ZeJ] at h;omega
 ·rw [if_neg h,Zvc];rw [ZeJ] at h;omega
theorem eC_gt {a b:Zb}:0<eC a b↔eLess b a:=by
 unfold eC eLess
 by_cases h:cmpI a.A b.A=0
 ·rw [if_pos h,Ztn];rw [ZeJ] at h;omega
 ·rw [if_neg h,Ztn];rw [ZeJ] at h;omega
theorem ZuA {a b:Zb}:eC a b=0↔a=b:=by
 cases a;cases b
 unfold eC
 simp only [Zb.mk.injEq]
 split
 ·rename_i h;rw [ZeJ] at h ⊢;simp [h]
 ·rename_i h;rw [ZeJ] at h ⊢;simp [h]
theorem ZBt (x y:Zb) (h:eLess x y):¬ eLess y x:=fun k=>by unfold eLess at *;omega
theorem ZlQ (x y z:Zb) (h:eLess x y) (k:eLess y z):eLess x z:=by unfold eLess at *;omega
def srtE (l:List Zb):List Zb:=l.foldl (fun l y=>insL (fun x=>eC x y) y l) []
theorem Zkt:∀ (xs l:List Zb),l.Pairwise eLess->(xs.foldl (fun l y=>insL (fun x=>eC x y) y l) l).Pairwise eLess/\(∀ z,z∈xs.foldl (fun l y=>insL (fun x=>eC x y) y l) l↔z∈l\/z∈xs)/\(xs.foldl (fun l y=>insL (fun x=>eC x y) y l) l).length<=l.length+xs.length
 | [],l,h=>⟨h,by simp,by simp⟩
 | y::xs,l,h=>by
  have h1:=ZlZ (R:=eLess) (c:=fun x=>eC x y) (y:=y) (fun x h=>ZuA.1 h) (fun x h=>eC_lt.1 h) (fun x h=>eC_gt.1 h) ZlQ h
  obtain ⟨a,e,f⟩:=Zkt xs _ h1
  have j:=ZmI (fun x=>eC x y) y l
  refine ⟨a,fun z=>?_,by rw [List.foldl_cons,List.length_cons];omega⟩
  rw [List.foldl_cons,e,Zhg (fun x h=>ZuA.1 h),List.mem_cons]
  constructor
  ·rintro ((h|h)|h)
   ·exact .inr (.inl h)
   ·exact .inl h
   ·exact .inr (.inr h)
  ·rintro (h|h|h)
   ·exact .inl (.inr h)
   ·exact .inl (.inl h)
   ·exact .inr h
theorem ZtS (l:List Zb):(srtE l).Pairwise eLess:=(Zkt l [] (by simp)).1
theorem Zve {l:List Zb} {z:Zb}:z∈srtE l↔z∈l:=by rw [srtE,(Zkt l [] (by simp)).2.1];simp
theorem ZID (l:List Zb):(srtE l).length<=l.length:=by have:=(Zkt l [] (by simp)).2.2;simpa [srtE] using this
theorem Zlf {l q:List Zb} (hp:q.Pairwise eLess) (a:∀ z,z∈q↔z∈l):q=srtE l:=ZjC ZBt hp (ZtS l) fun z=>by rw [a,Zve]
def mapE (p:List Int) (e:Zb):Zb:=⟨min (ix p e.A) (ix p e.B),max (ix p e.A) (ix p e.B)⟩
def colM (g:Za) (p:List Int):List Int:=tabl p.length fun i=>ix g.Colors (p.idxOf i:Int)
def relab (g:Za) (p:List Int):Za:=⟨colM g p,srtE (g.Edges.map (mapE p))⟩
theorem Znt {p:List Int} {n:Int} (hp:Vc.Perm p n) {i:Int} (a:0<=i) (h1:i<n):i∈p:=by
 have e:=hp.len
 have hs:=Zmk hp.nd (l':=idP n) (fun x c=>ZR.2 (hp.rng x c)) (by rw [Zag];omega)
 exact hs.mem_iff.2 (ZR.2 ⟨a,h1⟩)
theorem Zmf {p:List Int} (hp:p.Nodup) {i j:Int} (e:0<=i) (h1:i<(p.length:Int)) (k0:0<=j) (k1:j<(p.length:Int)) (h:ix p i=ix p j):i=j:=by
 have a:=Zah e h1
 have c:=Zah k0 k1
 have l1:i.toNat<p.length:=ω
 have l2:j.toNat<p.length:=ω
 rw [List.getElem?_eq_getElem l1] at a
 rw [List.getElem?_eq_getElem l2] at c
 have:p[i.toNat]=p[j.toNat]:=by rw [Option.some.inj a,Option.some.inj c,h]
 have:=(List.getElem_inj hp).1 this
 omega
theorem ZEH {p:List Int} (hp:p.Nodup) {i:Int} (c:0<=i) (h1:i<(p.length:Int)):(p.idxOf (ix p i):Int)=i:=by
 obtain ⟨a,b⟩:=Zhx (Zn c h1)
 exact Zmf hp ω a c h1 b
theorem ZbC {g:Za} (hg:ValidG g) {e:Zb} (a:e∈g.Edges):0<=e.A/\e.A<e.B/\e.B<(g.Colors.length:Int):=by
 obtain ⟨k,k0,k1,rfl⟩:=Z0 a
 exact (hg.edg k k0 k1).1
theorem ZBB {g:Za} (hg:ValidG g):g.Edges.Pairwise eLess:=by
 have h:∀ (d:Nat) (i j:Int),(j-i).toNat=d+1->0<=i->i<j->j<(g.Edges.length:Int)->eLess (ix g.Edges i) (ix g.Edges j):=by
  intro d
  induction d with
  | zero=>
   intro i j e c h1 a
   obtain rfl:i=j-1:=ω
   exact (hg.edg j ω a).2 ω
  | succ d l=>
   intro i j e c h1 a
   exact ZlQ _ _ _ (l i (j-1) ω c ω ω) ((hg.edg j ω a).2 ω)
 rw [List.pairwise_iff_getElem]
 intro i j hi k o
 have:=h (j-i-1) (i:Int) (j:Int) ω ω ω ω
 rwa [ZP (List.getElem?_eq_getElem hi),ZP (List.getElem?_eq_getElem k)] at this
theorem ZvT {g:Za} (cl:(g.Colors.length:Int)<=64) (col:∀ x∈g.Colors,0<=x/\x<=63) (el:(g.Edges.length:Int)<=512) (pw:g.Edges.Pairwise eLess) (edg:∀ e∈g.Edges,0<=e.A/\e.A<e.B/\e.B<(g.Colors.length:Int)):ValidG g:=by
 refine ⟨cl,fun k a b=>col _ (Zn a b),el,fun k a b=>⟨edg _ (Zn a b),fun h=>?_⟩⟩
 have:=List.pairwise_iff_getElem.1 pw (k-1).toNat k.toNat ω ω ω
 have c:=Zah (xs:=g.Edges) (i:=k-1) ω ω
 have f:=Zah (xs:=g.Edges) (i:=k) ω ω
 rw [List.getElem?_eq_getElem ω] at c f
 rwa [Option.some.inj c,Option.some.inj f] at this
theorem ZvM (g:Za) (p:List Int):(colM g p).length=p.length:=by unfold colM;rw [Zl];omega
theorem ZkL {g:Za} (hg:ValidG g) {p:List Int} (hp:Vc.Perm p g.Colors.length):ValidG (relab g p):=by
 have y:=hp.len
 have u:(colM g p).length=p.length:=ZvM g p
 refine ZvT (by show ((colM g p).length:Int)<=64;have:=hg.cl;omega) (fun x f=>?_) ?_ (ZtS _) fun e o=>?_
 ·obtain ⟨i,a,c,rfl⟩:=Z0 f
  have c:i<(colM g p).length:=c
  have hi:ix (colM g p) i=ix g.Colors (p.idxOf i:Int):=ZH a ω
  show 0<=ix (colM g p) i/\ix (colM g p) i<=63
  rw [hi]
  have r:=Znt hp a ω
  have:=(Zhx r).1
  exact hg.col _ ω ω
 ·have:=ZID (g.Edges.map (mapE p))
  rw [List.length_map] at this
  show ((srtE (g.Edges.map (mapE p))).length:Int)<=512
  have:=hg.el
  omega
 ·have o:e∈srtE (g.Edges.map (mapE p)):=o
  rw [Zve] at o
  obtain ⟨d,j,rfl⟩:=List.mem_map.1 o
  have k:=ZbC hg j
  have l:=hp.rng _ (Zn (xs:=p) (i:=d.A) ω ω)
  have r2:=hp.rng _ (Zn (xs:=p) (i:=d.B) ω ω)
  have w:ix p d.A≠ix p d.B:=fun h=>by have:=Zmf hp.nd ω ω ω ω h;omega
  show 0<=min _ _/\min _ _<max _ _/\max _ _<((colM g p).length:Int)
  omega
def adj (es:List Zb) (a b:Int):Bool:=es.any fun e=>(e.A==a&&e.B==b)||(e.A==b&&e.B==a)
theorem ZvB {es:List Zb} {a b:Int}:adj es a b=true↔∃ e∈es,(e.A=a/\e.B=b)\/(e.A=b/\e.B=a):=by
 unfold adj
 simp only [List.any_eq_true,Bool.or_eq_true,Bool.and_eq_true,beq_iff_eq]
def nearM (g:Za):List (List Int):=tabl g.Colors.length fun a=>(idP g.Colors.length).filter fun b=>adj g.Edges a b
theorem ZlV (g:Za):(nearM g).length=g.Colors.length:=by unfold nearM;rw [Zl];omega
theorem Zth {g:Za} {a:Int} (c:0<=a) (h1:a<(g.Colors.length:Int)):ix (nearM g) a=(idP g.Colors.length).filter fun b=>adj g.Edges a b:=ZH c h1
theorem Zxi {g:Za} {a x:Int} (c:0<=a) (h1:a<(g.Colors.length:Int)):x∈ix (nearM g) a↔(0<=x/\x<(g.Colors.length:Int))/\adj g.Edges a x=true:=by
 rw [Zth c h1,List.mem_filter,ZR]
theorem ZzH {g:Za} {a:Int} (c:0<=a) (h1:a<(g.Colors.length:Int)):(ix (nearM g) a).length<=g.Colors.length:=by
 rw [Zth c h1]
 have:=List.length_filter_le (fun b=>adj g.Edges a b) (idP g.Colors.length)
 rw [Zag] at this
 omega
def flatE (l:List Zb):List Int:=l.flatMap fun e=>[e.A,e.B]
def cmpG (g h:Za):Int:=if cmpL g.Colors h.Colors=0 then cmpL (flatE g.Edges) (flatE h.Edges) else cmpL g.Colors h.Colors
def tgt (cells:List Int):Int:=((dis cells).find? fun t=>decide (2<=cells.count t)).getD (-1)
def vts (cells:List Int) (t:Int):List Int:=(idP cells.length).filter fun v=>ix cells v==t
structure CSt where
 best:Za
 perms:List (List Int)
 nodes:Int
 leaves:Int
 full:Bool
def leafM (g:Za) (p:List Int) (s:CSt):CSt:=
 let c:=if s.perms=[] then -1 else cmpG (relab g p) s.best
 ⟨if c<0 then relab g p else s.best,if c<0 then [p] else if c=0 then s.perms++[p] else s.perms,s.nodes,s.leaves+1,s.full⟩
def srch (g:Za) (near:List (List Int)) (B:Int):Nat->List Int->CSt->CSt
 | 0,_,s=>s
 | d+1,cells,s=>if tgt cells<0 then leafM g cells s else (vts cells (tgt cells)).foldl (fun s v=>if s.full=true then s else if s.nodes=B then { s with full:=true } else srch g near B d (refN near (sgl cells v)) { s with nodes:=s.nodes+1 }) s
def stepM (g:Za) (near:List (List Int)) (B:Int) (d:Nat) (cells:List Int) (s:CSt) (v:Int):CSt:=if s.full=true then s else if s.nodes=B then { s with full:=true } else srch g near B d (refN near (sgl cells v)) { s with nodes:=s.nodes+1 }
theorem ZiK {g:Za} {near:List (List Int)} {B:Int} {d:Nat} {cells:List Int} {s:CSt}:srch g near B (d+1) cells s=if tgt cells<0 then leafM g cells s else (vts cells (tgt cells)).foldl (stepM g near B d cells) s:=rfl
theorem Zj5 {cells:List Int} {t v:Int}:v∈vts cells t↔(0<=v/\v<(cells.length:Int))/\ix cells v=t:=by
 unfold vts;rw [List.mem_filter,ZR,beq_iff_eq]
theorem ZlE {cells:List Int} {t:Int}:2<=cells.count t↔∃ i j:Int,0<=i/\i<j/\j<(cells.length:Int)/\ix cells i=t/\ix cells j=t:=by
 rw [<-List.replicate_sublist_iff]
 constructor
 ·intro h
  obtain ⟨is,h1,f⟩:=List.sublist_eq_map_getElem h
  have w:is.length=2:=by have:=congrArg List.length h1;simp at this;exact this.symm
  obtain ⟨a,b,rfl⟩:∃ a b,is=[a,b]:=by
   match is,w with
   | [a,b],_=>exact ⟨a,b,rfl⟩
  simp only [List.map_cons,List.map_nil,List.replicate,List.cons.injEq,and_true] at h1
  have u:a<b:=by simpa using f
  refine ⟨(a.val:Int),(b.val:Int),by omega,by have:a.val<b.val:=u;omega,by have:=b.isLt;omega,?_,?_⟩
  ·rw [ZP (List.getElem?_eq_getElem a.isLt)];exact h1.1.symm
  ·rw [ZP (List.getElem?_eq_getElem b.isLt)];exact h1.2.symm
 ·rintro ⟨i,j,k,y,o,hi,x⟩
  have c:=Zah (xs:=cells) (i:=i) k ω
  have e:=Zah (xs:=cells) (i:=j) ω o
  have:=List.map_getElem_sublist (l:=cells) (is:=[⟨i.toNat,by omega⟩,⟨j.toNat,by omega⟩]) (by simp;omega)
  rw [List.getElem?_eq_getElem ω] at c e
  simp only [List.map_cons,List.map_nil] at this
  have p:cells[i.toNat]=t:=by rw [Option.some.inj c,hi]
  have r:cells[j.toNat]=t:=by rw [Option.some.inj e,x]
  simpa [List.replicate,p,r] using this
theorem Zc6 {cells:List Int} (c:∀ x∈cells,0<=x):(tgt cells=-1/\cells.Nodup)\/(0<=tgt cells/\2<=cells.count (tgt cells)/\∀ t,2<=cells.count t->tgt cells<=t):=by
 unfold tgt
 cases hf:(dis cells).find? fun t=>decide (2<=cells.count t) with
 | none=>
  left
  refine ⟨rfl,List.nodup_iff_count.2 fun a=>?_⟩
  rw [List.find?_eq_none] at hf
  rcases Nat.lt_or_ge (cells.count a) 2 with h|h
  ·omega
  ·have j:a∈cells:=List.count_pos_iff.1 ω
   have:=hf a (Zcy.2 j)
   simp at this
   omega
 | some t=>
  right
  have h1:=List.find?_some hf
  have f:=List.mem_of_find?_eq_some hf
  have h1:2<=cells.count t:=by simpa using h1
  refine ⟨c t (Zcy.1 f),h1,fun u l=>?_⟩
  have j:u∈dis cells:=Zcy.2 (List.count_pos_iff.1 ω)
  obtain ⟨_,as,bs,e,k⟩:=List.find?_eq_some_iff_append.1 hf
  have hp:=Zlm cells
  rw [e] at j hp
  show t<=u
  rcases List.mem_append.1 j with h|h
  ·have:=k u h;simp at this;omega
  ·rcases List.mem_cons.1 h with h|h
   ·omega
   ·have:=(List.pairwise_cons.1 (List.pairwise_append.1 hp).2.1).1 u h;omega
structure Cel (n:Nat) (cells:List Int):Prop where
 len:cells.length=n
 rng:∀ x∈cells,0<=x/\x<(n:Int)
theorem Cel.ref {near:List (List Int)} {cells:List Int} (a:cells.length=near.length):Cel near.length (refN near cells):=⟨(Zn2 a).1,(Zn2 a).2.2⟩
theorem Cel.perm {n:Nat} {cells:List Int} (h:Cel n cells) (a:cells.Nodup):Vc.Perm cells n:=⟨by rw [h.len],h.rng,a⟩
theorem Cel.more {near:List (List Int)} {cells:List Int} (h:Cel near.length cells) (y:¬ tgt cells<0) {v:Int} (c:v∈vts cells (tgt cells)):cnt cells+1<=cnt (refN near (sgl cells v)):=by
 obtain ⟨⟨v0,v1⟩,a⟩:=Zj5.1 c
 rcases Zc6 (cells:=cells) (fun x e=>(h.rng x e).1) with ⟨h1,_⟩|⟨h1,f,_⟩
 ·omega
 obtain ⟨i,j,k,w,l,hi,r⟩:=ZlE.1 f
 have hg:=(Zn2 (near:=near) (cells:=sgl cells v) (by rw [Zgp,h.len])).2.1
 by_cases o:i=v
 ·have:=ZsO (u:=j) (v:=v) ω l v0 v1 ω (by rw [r,a]);omega
 ·have:=ZsO (u:=i) (v:=v) k ω v0 v1 o (by rw [hi,a]);omega
theorem Ztz {cells:List Int} (a:∀ x∈cells,0<=x) (k:¬ tgt cells<0):vts cells (tgt cells)≠[]:=by
 rcases Zc6 a with ⟨h1,_⟩|⟨h1,c,_⟩
 ·omega
 obtain ⟨i,j,e,h,f,hi,l⟩:=ZlE.1 c
 exact List.ne_nil_of_mem (Zj5.2 ⟨⟨e,by omega⟩,hi⟩)
structure CInv (B K:Int) (s:CSt):Prop where
 le:s.leaves<=s.nodes+K
 pl:(s.perms.length:Int)<=s.leaves
 n0:0<=s.nodes
 nB:s.nodes<=B
theorem Zow (g:Za) (near:List (List Int)) (B:Int):∀ (d:Nat) (cells:List Int) (s:CSt) (K:Int),CInv B K s->CInv B (K+1) (srch g near B d cells s)
 | 0,cells,s,K,h=>⟨by have:=h.le;show s.leaves<=s.nodes+(K+1);omega,h.pl,h.n0,h.nB⟩
 | d+1,cells,s,K,h=>by
  rw [ZiK]
  by_cases k:tgt cells<0
  ·rw [if_pos k]
   have h1:=h.le
   have e:=h.pl
   refine ⟨by show s.leaves+1<=s.nodes+(K+1);omega,?_,h.n0,h.nB⟩
   unfold leafM
   dsimp only
   generalize (if s.perms=[] then (-1:Int) else cmpG (relab g cells) s.best)=c
   by_cases c1:c<0
   ·rw [if_pos c1,List.length_singleton];omega
   ·rw [if_neg c1]
    by_cases c2:c=0
    ·rw [if_pos c2,List.length_append,List.length_singleton];omega
    ·rw [if_neg c2];omega
  ·rw [if_neg k]
   have j:∀ (vs:List Int) (s:CSt),CInv B K s->CInv B K (vs.foldl (stepM g near B d cells) s):=by
    intro vs
    induction vs with
    | nil=>intro s h;exact h
    | cons v vs o=>
     intro s h
     rw [List.foldl_cons]
     refine o _ ?_
     unfold stepM
     by_cases l:s.full=true
     ·rw [if_pos l];exact h
     ·rw [if_neg l]
      by_cases a:s.nodes=B
      ·rw [if_pos a];exact ⟨h.le,h.pl,h.n0,h.nB⟩
      ·rw [if_neg a]
       have h1:=h.le
       have f:=h.n0
       have i:=h.nB
       have:=Zow g near B d (refN near (sgl cells v)) { s with nodes:=s.nodes+1 } (K-1) ⟨by show s.leaves<=s.nodes+1+(K-1);omega,h.pl,by show 0<=s.nodes+1;omega,by show s.nodes+1<=B;omega⟩
       rwa [show K-1+1=K by omega] at this
   have:=j (vts cells (tgt cells)) s h
   exact ⟨by have:=this.le;omega,this.pl,this.n0,this.nB⟩
def Bst (g:Za) (s:CSt):Prop:=s.perms≠[]->∃ p,Vc.Perm p g.Colors.length/\s.best=relab g p
theorem Zkm {g:Za} {near:List (List Int)} (j:near.length=g.Colors.length) (B:Int):∀ (d:Nat) (cells:List Int) (s:CSt),Cel near.length cells->near.length<d+cnt cells->Bst g s->Bst g (srch g near B d cells s)/\((srch g near B d cells s).full=false->(srch g near B d cells s).perms≠[])
 | 0,cells,s,a,o,h=>by have:=ZdU cells;have:=a.len;omega
 | d+1,cells,s,a,o,h=>by
  rw [ZiK]
  rcases Zc6 (cells:=cells) (fun x i=>(a.rng x i).1) with ⟨h1,k⟩|⟨h1,k,_⟩
  ·rw [if_pos ω]
   have hp:Vc.Perm cells g.Colors.length:=by rw [<-j];exact a.perm k
   unfold leafM Bst
   dsimp only
   generalize a0:(if s.perms=[] then -1 else cmpG (relab g cells) s.best)=c
   by_cases f:c<0
   ·rw [if_pos f,if_pos f]
    exact ⟨fun _=>⟨cells,hp,rfl⟩,fun _=>by simp⟩
   ·have w:s.perms≠[]:=fun e=>by rw [if_pos e] at a0;omega
    rw [if_neg f,if_neg f]
    refine ⟨fun _=>h w,fun _=>?_⟩
    split
    ·simp
    ·exact w
  ·rw [if_neg ω]
   have a2:∀ (vs:List Int) (s:CSt),(∀ v∈vs,v∈vts cells (tgt cells))->Bst g s->(vs=[]->s.full=false->s.perms≠[])->Bst g (vs.foldl (stepM g near B d cells) s)/\((vs.foldl (stepM g near B d cells) s).full=false->(vs.foldl (stepM g near B d cells) s).perms≠[]):=by
    intro vs
    induction vs with
    | nil=>intro s _ h h';exact ⟨h,h' rfl⟩
    | cons v vs ih=>
     intro s hm h _
     rw [List.foldl_cons]
     have r:Bst g (stepM g near B d cells s v)/\((stepM g near B d cells s v).full=false->(stepM g near B d cells s v).perms≠[]):=by
      unfold stepM
      by_cases y:s.full=true
      ·rw [if_pos y];exact ⟨h,fun e=>by rw [y] at e;cases e⟩
      ·rw [if_neg y]
       by_cases l:s.nodes=B
       ·rw [if_pos l];exact ⟨h,fun e=>by cases e⟩
       ·rw [if_neg l]
        have a3:=a.more (near:=near) ω (hm v (List.mem_cons_self ..))
        exact Zkm j B d _ _ (Cel.ref (by rw [Zgp,a.len])) ω h
     exact ih _ (fun u hu=>hm u (List.mem_cons_of_mem _ hu)) r.1 fun _=>r.2
   exact a2 _ s (fun v p=>p) h fun e=>absurd e (Ztz (fun x i=>(a.rng x i).1) ω)
theorem ZIk (i x:Int) (hi:0<=i/\i<=1000000):∀ (m:Nat) (A C:List Int),A.length=m->(A.length:Int)+C.length<=1000000->(A++C).Pairwise (·<=·)->(∀ c∈C,x<c) ->
  ∃ ys,loop (Zc8 i) ((A.length:Int),A++x::C)=some (.inl (ys,i+1))/\ys.Pairwise (·<=·)/\ys.Perm (A++x::C):=by
 intro m
 induction m with
 | zero=>
  intro A C hA hl hs hC
  obtain rfl:=List.length_eq_zero_iff.1 hA
  refine ⟨x::C,Zc (by simp (disch:=omega) only [pz,Zc8,List.nil_append]),?_,List.Perm.refl _⟩
  rw [List.pairwise_cons]
  exact ⟨fun c e=>by have:=hC c e;omega,hs⟩
 | succ m ih=>
  intro A C hA hl hs hC
  obtain ⟨u,a,rfl⟩:∃ u a,A=u++[a]:=by
   rcases List.eq_nil_or_concat A with h|⟨u,a,h⟩
   ·rw [h] at hA;simp at hA
   ·exact ⟨u,a,by rw [h,List.concat_eq_append]⟩
  have a6:u.length=m:=by simpa using hA
  rw [List.length_append,List.length_singleton] at hl
  have hL:((u++[a]).length:Int)=(u.length:Int)+1:=by rw [List.length_append];simp
  have f:ix ((u++[a])++x::C) ((u.length:Int)+1)=x:=ixMid (by rw [hL])
  have j:(u++[a])++x::C=u++a::x::C:=by simp
  have k:ix ((u++[a])++x::C) (u.length:Int)=a:=by rw [j];exact ixMid rfl
  have a8:(((u++[a])++x::C).length:Int)=(u.length:Int)+2+C.length:=by simp;omega
  have w1:(u.length:Int)+1-1=(u.length:Int):=ω
  rw [hL]
  by_cases a4:x<a
  ·have s1:((u++[a])++x::C).set ((u.length:Int)+1).toNat a=u++a::(a::C):=by
    rw [setMid (by rw [hL])];simp
   have s2:(u++a::(a::C)).set (u.length:Int).toNat x=u++x::(a::C):=by
    rw [setMid rfl];simp
   have o:(u++a::(a::C)).set u.length x=u++x::(a::C):=by rw [<-s2,Int.toNat_natCast]
   have s:((u++a::(a::C)).length:Int)=(u.length:Int)+2+C.length:=by simp;omega
   have hB:Zc8 i ((u.length:Int)+1,(u++[a])++x::C)=some (.inl ((u.length:Int),u++x::(a::C))):=by
    simp (disch:=omega) only [pz,Zc8,Zor,f,k,w1,s1,o]
   rw [Zv hB]
   have l:(u++(a::C)).Pairwise (·<=·):=by simpa using hs
   obtain ⟨ys,h1,p,r⟩:=ih u (a::C) a6 (by simp;omega) l (fun c e=>by
    rcases List.mem_cons.1 e with rfl|e
    ·exact a4
    ·exact hC c e)
   refine ⟨ys,h1,p,r.trans ?_⟩
   rw [j]
   exact (List.Perm.swap a x C).append_left u
  ·refine ⟨(u++[a])++x::C,Zc (by simp (disch:=omega) only [pz,Zc8,f,k,w1]),?_,List.Perm.refl _⟩
   rw [List.pairwise_append] at hs ⊢
   refine ⟨hs.1,?_,fun y w z hz=>?_⟩
   ·rw [List.pairwise_cons]
    exact ⟨fun c e=>by have:=hC c e;omega,hs.2.1⟩
   ·rcases List.mem_cons.1 hz with rfl|hz
    ·rw [List.pairwise_append] at hs
     have h1:=hs.1
     rcases List.mem_append.1 w with w|w
     ·have:=h1.2.2 y w a (by simp);omega
     ·simp at w;omega
    ·exact hs.2.2 y w z hz
theorem ZCK {xs:List Int} (x:(xs.length:Int)<=1000000):ZkX xs=some (sortI xs):=by
 unfold ZkX
 obtain ⟨⟨r,j⟩,⟨h1,c,a⟩,o⟩:=Zim (B:=ZgN xs) (fun i q=>q.2=i/\q.1.Pairwise (·<=·)/\q.1.Perm (xs.take i.toNat)) (i:=0) (n:=xs.length) ω (s:=(([]:List Int),(0:Int))) ⟨rfl,by simp,by simp⟩ fun i q h p ⟨k,l,f⟩=>by
  obtain ⟨r,j⟩:=q
  dsimp only at k l f
  subst k
  have u:(r.length:Int)=j:=by
   have:=f.length_eq
   rw [List.length_take] at this
   omega
  obtain ⟨w,h1,c,a⟩:=ZIk j (ix xs j) ⟨h,by omega⟩ _ r [] rfl (by simp;omega) (by simpa using l) (by simp)
  refine ⟨(w,j+1),by simp (disch:=omega) only [pz,ZgN,h1],rfl,c,?_⟩
  dsimp only
  rw [Zap h p]
  exact a.trans (f.append_right _)
 dsimp only at h1 c a
 rw [o]
 refine Zc ?_
 subst h1
 rw [Int.toNat_natCast,List.take_length] at a
 have e:r=sortI xs:=Zj6 (a.trans (ZbJ xs).symm) c (Zje xs)
 simp (disch:=omega) only [pz,ZgN,e]
theorem ZxP {xs:List Int} {i:Int} (a:0<=i) (h1:i<(xs.length:Int)):dis (xs.take (i+1).toNat)=insL (fun x=>x-ix xs i) (ix xs i) (dis (xs.take i.toNat)):=by
 unfold dis
 rw [Zap a h1,List.foldl_append];rfl
theorem ZnT {xs:List Int} (h:(xs.length:Int)<=1000000):ZfF xs=some (cnt xs:Int):=by
 unfold ZfF
 have e:=Zj (B:=ZhP xs) (fun k=>(dis (xs.take k.toNat),k)) (i:=0) (n:=xs.length) ω fun k k0 k1=>by
  have a:=ZdU (xs.take k.toNat)
  rw [List.length_take] at a
  have a:(dis (xs.take k.toNat)).length<=_:=a
  have hp:=ZxK (l:=dis (xs.take k.toNat)) (n:=ix xs k) ω
  rw [<-ZxP k0 k1] at hp
  simp (disch:=omega) only [pz,ZhP,hp]
 have c:(([]:List Int),(0:Int))=(fun k:Int=>(dis (xs.take k.toNat),k)) 0:=rfl
 rw [c,e]
 refine Zc ?_
 simp (disch:=omega) only [pz,ZhP]
 rfl
theorem cptG {α:Type} {eqb:α->α->Bool} {Le R:α->α->Prop} (r:∀ a b,eqb a b=true↔a=b) (h1:∀ a b,Le a b->a≠b->R a b) (u:∀ a b c,R a b->R b c->R a c):∀ (l:List α) (p:α),(p::l).Pairwise Le ->
  ∃ q,cpt (fun a b=>some (eqb a b)) p l=some q/\(p::q).Pairwise R/\(∀ z,z∈p::q↔z∈p::l)/\q.length<=l.length
 | [],p,_=>⟨[],rfl,by simp,by simp,Nat.le_refl _⟩
 | y::l,p,hs=>by
  rw [List.pairwise_cons] at hs
  obtain ⟨q,i,q2,j,k⟩:=cptG r h1 u l y hs.2
  have w:=hs.1 y (List.mem_cons_self ..)
  by_cases e:y=p
  ·subst e
   have f:=(r y y).2 rfl
   refine ⟨q,?_,q2,fun z=>?_,by simp;omega⟩
   ·rw [cpt,i,f];simp
   ·rw [j];simp
  ·have f:eqb y p=false:=by
    cases h:eqb y p with
    | true=>exact absurd ((r y p).1 h) e
    | false=>rfl
   refine ⟨y::q,?_,?_,fun z=>?_,by simp;omega⟩
   ·rw [cpt,i,f];simp
   ·have o:R p y:=h1 p y w fun h=>e h.symm
    rw [List.pairwise_cons]
    refine ⟨fun z hz=>?_,q2⟩
    rcases List.mem_cons.1 hz with rfl|hz
    ·exact o
    ·exact u _ _ _ o ((List.pairwise_cons.1 q2).1 z hz)
   ·rw [List.mem_cons,j];simp
theorem cptGL {α:Type} {eqb:α->α->Bool} {Le R:α->α->Prop} (k:∀ a b,eqb a b=true↔a=b) (h1:∀ a b,Le a b->a≠b->R a b) (j:∀ a b c,R a b->R b c->R a c) {l:List α} (hs:l.Pairwise Le):
  ∃ q,cptL (fun a b=>some (eqb a b)) l=some q/\q.Pairwise R/\∀ z,z∈q↔z∈l:=by
 cases l with
 | nil=>exact ⟨[],rfl,by simp,by simp⟩
 | cons p l=>
  obtain ⟨q,e,q2,f,h⟩:=cptG k h1 j l p hs
  exact ⟨p::q,by rw [cptL,e];rfl,q2,f⟩
theorem ZkC {xs:List Int} (l:(xs.length:Int)<=1000000):ZgB xs=some (cnt xs:Int):=by
 unfold ZgB Zkc
 have j:(sortI xs).length=xs.length:=(ZbJ xs).length_eq
 obtain ⟨q,f,q2,i⟩:=cptGL (eqb:=fun a b:Int=>a==b) (Le:=(·<=·)) (R:=(·<·)) (fun a b=>by simp) (fun a b h k=>by omega) (fun a b c h k=>by omega) (Zje xs)
 have e:q=dis xs:=Zw9 q2 fun z=>by rw [i];exact (ZbJ xs).mem_iff
 rw [ZjL ω,Option.bind_some,ZiL ω,Option.bind_some,if_pos ω,f,e];rfl
theorem Znj (cells:List Int) (t:Int):(vts cells t).length=cells.count t:=by
 have c:cells=(idP (cells.length:Int)).map fun j=>ix cells j:=by
  refine ZaH (by rw [List.length_map,Zag];omega) fun i a e=>?_
  rw [Zgb a (by rw [Zag];omega),Zcq a ω]
 have:((idP (cells.length:Int)).map fun j=>ix cells j).count t=(vts cells t).length:=by
  rw [List.count,List.countP_map,List.countP_eq_length_filter];rfl
 rw [<-this,<-c]
def PrU (u v i j:Int):Prop:=0<=i/\i<j/\(j<u\/(j=u/\i<v))
def TgI (cells:List Int) (u v a:Int):Prop:=(a=-1/\∀ i j,PrU u v i j->ix cells i≠ix cells j)\/(0<=a/\(∃ i j,PrU u v i j/\ix cells i=a/\ix cells j=a)/\∀ i j,PrU u v i j->ix cells i=ix cells j->a<=ix cells j)
theorem ZFr {cells:List Int} {u v y:Int} (l:0<=v/\v<u) (hu:0<=ix cells u) (h:TgI cells u v y):TgI cells u (v+1) (if ix cells u=ix cells v/\(y<0\/ix cells u<y) then ix cells u else y):=by
 have hp:∀ i j,PrU u (v+1) i j->PrU u v i j\/(i=v/\j=u):=fun i j ⟨a,b,c⟩=>by
  by_cases h:j=u/\i=v
  ·exact .inr ⟨h.2,h.1⟩
  ·exact .inl ⟨a,b,by omega⟩
 have r:∀ i j,PrU u v i j->PrU u (v+1) i j:=fun i j ⟨a,b,c⟩=>⟨a,b,by omega⟩
 have o:PrU u (v+1) v u:=⟨l.1,l.2,.inr ⟨rfl,by omega⟩⟩
 rcases h with ⟨h1,f⟩|⟨h1,⟨i,j,f,s,w⟩,p⟩
 ·by_cases he:ix cells u=ix cells v
  ·rw [if_pos ⟨he,.inl ω⟩]
   refine .inr ⟨hu,⟨v,u,o,he.symm,rfl⟩,fun i j x e=>?_⟩
   rcases hp i j x with k|⟨rfl,rfl⟩
   ·exact absurd e (f i j k)
   ·omega
  ·rw [if_neg fun k=>he k.1]
   refine .inl ⟨h1,fun i j x e=>?_⟩
   rcases hp i j x with k|⟨rfl,rfl⟩
   ·exact f i j k e
   ·exact he e.symm
 ·by_cases he:ix cells u=ix cells v/\(y<0\/ix cells u<y)
  ·rw [if_pos he]
   refine .inr ⟨hu,⟨v,u,o,he.1.symm,rfl⟩,fun i' j' x e=>?_⟩
   rcases hp i' j' x with k|⟨rfl,rfl⟩
   ·have:=p i' j' k e;omega
   ·omega
  ·rw [if_neg he]
   refine .inr ⟨h1,⟨i,j,r i j f,s,w⟩,fun i' j' x e=>?_⟩
   rcases hp i' j' x with k|⟨rfl,rfl⟩
   ·exact p i' j' k e
   ·have:¬ (ix cells j'<y):=fun k=>he ⟨e.symm,.inr k⟩
    omega
theorem ZqN {cells:List Int} (hl:(cells.length:Int)<=1000000) (h0:∀ x∈cells,0<=x):Zku cells=some (tgt cells):=by
 unfold Zku
 have hx:∀ i,0<=i->i<(cells.length:Int)->0<=ix cells i:=fun i a b=>h0 _ (Zn a b)
 obtain ⟨⟨a2,u⟩,⟨h1,h2⟩,h3⟩:=Zim (B:=Zl0 cells) (fun u q=>q.2=u/\TgI cells u 0 q.1) (i:=0) (n:=cells.length) ω (s:=((-1:Int),(0:Int))) ⟨rfl,.inl ⟨rfl,fun i j ⟨a,b,c⟩=>by omega⟩⟩ fun u q u0 u1 ⟨g1,g2⟩=>by
  obtain ⟨a2,j⟩:=q
  dsimp only at g1 g2
  subst g1
  obtain ⟨⟨a1,v⟩,⟨k1,k2⟩,k3⟩:=Zim (B:=Zc0 cells j) (fun v q=>q.2=v/\TgI cells j v q.1) (i:=0) (n:=j) u0 (s:=(a2,(0:Int))) ⟨rfl,g2⟩ fun v q v0 v1 ⟨m1,m2⟩=>by
   obtain ⟨o,w⟩:=q
   dsimp only at m1 m2
   subst m1
   have a6:=ZFr ⟨v0,v1⟩ (hx j u0 u1) m2
   generalize hE:(if ix cells j=ix cells w/\(o<0\/ix cells j<o) then ix cells j else o)=o2 at a6
   refine ⟨(o2,w+1),?_,rfl,a6⟩
   by_cases he:ix cells j=ix cells w
   ·by_cases ho:o<0
    ·rw [if_pos ⟨he,.inl ho⟩] at hE
     subst hE
     simp (disch:=omega) only [pz,Zc0,ZcW]
    ·by_cases hc:ix cells j<o
     ·rw [if_pos ⟨he,.inr hc⟩] at hE
      subst hE
      simp (disch:=omega) only [pz,Zc0,ZcW]
     ·rw [if_neg fun k=>by omega] at hE
      subst hE
      simp (disch:=omega) only [pz,Zc0,ZcW]
   ·rw [if_neg fun k=>he k.1] at hE
    subst hE
    simp (disch:=omega) only [pz,Zc0,ZcW]
  dsimp only at k1 k2
  subst k1
  have a7:loop (Zc0 cells v) (a1,v)=some (.inl (a1,v+1)):=Zc (by simp (disch:=omega) only [pz,Zc0])
  refine ⟨(a1,v+1),by simp (disch:=omega) only [pz,Zl0,k3,a7],rfl,?_⟩
  rcases k2 with ⟨h,p⟩|⟨h,⟨i,j,p,r,y⟩,a5⟩
  ·exact .inl ⟨h,fun i j ⟨f,l,b3⟩=>p i j ⟨f,l,by omega⟩⟩
  ·obtain ⟨c1,c2,c3⟩:=p
   exact .inr ⟨h,⟨i,j,⟨c1,c2,.inl ω⟩,r,y⟩,fun i j ⟨f,l,b3⟩=>a5 i j ⟨f,l,by omega⟩⟩
 dsimp only at h1 h2
 rw [h3]
 subst h1
 have e:a2=tgt cells:=by
  rcases Zc6 h0 with ⟨t1,t2⟩|⟨t1,t2,t3⟩
  ·rcases h2 with ⟨h,_⟩|⟨h,⟨i,j,⟨f,l,b3⟩,r,y⟩,_⟩
   ·omega
   ·have:=Zmf t2 f ω ω ω (r.trans y.symm)
    omega
  ·obtain ⟨i,j,i0,a4,j1,hi,hj⟩:=ZlE.1 t2
   rcases h2 with ⟨_,p⟩|⟨h,⟨i',j',⟨f,l,b3⟩,r,y⟩,a5⟩
   ·exact absurd (hi.trans hj.symm) (p i j ⟨i0,a4,.inl j1⟩)
   ·have h1:=a5 i j ⟨i0,a4,.inl j1⟩ (hi.trans hj.symm)
    have h2:=t3 a2 (ZlE.2 ⟨i',j',f,l,by omega,r,y⟩)
    omega
 refine Zc ?_
 simp (disch:=omega) only [pz,Zl0,e]
theorem ZAz {cells:List Int} {t k:Int} (h:0<=k):(idP (k+1)).filter (fun v=>ix cells v==t)=(idP k).filter (fun v=>ix cells v==t)++(if ix cells k=t then [k] else []):=by
 unfold idP
 rw [ZX h,List.filter_append]
 by_cases e:ix cells k=t
 ·rw [if_pos e];simp [e]
 ·rw [if_neg e];simp [e]
theorem ZD3 {cells:List Int} (hl:(cells.length:Int)<=1000000) (y:∀ x∈cells,0<=x/\x<(cells.length:Int)):ZlA cells=some (if tgt cells<0 then [] else vts cells (tgt cells)):=by
 unfold ZlA
 have w:∀ c:Int,0<=c->c<(cells.length:Int)->loop (Zci cells c) (([]:List Int),0)=some (if 1<((vts cells c).length:Int) then .inr (vts cells c) else .inl (c+1)):=fun c f c1=>by
  have a3:=Zj (B:=Zci cells c) (fun k=>((idP k).filter (fun v=>ix cells v==c),k)) (i:=0) (n:=cells.length) ω fun k k0 k1=>by
   have a1:=List.length_filter_le (fun v=>ix cells v==c) (idP k)
   rw [Zag] at a1
   have u:=ZAz (cells:=cells) (t:=c) k0
   by_cases e:ix cells k=c
   ·rw [if_pos e] at u
    simp (disch:=omega) only [pz,Zci,u]
   ·rw [if_neg e,List.append_nil] at u
    simp (disch:=omega) only [pz,Zci,u]
  have p:(([]:List Int),(0:Int))=(fun k:Int=>((idP k).filter (fun v=>ix cells v==c),k)) 0:=rfl
  rw [p,a3]
  refine Zc ?_
  show Zci cells c (vts cells c,(cells.length:Int))=_
  by_cases h:1<((vts cells c).length:Int)
  ·rw [if_pos h];simp (disch:=omega) only [pz,Zci]
  ·rw [if_neg h];simp (disch:=omega) only [pz,Zci]
 rcases Zbj (B:=Zhi cells) (fun k=>k) (fun c=>1<((vts cells c).length:Int)) (i:=0) (n:=cells.length) ω (fun c f c1 r=>by
   have:=w c f c1
   rw [if_neg r] at this
   simp (disch:=omega) only [pz,Zhi,this]) with ⟨c,f,c1,hP,hmin,he⟩|⟨hall,he⟩
 ·rw [he]
  have a2:2<=cells.count c:=by rw [<-Znj];omega
  have ht:tgt cells=c:=by
   rcases Zc6 (fun x l=>(y x l).1) with ⟨a,j⟩|⟨a,j,o⟩
   ·have:=List.nodup_iff_count.1 j c;omega
   ·have h1:=o c a2
    rcases Int.lt_or_le (tgt cells) c with k|k
    ·have:=hmin (tgt cells) a k
     rw [Znj] at this
     omega
    ·omega
  rw [if_neg ω,ht]
  have:=w c f c1
  rw [if_pos hP] at this
  exact Zc (by simp (disch:=omega) only [pz,Zhi,this])
 ·rw [he]
  have ht:tgt cells<0:=by
   rcases Zc6 (fun x l=>(y x l).1) with ⟨a,j⟩|⟨a,j,o⟩
   ·omega
   ·have hm:tgt cells∈cells:=List.count_pos_iff.1 ω
    have:=hall (tgt cells) a (y _ hm).2
    rw [Znj] at this
    omega
  rw [if_pos ht]
  exact Zc (by simp (disch:=omega) only [pz,Zhi])
theorem ZtU {l:List (List Int)} (h:l.Pairwise LtR):StrictL l:=fun i j e k f=>by
 have:=List.pairwise_iff_getElem.1 h i.toNat j.toNat ω ω ω
 have a:=Zah (xs:=l) (i:=i) e ω
 have c:=Zah (xs:=l) (i:=j) ω f
 rw [List.getElem?_eq_getElem ω] at a c
 rwa [Option.some.inj a,Option.some.inj c] at this
theorem Zuc {xs:List (List Int)} {z:List Int} (h:z∈xs):(xs.idxOf z:Int)<(xs.length:Int)/\ix xs (xs.idxOf z:Int)=z:=by
 have h1:=List.idxOf_lt_length_of_mem h
 refine ⟨by omega,ZP ?_⟩
 rw [List.getElem?_eq_getElem h1,List.getElem_idxOf h1]
theorem Zxy {l:List (List Int)} (hs:StrictL l) {i j:Int} (a:0<=i) (c:i<(l.length:Int)) (f:0<=j) (o:j<(l.length:Int)) (h:ix l i=ix l j):i=j:=by
 have e:=(ZaA (ix l i) (ix l j)).2 h
 have p:=(ZaA (ix l j) (ix l i)).2 h.symm
 rcases Int.lt_trichotomy i j with k|k|k
 ·have:=hs i j a k o;omega
 ·exact k
 ·have:=hs j i f k c;omega
theorem ZEa {l:List (List Int)} {p:List Int} (hs:StrictL l) (hl:(l.length:Int)<=1048576) (hr:∀ x∈l,(x.length:Int)<=1048576) (hm:p∈l):
  ZdE l p (fun r s=>Zan r s)=some ((l.idxOf p:Int),true):=by
 unfold ZdE
 generalize a0:ZbK l p (fun r s=>Zan r s)=B
 obtain ⟨a,hi⟩:=Zuc hm
 generalize hI:(l.idxOf p:Int)=I at a hi ⊢
 have b:0<=I:=ω
 have eI:cmpL (ix l I) p=0:=(ZaA _ _).2 hi
 have a7:∀ (d:Nat) (lo hi:Int),(hi-lo).toNat<=d->0<=lo->lo<=hi->hi<=(l.length:Int)->(∀ j,0<=j->j<lo->cmpL (ix l j) p<0)->(∀ j,hi<=j->j<(l.length:Int)->0<=cmpL (ix l j) p)->loop B (lo,hi)=some (I,true):=by
  intro d
  induction d with
  | zero=>
   intro lo y w f h1 u h i
   obtain rfl:lo=y:=ω
   have aa:lo<=I:=by
    rcases Int.lt_or_le I lo with c|c
    ·have:=h I b c;omega
    ·exact c
   have a5:I=lo:=by
    rcases Int.lt_or_le lo I with c|c
    ·have v:=hs lo I f c a
     rw [hi] at v
     have:=i lo ω ω
     omega
    ·omega
   subst a5
   have a3:=hr (ix l I) (Zn f a)
   have k:=Zbh (a:=ix l I) (b:=p) ω
   refine Zc ?_
   rw [<-a0]
   simp (disch:=omega) only [pz,ZbK,k]
  | succ d ih=>
   intro lo y w f h1 u h i
   by_cases a9:lo<y
   ·have hm:=Zmx f h1 (show y<=1048576 by omega)
    have a8:lo<=(lo+y)/2/\(lo+y)/2<y:=ω
    have a3:=hr (ix l ((lo+y)/2)) (Zn ω ω)
    have k:=Zbh (a:=ix l ((lo+y)/2)) (b:=p) ω
    have o:gNn 1=some ():=rfl
    by_cases e:cmpL (ix l ((lo+y)/2)) p<0
    ·have hB:B (lo,y)=some (.inl ((lo+y)/2+1,y)):=by
      rw [<-a0]
      simp only [ZbK,hm,o]
      simp (disch:=omega) only [pz,k]
     rw [Zv hB]
     refine ih _ _ ω ω ω u (fun j a b=>?_) i
     by_cases hj:j=(lo+y)/2
     ·rw [hj];exact e
     ·have:=hs j ((lo+y)/2) a ω ω
      exact Zbt _ _ _ this e
    ·have hB:B (lo,y)=some (.inl (lo,(lo+y)/2)):=by
      rw [<-a0]
      simp only [ZbK,hm,o]
      simp (disch:=omega) only [pz,k]
     rw [Zv hB]
     refine ih _ _ ω f ω ω h fun j a b=>?_
     by_cases hj:j=(lo+y)/2
     ·rw [hj];omega
     ·have v:=hs ((lo+y)/2) j ω ω b
      rcases Int.lt_or_le (cmpL (ix l j) p) 0 with c|c
      ·exact absurd (Zbt _ _ _ v c) e
      ·exact c
   ·exact ih lo y ω f h1 u h i
 exact a7 _ 0 l.length (Nat.le_refl _) ω ω ω (fun j a b=>by omega) fun j a b=>by omega
structure Nr (near:List (List Int)):Prop where
 n:near.length<=64
 row:∀ a∈near,a.length<=64/\∀ w∈a,0<=w/\w<(near.length:Int)
theorem Nr.ix {near:List (List Int)} (h:Nr near) {v:Int} (c:0<=v) (h1:v<(near.length:Int)):(Vc.ix near v).length<=64/\∀ j,0<=j->j<((Vc.ix near v).length:Int)->0<=Vc.ix (Vc.ix near v) j/\Vc.ix (Vc.ix near v) j<(near.length:Int):=by
 obtain ⟨a,b⟩:=h.row _ (Zn c h1)
 exact ⟨a,fun j e f=>b _ (Zn e f)⟩
theorem ZFp {near:List (List Int)} {cells:List Int} {v:Int}:(keyAt near cells v).length=(Vc.ix near v).length+1:=by
 unfold keyAt
 rw [List.length_cons,(ZbJ _).length_eq,List.length_map]
theorem Nr.keys {near:List (List Int)} (h:Nr near) {cells:List Int}:∀ x∈rkeys near cells,x.length<=65:=fun x e=>by
 obtain ⟨i,c,a,rfl⟩:=Z0 e
 rw [Zeb] at a
 rw [Zio c a,ZFp]
 have:=(h.ix c a).1
 omega
theorem ZdR {α e:Type} [Inhabited α] {xs:List α} {f:α->e} {k:Int} (a:0<=k) (h1:k<(xs.length:Int)):(xs.take (k+1).toNat).map f=(xs.take k.toNat).map f++[f (Vc.ix xs k)]:=by
 rw [Zap a h1,List.map_append];rfl
theorem around {near:List (List Int)} {cells:List Int} {v k:Int} (k0:0<=k) (k1:k<((Vc.ix near v).length:Int)):((Vc.ix near v).take (k+1).toNat).map (fun w=>ix cells w)=((Vc.ix near v).take k.toNat).map (fun w=>ix cells w)++[ix cells (ix (Vc.ix near v) k)]:=ZdR k0 k1
theorem ZDa {keys:List (List Int)} {i:Int} (a:0<=i) (h1:i<(keys.length:Int)):kindsOf (keys.take (i+1).toNat)=insL (fun x=>cmpL x (ix keys i)) (ix keys i) (kindsOf (keys.take i.toNat)):=by
 unfold kindsOf
 rw [Zap a h1,List.foldl_append];rfl
theorem ZGa {near:List (List Int)} {cells:List Int} {k:Int} (k0:0<=k):tabl (k+1) (keyAt near cells)=tabl k (keyAt near cells)++[keyAt near cells k]:=ZX k0
theorem Zsc {near:List (List Int)} {cells:List Int} (hN:Nr near) (hl:cells.length=near.length):Zge near cells=some (rnd near cells):=by
 unfold Zge
 have hn:=hN.n
 -- the keys
 have h1:=Zj (B:=ZhA near cells) (fun k=>(tabl k (keyAt near cells),k)) (i:=0) (n:=near.length) ω fun k k0 k1=>by
  obtain ⟨a,b⟩:=hN.ix k0 k1
  have a1:=Zj (B:=ZeR near cells (tabl k (keyAt near cells)) k) (fun j=>(((Vc.ix near k).take j.toNat).map (fun w=>ix cells w),j)) (i:=0) (n:=(Vc.ix near k).length) ω fun j f h=>by
   have hb:=b j f h
   have ao:(((Vc.ix near k).take j.toNat).map (fun w=>ix cells w)).length<=64:=by rw [List.length_map,List.length_take];omega
   simp (disch:=omega) only [pz,ZeR,around f h]
  have e0:(([]:List Int),(0:Int))=(fun j:Int=>(((Vc.ix near k).take j.toNat).map (fun w=>ix cells w),j)) 0:=by simp
  have ac:=ZCK (xs:=(Vc.ix near k).map (fun w=>ix cells w)) (by rw [List.length_map];omega)
  have aq:(sortI ((Vc.ix near k).map (fun w=>ix cells w))).length<=64:=by rw [(ZbJ _).length_eq,List.length_map];omega
  have a9:gApp 8 [ix cells k] (sortI ((Vc.ix near k).map (fun w=>ix cells w)))=some (keyAt near cells k):=by
   rw [ZaR (by simp;omega) (by simp;omega)];rfl
  have aa:(tabl k (keyAt near cells)).length<=64:=by rw [Zl];omega
  have a0:loop (ZeR near cells (tabl k (keyAt near cells)) k) (([]:List Int),0)=some (.inl (tabl (k+1) (keyAt near cells),k+1)):=by
   rw [e0,a1]
   refine Zc ?_
   rw [ZGa k0]
   simp (disch:=omega) only [pz,ZeR,ac,a9]
  simp (disch:=omega) only [pz,ZhA,a0]
 have e1:(([]:List (List Int)),(0:Int))=(fun k:Int=>(tabl k (keyAt near cells),k)) 0:=rfl
 rw [e1,h1]
 show loop _ (rkeys near cells,(near.length:Int))=_
 -- the kinds
 generalize hK:rkeys near cells=keys
 have a5:keys.length=near.length:=by rw [<-hK,Zeb]
 have a4:∀ x∈keys,x.length<=65:=by rw [<-hK];exact hN.keys
 have h2:=Zj (B:=Zef near keys) (fun k=>(kindsOf (keys.take k.toNat),k)) (i:=0) (n:=near.length) ω fun k k0 k1=>by
  have ab:=ZkW (keys.take k.toNat)
  rw [List.length_take] at ab
  have hp:=ZBf (l:=kindsOf (keys.take k.toNat)) (y:=ix keys k) ω (fun x o=>by
   have:=a4 x (List.mem_of_mem_take (ZcD.1 o));omega)
  rw [<-ZDa k0 ω] at hp
  simp (disch:=omega) only [pz,Zef,hp]
 have e2:(([]:List (List Int)),(0:Int))=(fun k:Int=>(kindsOf (keys.take k.toNat),k)) 0:=rfl
 -- the numbers
 have ap:(kindsOf keys).length<=64:=by have:=ZkW keys;omega
 have p:∀ x∈kindsOf keys,x.length<=65:=fun x o=>a4 x (ZcD.1 o)
 have ad:=ZtU (Zoo keys)
 have a6:(rnd near cells).length=near.length:=Zcw near cells
 have h3:=Zj (B:=Ze9 near keys (kindsOf keys)) (fun k=>((rnd near cells).take k.toNat,k)) (i:=0) (n:=near.length) ω fun k k0 k1=>by
  have hm:ix keys k∈kindsOf keys:=ZcD.2 (Zn k0 ω)
  obtain ⟨r,s⟩:=Zuc hm
  have a3:ix (rnd near cells) k=((kindsOf keys).idxOf (ix keys k):Int):=by
   rw [ZiG k0 k1,hK,<-hK,Zio k0 k1]
  generalize hI:((kindsOf keys).idxOf (ix keys k):Int)=I at r s a3
  have ae:0<=I:=ω
  have a1:=Zj (B:=Zdr keys (kindsOf keys) k) (fun j=>((rnd near cells).take k.toNat++(if I<j then [I] else []),j)) (i:=0) (n:=(kindsOf keys).length) ω fun j f h=>by
   have v:=Zbx (a:=ix (kindsOf keys) j) (b:=ix keys k) (by have:=p _ (Zn f h);omega)
   have aa:((rnd near cells).take k.toNat).length<=64:=by rw [List.length_take];omega
   by_cases he:j=I
   ·have hz:cmpL (ix (kindsOf keys) j) (ix keys k)=0:=(ZaA _ _).2 (by rw [he];exact s)
    rw [if_neg ω,if_pos ω,List.append_nil]
    simp (disch:=omega) only [pz,Zdr,v,hz]
    rw [he]
   ·have hz:¬ cmpL (ix (kindsOf keys) j) (ix keys k)=0:=fun e=>he (Zxy ad f h ae r (by rw [(ZaA _ _).1 e,s]))
    have u:(if I<j+1 then [I] else [])=(if I<j then [I] else []):=by
     by_cases c:I<j
     ·rw [if_pos c,if_pos ω]
     ·rw [if_neg c,if_neg ω]
    rw [u]
    simp (disch:=omega) only [pz,Zdr,v,hz]
  have u:((rnd near cells).take k.toNat,(0:Int))=(fun j:Int=>((rnd near cells).take k.toNat++(if I<j then [I] else []),j)) 0:=by
   show _=(_++(if I<0 then [I] else []),(0:Int))
   rw [if_neg ω,List.append_nil]
  have a0:loop (Zdr keys (kindsOf keys) k) ((rnd near cells).take k.toNat,0)=some (.inl ((rnd near cells).take (k+1).toNat,k+1)):=by
   rw [u,a1]
   refine Zc ?_
   rw [if_pos r,Zap k0 ω,a3]
   simp (disch:=omega) only [pz,Zdr]
  simp (disch:=omega) only [pz,Ze9,a0]
 have e4:(([]:List Int),(0:Int))=(fun k:Int=>((rnd near cells).take k.toNat,k)) 0:=rfl
 have h4:loop (Ze9 near keys (kindsOf keys)) (([]:List Int),0)=some (.inr (.inr (rnd near cells))):=by
  rw [e4,h3]
  refine Zc ?_
  rw [Int.toNat_natCast,<-a6,List.take_length,a6]
  simp (disch:=omega) only [pz,Ze9]
 have h5:loop (Zef near keys) (([]:List (List Int)),0)=some (.inr (rnd near cells)):=by
  rw [e2,h2]
  refine Zc ?_
  rw [Int.toNat_natCast,<-a5,List.take_length,a5]
  simp (disch:=omega) only [pz,Zef,h4]
 exact Zc (by simp (disch:=omega) only [pz,ZhA,h5])
theorem ZCT {a b:List Int} (h:(a.length:Int)<=1000):ZcJ a b=some (decide (a=b)):=by
 by_cases e:a=b
 ·rw [(Zpz ω).eq e,decide_eq_true e]
 ·rw [(Zpz ω).ne e,decide_eq_false e]
theorem ZqQ {near:List (List Int)} {cells:List Int} (hN:Nr near) (hl:cells.length=near.length):ZlS near cells=some (rnd near cells):=by
 unfold ZlS
 have hn:=hN.n
 have ab:gMake 24 ([]:List Int) (cells.length:Int) (cells.length:Int)=some (tabl near.length fun i=>if i<0 then keyAt near cells i else []):=by
  rw [Zau ω ω ω,Int.toNat_natCast]
  congr 1
  refine ZaH (by rw [List.length_replicate,Zl];omega) fun i e h=>?_
  rw [List.length_replicate] at h
  rw [Zcg e ω,ZH e ω,if_neg ω]
 rw [ab,Option.bind_some]
 have h1:=Zj (B:=Zhu near cells) (fun k=>(k,tabl near.length fun i=>if i<k then keyAt near cells i else [])) (i:=0) (n:=near.length) ω fun k k0 k1=>by
  obtain ⟨a,b⟩:=hN.ix k0 k1
  generalize hX:(tabl near.length fun i=>if i<k then keyAt near cells i else [])=X
  have ad:X.length=near.length:=by rw [<-hX,Zl];omega
  have aa:=Zj (B:=ZfE cells k X (ix cells k) (Vc.ix near k)) (fun j=>(((Vc.ix near k).take j.toNat).map (fun w=>ix cells w),j)) (i:=0) (n:=(Vc.ix near k).length) ω fun j j0 j1=>by
   have r:=b j j0 j1
   have ar:(((Vc.ix near k).take j.toNat).map (fun w=>ix cells w)).length<=64:=by rw [List.length_map,List.length_take];omega
   simp (disch:=omega) only [pz,ZfE,around j0 j1]
  have e0:(([]:List Int),(0:Int))=(fun j:Int=>(((Vc.ix near k).take j.toNat).map (fun w=>ix cells w),j)) 0:=by simp
  have a1:=ZiL (p:=(Vc.ix near k).map (fun w=>ix cells w)) (by rw [List.length_map];omega)
  have af:(sortI ((Vc.ix near k).map (fun w=>ix cells w))).length<=64:=by rw [(ZbJ _).length_eq,List.length_map];omega
  have a7:gApp 8 [ix cells k] (sortI ((Vc.ix near k).map (fun w=>ix cells w)))=some (keyAt near cells k):=by
   rw [ZaR (by simp;omega) (by simp;omega)];rfl
  have hset:X.set k.toNat (keyAt near cells k)=tabl near.length fun i=>if i<k+1 then keyAt near cells i else []:=by
   rw [<-hX]
   refine Zak k0 k1 (fun i e h i2=>?_) ?_
   ·by_cases c:i<k
    ·rw [if_pos c,if_pos ω]
    ·rw [if_neg c,if_neg ω]
   ·rw [if_pos ω]
  have a4:loop (ZfE cells k X (ix cells k) (Vc.ix near k)) (([]:List Int),0)=some (.inl (k+1,tabl near.length fun i=>if i<k+1 then keyAt near cells i else [])):=by
   rw [e0,aa]
   refine Zc ?_
   rw [<-hset]
   simp (disch:=omega) only [pz,ZfE,a1,a7]
  simp (disch:=omega) only [pz,Zhu,a4]
 rw [h1]
 have e1:(tabl near.length fun i=>if i<(near.length:Int) then keyAt near cells i else [])=rkeys near cells:=ZM fun i e h=>by rw [if_pos h]
 rw [e1]
 generalize hK:rkeys near cells=keys
 have aw:keys.length=near.length:=by rw [<-hK,Zeb]
 have a0:∀ x∈keys,x.length<=65:=by rw [<-hK];exact hN.keys
 have a5:ZkZ keys=some keys:=by
  unfold ZkZ
  rw [ZaR (by simp;omega) (by simp;omega)];rfl
 have a1:=Zri (q:=keys) ω (fun x o=>by have:=a0 x o;omega)
 have af:=ZhW keys
 obtain ⟨q,q1,q2,q3,q4⟩:=ZCO (f:=fun s u=>ZcJ s u) (fun a b ha=>ZCT ha) (l:=sortRows keys) (fun x o=>by have:=a0 x (Zbd.1 o);omega) (Zj1 keys)
 have hq:q=kindsOf keys:=ZHX q2 fun z=>by rw [q3,Zbd]
 have a9:Zgt (sortRows keys) (fun s u=>ZcJ s u)=some (kindsOf keys):=by
  unfold Zgt
  rw [if_pos ω,q1,hq]
 have av:(kindsOf keys).length<=64:=by have:=ZkW keys;omega
 have v:∀ x∈kindsOf keys,x.length<=65:=fun x o=>a0 x (ZcD.1 o)
 have ac:=ZtU (Zoo keys)
 have y:gMake 8 (0:Int) (cells.length:Int) (cells.length:Int)=some (tabl near.length fun i=>if i<0 then ix (rnd near cells) i else 0):=by
  rw [Zau ω ω ω,Int.toNat_natCast]
  congr 1
  refine ZaH (by rw [List.length_replicate,Zl];omega) fun i e h=>?_
  rw [List.length_replicate] at h
  rw [Zcg e ω,ZH e ω,if_neg ω]
 have h3:=Zj (B:=Zej near cells keys (kindsOf keys)) (fun k=>(k,tabl near.length fun i=>if i<k then ix (rnd near cells) i else 0)) (i:=0) (n:=near.length) ω fun k k0 k1=>by
  have hm:ix keys k∈kindsOf keys:=ZcD.2 (Zn k0 ω)
  have r:=ZEa ac ω (fun x o=>by have:=v x o;omega) hm
  have a6:ix (rnd near cells) k=((kindsOf keys).idxOf (ix keys k):Int):=by
   rw [ZiG k0 k1,hK,<-hK,Zio k0 k1]
  rw [<-a6] at r
  have hset:(tabl near.length fun i=>if i<k then ix (rnd near cells) i else 0).set k.toNat (ix (rnd near cells) k)=tabl near.length fun i=>if i<k+1 then ix (rnd near cells) i else 0:=by
   refine Zak k0 k1 (fun i e h i2=>?_) ?_
   ·by_cases c:i<k
    ·rw [if_pos c,if_pos ω]
    ·rw [if_neg c,if_neg ω]
   ·rw [if_pos ω]
  generalize (tabl near.length fun i=>if i<k then ix (rnd near cells) i else 0)=X at hset ⊢
  have ad:X.length=near.length:=by
   have:=congrArg List.length hset
   rw [List.length_set,Zl] at this
   omega
  simp (disch:=omega) only [pz,Zej,r,hset]
 have e3:(tabl near.length fun i=>if i<(near.length:Int) then ix (rnd near cells) i else 0)=rnd near cells:=by
  have:=Zbg (rnd near cells)
  rw [Zcw] at this
  refine Eq.trans (ZM fun i e h=>?_) this
  rw [if_pos h]
 have h4:loop (Zej near cells keys (kindsOf keys)) (0,tabl near.length fun i=>if i<0 then ix (rnd near cells) i else 0)=some (.inr (rnd near cells)):=by
  rw [h3,e3]
  exact Zc (by simp (disch:=omega) only [pz,Zej])
 exact Zc (by simp (disch:=omega) only [pz,Zhu,a5,a1,a9,y,h4])
theorem ZtI {near:List (List Int)} (k:Nr near):∀ (f:Nat) (c:List Int),c.length=near.length->near.length<f+1+cnt c->loop (Zdg near) ((cnt c:Int),rnd near c)=some (refM near (f+1) c)
 | 0,c,a,hf=>by
  have h1:=Zig a
  have j:=ZdU (rnd near c)
  have e:=Zcw near c
  have i:=k.n
  have l:=ZnT (xs:=rnd near c) ω
  rw [refM,if_pos ω]
  exact Zc (by simp (disch:=omega) only [pz,Zdg,l])
 | f+1,c,a,hf=>by
  have h1:=Zig a
  have e:=Zcw near c
  have i:=k.n
  have l:=ZnT (xs:=rnd near c) ω
  rw [refM]
  by_cases h:cnt (rnd near c)=cnt c
  ·rw [if_pos h]
   exact Zc (by simp (disch:=omega) only [pz,Zdg,l])
  ·rw [if_neg h]
   have o:=Zsc (cells:=rnd near c) k e
   have hB:Zdg near ((cnt c:Int),rnd near c)=some (.inl ((cnt (rnd near c):Int),rnd near (rnd near c))):=by simp (disch:=omega) only [pz,Zdg,l,o]
   rw [Zv hB]
   exact ZtI k f (rnd near c) e ω
theorem ZtF {near:List (List Int)} {c:List Int} (h:Nr near) (a:c.length=near.length):ZgJ near c=some (refN near c):=by
 unfold ZgJ
 have e:=h.n
 have k:=ZnT (xs:=c) ω
 have j:=Zsc h a
 have:=ZtI h near.length c a ω
 simp (disch:=omega) only [pz,k,j,this]
 rfl
theorem ZqV {near:List (List Int)} (l:Nr near):∀ (f:Nat) (c:List Int),c.length=near.length->near.length<f+1+cnt c->loop (Zdq near) c=some (refM near (f+1) c)
 | 0,c,e,hf=>by
  have h1:=Zig e
  have k:=ZdU (rnd near c)
  have i:=Zcw near c
  have j:=l.n
  have r:=ZkC (xs:=rnd near c) ω
  have a:=ZkC (xs:=c) ω
  have o:=ZqQ l e
  rw [refM,if_pos ω]
  exact Zc (by simp (disch:=omega) only [pz,Zdq,r,a,o])
 | f+1,c,e,hf=>by
  have h1:=Zig e
  have i:=Zcw near c
  have j:=l.n
  have r:=ZkC (xs:=rnd near c) ω
  have a:=ZkC (xs:=c) ω
  have o:=ZqQ l e
  rw [refM]
  by_cases h:cnt (rnd near c)=cnt c
  ·rw [if_pos h]
   exact Zc (by simp (disch:=omega) only [pz,Zdq,r,a,o])
  ·rw [if_neg h]
   have hB:Zdq near c=some (.inl (rnd near c)):=by simp (disch:=omega) only [pz,Zdq,r,a,o]
   rw [Zv hB]
   exact ZqV l f (rnd near c) i ω
theorem ZrB {near:List (List Int)} {c:List Int} (e:Nr near) (a:c.length=near.length):ZlO near c=some (refN near c):=ZqV e near.length c a ω
def tb (n:Int) (F:Int->Int->Bool):List (List Bool):=tabl n fun a=>tabl n fun b=>F a b
theorem ZjX (n:Int) (F:Int->Int->Bool):(tb n F).length=n.toNat:=Zl
theorem tb_ix {n a:Int} {F:Int->Int->Bool} (c:0<=a) (e:a<n):ix (tb n F) a=tabl n fun b=>F a b:=ZH c e
theorem ZsR {n a b:Int} {F:Int->Int->Bool} (c:0<=a) (e:a<n) (f:0<=b) (h:b<n):ix (ix (tb n F) a) b=F a b:=by rw [tb_ix c e];exact ZH f h
theorem Ze2 {n a:Int} {F:Int->Int->Bool} (c:0<=a) (e:a<n):(ix (tb n F) a).length=n.toNat:=by rw [tb_ix c e,Zl]
theorem ZoU {n:Int} {F G:Int->Int->Bool} (h:∀ a b,0<=a->a<n->0<=b->b<n->F a b=G a b):tb n F=tb n G:=ZM fun a c e=>ZM fun b f i=>h a b c e f i
theorem ZjY {n A B:Int} {F:Int->Int->Bool} (c:0<=A) (e:A<n) (f:0<=B) (h:B<n):(tb n F).set A.toNat ((ix (tb n F) A).set B.toNat true)=tb n fun a b=>F a b||(a==A&&b==B):=by
 unfold tb
 refine Zak c e (fun i k l hi=>ZM fun b _ _=>?_) ?_
 ·simp [hi]
 ·rw [ZH c e]
  refine Zak f h (fun j o p r=>?_) ?_
  ·simp [r]
  ·simp
theorem Zsd {n A B:Int} {F:Int->Int->Bool} (c:0<=A) (e:A<n) (f:0<=B) (i:B<n):((tb n F).set A.toNat ((ix (tb n F) A).set B.toNat true)).set B.toNat ((ix ((tb n F).set A.toNat ((ix (tb n F) A).set B.toNat true)) B).set A.toNat true)=tb n fun a b=>F a b||((A==a&&B==b)||(A==b&&B==a)):=by
 rw [ZjY c e f i,ZjY f i c e]
 refine ZoU fun a b _ _ _ _=>?_
 rw [Bool.eq_iff_iff]
 simp only [Bool.or_eq_true,Bool.and_eq_true,beq_iff_eq]
 constructor
 ·rintro ((h|⟨rfl,rfl⟩)|⟨rfl,rfl⟩)
  ·exact .inl h
  ·exact .inr (.inl ⟨rfl,rfl⟩)
  ·exact .inr (.inr ⟨rfl,rfl⟩)
 ·rintro (h|⟨rfl,rfl⟩|⟨rfl,rfl⟩)
  ·exact .inl (.inl h)
  ·exact .inl (.inr ⟨rfl,rfl⟩)
  ·exact .inr ⟨rfl,rfl⟩
theorem ZCh {es:List Zb} {k:Int} (k0:0<=k) (k1:k<(es.length:Int)) (a b:Int):adj (es.take (k+1).toNat) a b=(adj (es.take k.toNat) a b||(((ix es k).A==a&&(ix es k).B==b)||((ix es k).A==b&&(ix es k).B==a))):=by
 unfold adj
 rw [Zap k0 k1,List.any_append]
 simp
theorem Zsz {g:Za} (w:g.Colors.length<=64) (he:g.Edges.length<=1000000) (hg:∀ e∈g.Edges,(0<=e.A/\e.A<(g.Colors.length:Int))/\0<=e.B/\e.B<(g.Colors.length:Int)):Zet g=some (tb g.Colors.length (adj g.Edges)):=by
 unfold Zet
 have h1:=Zj (B:=Ziz g) (fun k=>(tabl k (fun _=>List.replicate g.Colors.length false),k)) (i:=0) (n:=g.Colors.length) ω fun k k0 k1=>by
  have a0:gMake 1 false (g.Colors.length:Int) (g.Colors.length:Int)=some (List.replicate g.Colors.length false):=by
   rw [Zau ω ω ω,Int.toNat_natCast]
  have hl:(tabl k (fun _=>List.replicate g.Colors.length false)).length<=64:=by rw [Zl];omega
  have a1:tabl (k+1) (fun _=>List.replicate g.Colors.length false)=_:=ZX k0
  simp (disch:=omega) only [pz,Ziz,a0,a1]
 have p:(([]:List (List Bool)),(0:Int))=(fun k:Int=>(tabl k (fun _=>List.replicate g.Colors.length false),k)) 0:=rfl
 have r:=Zj (B:=Zfy g) (fun k=>(k,tb g.Colors.length (adj (g.Edges.take k.toNat)))) (i:=0) (n:=g.Edges.length) ω fun k k0 k1=>by
  obtain ⟨⟨x0,x1⟩,c,f⟩:=hg (ix g.Edges k) (Zn k0 k1)
  have hs:=Zsd (F:=adj (g.Edges.take k.toNat)) x0 x1 c f
  have ht:(tb (g.Colors.length:Int) fun a b=>adj (g.Edges.take k.toNat) a b||(((ix g.Edges k).A==a&&(ix g.Edges k).B==b)||((ix g.Edges k).A==b&&(ix g.Edges k).B==a)))=tb g.Colors.length (adj (g.Edges.take (k+1).toNat)):=ZoU fun a b _ _ _ _=>(ZCh k0 k1 a b).symm
  rw [ht] at hs
  have l:=ZjY (F:=adj (g.Edges.take k.toNat)) x0 x1 c f
  have l1:=ZjX (g.Colors.length:Int) (adj (g.Edges.take k.toNat))
  have l2:=Ze2 (F:=adj (g.Edges.take k.toNat)) x0 x1
  have s:(ix ((tb (g.Colors.length:Int) (adj (g.Edges.take k.toNat))).set (ix g.Edges k).A.toNat ((ix (tb (g.Colors.length:Int) (adj (g.Edges.take k.toNat))) (ix g.Edges k).A).set (ix g.Edges k).B.toNat true)) (ix g.Edges k).B).length=g.Colors.length:=by rw [l,Ze2 c f];omega
  generalize tb (g.Colors.length:Int) (adj (g.Edges.take k.toNat))=X at hs l1 l2 s ⊢
  have x:(X.set (ix g.Edges k).A.toNat ((ix X (ix g.Edges k).A).set (ix g.Edges k).B.toNat true)).length=g.Colors.length:=by rw [List.length_set];omega
  simp (disch:=omega) only [pz,Zfy]
  rw [hs]
 have u:tabl (g.Colors.length:Int) (fun _=>List.replicate g.Colors.length false)=tb g.Colors.length (adj (g.Edges.take (0:Int).toNat)):=by
  refine ZM fun i y i1=>?_
  refine ZaH (by rw [List.length_replicate,Zl];omega) fun j o h=>?_
  rw [List.length_replicate] at h
  rw [Zcg o h,ZH o h]
  simp [adj]
 have v:loop (Zfy g) (0,tabl (g.Colors.length:Int) (fun _=>List.replicate g.Colors.length false))=some (.inr (tb g.Colors.length (adj g.Edges))):=by
  rw [u,r,Int.toNat_natCast,List.take_length]
  exact Zc (by simp (disch:=omega) only [pz,Zfy])
 rw [p,h1]
 exact Zc (by simp (disch:=omega) only [pz,Ziz,v])
theorem ZyA {g:Za} (hg:ValidG g):ZiZ g=some (nearM g):=by
 unfold ZiZ
 have a4:=hg.cl
 have a5:=hg.el
 have ht:=Zsz (g:=g) ω ω (fun e he=>by have:=ZbC hg he;exact ⟨⟨this.1,by omega⟩,by omega,this.2.2⟩)
 have e:Za.mk g.Colors g.Edges=g:=rfl
 rw [e,ht,Option.bind_some]
 have x:=ZjX (g.Colors.length:Int) (adj g.Edges)
 rw [Int.toNat_natCast] at x
 have h1:=Zj (B:=Zhb (tb g.Colors.length (adj g.Edges))) (fun k=>(tabl k (fun a=>(idP g.Colors.length).filter fun b=>adj g.Edges a b),k)) (i:=0) (n:=g.Colors.length) ω fun k k0 k1=>by
  have a6:(tabl k (fun a=>(idP g.Colors.length).filter fun b=>adj g.Edges a b)).length<=64:=by rw [Zl];omega
  have w:=Ze2 (F:=adj g.Edges) k0 k1
  have a1:=Zj (B:=Zd1 (tb g.Colors.length (adj g.Edges)) (tabl k (fun a=>(idP g.Colors.length).filter fun b=>adj g.Edges a b)) k) (fun j=>((idP j).filter (fun b=>adj g.Edges k b),j)) (i:=0) (n:=g.Colors.length) ω fun j h o=>by
   have f:=ZsR (F:=adj g.Edges) k0 k1 h o
   have a0:=List.length_filter_le (fun b=>adj g.Edges k b) (idP j)
   rw [Zag] at a0
   have u:(idP (j+1)).filter (fun b=>adj g.Edges k b)=(idP j).filter (fun b=>adj g.Edges k b)++(if adj g.Edges k j=true then [j] else []):=by
    unfold idP
    rw [ZX h,List.filter_append]
    by_cases c:adj g.Edges k j=true
    ·rw [if_pos c];simp [c]
    ·rw [if_neg c];simp [c]
   cases l:adj g.Edges k j with
   | true=>
    rw [l] at f u
    rw [if_pos rfl] at u
    generalize tb (g.Colors.length:Int) (adj g.Edges)=X at f x w ⊢
    simp (disch:=omega) only [pz,Zd1,f,u]
   | false=>
    rw [l] at f u
    rw [if_neg (by simp),List.append_nil] at u
    generalize tb (g.Colors.length:Int) (adj g.Edges)=X at f x w ⊢
    simp (disch:=omega) only [pz,Zd1,f,u]
  have p:(([]:List Int),(0:Int))=(fun j:Int=>((idP j).filter (fun b=>adj g.Edges k b),j)) 0:=rfl
  have u:tabl (k+1) (fun a=>(idP g.Colors.length).filter fun b=>adj g.Edges a b)=tabl k (fun a=>(idP g.Colors.length).filter fun b=>adj g.Edges a b)++[(idP g.Colors.length).filter fun b=>adj g.Edges k b]:=ZX k0
  have y:loop (Zd1 (tb g.Colors.length (adj g.Edges)) (tabl k (fun a=>(idP g.Colors.length).filter fun b=>adj g.Edges a b)) k) (([]:List Int),0)=some (.inl (tabl (k+1) (fun a=>(idP g.Colors.length).filter fun b=>adj g.Edges a b),k+1)):=by
   rw [p,a1,u]
   refine Zc ?_
   generalize tb (g.Colors.length:Int) (adj g.Edges)=X at x w ⊢
   simp (disch:=omega) only [pz,Zd1]
  simp (disch:=omega) only [pz,Zhb,y]
 have r:(([]:List (List Int)),(0:Int))=(fun k:Int=>(tabl k (fun a=>(idP g.Colors.length).filter fun b=>adj g.Edges a b),k)) 0:=rfl
 rw [r,h1]
 exact Zc (by simp (disch:=omega) only [pz,Zhb];rfl)
theorem ZpI {g:Za} (hg:ValidG g):Nr (nearM g):=by
 have k:=hg.cl
 have e:=ZlV g
 refine ⟨by omega,fun a j=>?_⟩
 obtain ⟨v,v0,v1,rfl⟩:=Z0 j
 rw [e] at v1
 have:=ZzH v0 v1
 exact ⟨by omega,fun w h=>by rw [e];exact ((Zxi v0 v1).1 h).1⟩
def nb (es:List Zb) (v:Int):List Int:=es.filterMap fun e=>if e.A=v then some e.B else if e.B=v then some e.A else none
theorem Zsf {es:List Zb} {k:Int} (k0:0<=k) (k1:k<(es.length:Int)) (v:Int):nb (es.take (k+1).toNat) v=nb (es.take k.toNat) v++(if (ix es k).A=v then [(ix es k).B] else if (ix es k).B=v then [(ix es k).A] else []):=by
 unfold nb
 rw [Zap k0 k1,List.filterMap_append]
 congr 1
 by_cases c:(ix es k).A=v
 ·simp [c]
 ·by_cases d:(ix es k).B=v
  ·simp [c,d]
  ·simp [c,d]
theorem Zng (es:List Zb) (v:Int):(nb es v).length<=es.length:=List.length_filterMap_le _ _
theorem ZCD {g:Za} (hg:ValidG g) {v:Int} (v0:0<=v) (v1:v<(g.Colors.length:Int)):sortI (nb g.Edges v)=(idP g.Colors.length).filter fun b=>adj g.Edges v b:=by
 refine Zj6 ((ZbJ _).trans ?_) (Zje _) (((ZmO _).filter _))
 rw [List.perm_ext_iff_of_nodup]
 ·intro x
  unfold nb
  rw [List.mem_filterMap,List.mem_filter,ZR,ZvB]
  constructor
  ·rintro ⟨e,r,h⟩
   have k:=ZbC hg r
   by_cases c:e.A=v
   ·rw [if_pos c] at h
    obtain rfl:=Option.some.inj h
    exact ⟨⟨by omega,by omega⟩,e,r,.inl ⟨c,rfl⟩⟩
   ·rw [if_neg c] at h
    by_cases d:e.B=v
    ·rw [if_pos d] at h
     obtain rfl:=Option.some.inj h
     exact ⟨⟨by omega,by omega⟩,e,r,.inr ⟨rfl,d⟩⟩
    ·rw [if_neg d] at h;cases h
  ·rintro ⟨_,e,r,⟨c,d⟩|⟨c,d⟩⟩
   ·exact ⟨e,r,by rw [if_pos c,d]⟩
   ·have k:=ZbC hg r
    exact ⟨e,r,by rw [if_neg ω,if_pos d,c]⟩
 ·unfold nb List.Nodup
  rw [List.pairwise_filterMap]
  refine (ZBB hg).imp_of_mem fun {a b} ha l w x i y o u=>?_
  have va:=ZbC hg ha
  have vb:=ZbC hg l
  subst u
  unfold eLess at w
  by_cases c:a.A=v
  ·rw [if_pos c] at i
   obtain rfl:=Option.some.inj i
   by_cases d:b.A=v
   ·rw [if_pos d] at o;have:=Option.some.inj o;omega
   ·rw [if_neg d] at o
    by_cases f:b.B=v
    ·rw [if_pos f] at o;have:=Option.some.inj o;omega
    ·rw [if_neg f] at o;cases o
  ·rw [if_neg c] at i
   by_cases f:a.B=v
   ·rw [if_pos f] at i
    obtain rfl:=Option.some.inj i
    by_cases d:b.A=v
    ·rw [if_pos d] at o;have:=Option.some.inj o;omega
    ·rw [if_neg d] at o
     by_cases j:b.B=v
     ·rw [if_pos j] at o;have:=Option.some.inj o;omega
     ·rw [if_neg j] at o;cases o
   ·rw [if_neg f] at i;cases i
 ·exact (Zlg _).filter _
theorem ZAy {g:Za} (hg:ValidG g):ZkB g=some (nearM g):=by
 unfold ZkB
 have a0:=hg.cl
 have a1:=hg.el
 have y:gMake 24 ([]:List Int) (g.Colors.length:Int) (g.Colors.length:Int)=some (tabl g.Colors.length fun v=>nb (g.Edges.take (0:Int).toNat) v):=by
  rw [Zau ω ω ω,Int.toNat_natCast]
  congr 1
  refine ZaH (by rw [List.length_replicate,Zl];omega) fun i a f=>?_
  rw [List.length_replicate] at f
  rw [Zcg a ω,ZH a ω]
  rfl
 rw [y,Option.bind_some]
 have h1:=Zj (B:=ZiE g) (fun k=>(k,tabl g.Colors.length fun v=>nb (g.Edges.take k.toNat) v)) (i:=0) (n:=g.Edges.length) ω fun k k0 k1=>by
  obtain ⟨h,ab,j⟩:=ZbC hg (Zn k0 k1)
  have s1:(tabl g.Colors.length fun v=>nb (g.Edges.take k.toNat) v).set (ix g.Edges k).A.toNat (nb (g.Edges.take k.toNat) (ix g.Edges k).A++[(ix g.Edges k).B])=tabl g.Colors.length fun v=>if v=(ix g.Edges k).A then nb (g.Edges.take k.toNat) v++[(ix g.Edges k).B] else nb (g.Edges.take k.toNat) v:=
   Zak h ω (fun i a f hi=>by rw [if_neg hi]) (by rw [if_pos rfl])
  have s2:(tabl g.Colors.length fun v=>if v=(ix g.Edges k).A then nb (g.Edges.take k.toNat) v++[(ix g.Edges k).B] else nb (g.Edges.take k.toNat) v).set (ix g.Edges k).B.toNat (nb (g.Edges.take k.toNat) (ix g.Edges k).B++[(ix g.Edges k).A])=tabl g.Colors.length fun v=>nb (g.Edges.take (k+1).toNat) v:=by
   refine Zak ω j (fun i a f hi=>?_) ?_
   ·rw [Zsf k0 k1]
    by_cases c:i=(ix g.Edges k).A
    ·rw [if_pos c,if_pos c.symm]
    ·rw [if_neg c,if_neg fun e=>c e.symm,if_neg fun e=>hi e.symm,List.append_nil]
   ·rw [Zsf k0 k1,if_neg ω,if_pos rfl]
  have x1:ix (tabl (g.Colors.length:Int) fun v=>nb (g.Edges.take k.toNat) v) (ix g.Edges k).A=nb (g.Edges.take k.toNat) (ix g.Edges k).A:=ZH h ω
  have x2:ix (tabl (g.Colors.length:Int) fun v=>if v=(ix g.Edges k).A then nb (g.Edges.take k.toNat) v++[(ix g.Edges k).B] else nb (g.Edges.take k.toNat) v) (ix g.Edges k).B=nb (g.Edges.take k.toNat) (ix g.Edges k).B:=by rw [ZH ω j,if_neg ω]
  have n1:=Zng (g.Edges.take k.toNat) (ix g.Edges k).A
  have n2:=Zng (g.Edges.take k.toNat) (ix g.Edges k).B
  rw [List.length_take] at n1 n2
  have l1:(tabl (g.Colors.length:Int) fun v=>nb (g.Edges.take k.toNat) v).length=g.Colors.length:=by rw [Zl];omega
  have l2:(tabl (g.Colors.length:Int) fun v=>if v=(ix g.Edges k).A then nb (g.Edges.take k.toNat) v++[(ix g.Edges k).B] else nb (g.Edges.take k.toNat) v).length=g.Colors.length:=by rw [Zl];omega
  generalize (tabl (g.Colors.length:Int) fun v=>nb (g.Edges.take k.toNat) v)=X at s1 x1 l1 ⊢
  generalize (tabl (g.Colors.length:Int) fun v=>if v=(ix g.Edges k).A then nb (g.Edges.take k.toNat) v++[(ix g.Edges k).B] else nb (g.Edges.take k.toNat) v)=Y at s1 s2 x2 l2
  simp (disch:=omega) only [pz,ZiE,x1,s1,x2,s2]
 rw [h1,Int.toNat_natCast,List.take_length]
 have l0:(tabl (g.Colors.length:Int) fun v=>nb g.Edges v).length=g.Colors.length:=by rw [Zl];omega
 have l:=Zj (B:=Zfx (tabl g.Colors.length fun v=>nb g.Edges v)) (fun k=>(k,tabl g.Colors.length fun v=>if v<k then (idP g.Colors.length).filter (fun b=>adj g.Edges v b) else nb g.Edges v)) (i:=0) (n:=g.Colors.length) ω fun k k0 k1=>by
  have s1:(tabl g.Colors.length fun v=>if v<k then (idP g.Colors.length).filter (fun b=>adj g.Edges v b) else nb g.Edges v).set k.toNat ((idP g.Colors.length).filter fun b=>adj g.Edges k b)=tabl g.Colors.length fun v=>if v<k+1 then (idP g.Colors.length).filter (fun b=>adj g.Edges v b) else nb g.Edges v:=by
   refine Zak k0 k1 (fun i a f hi=>?_) ?_
   ·by_cases c:i<k
    ·rw [if_pos c,if_pos ω]
    ·rw [if_neg c,if_neg ω]
   ·rw [if_pos ω]
  have x1:ix (tabl (g.Colors.length:Int) fun v=>if v<k then (idP g.Colors.length).filter (fun b=>adj g.Edges v b) else nb g.Edges v) k=nb g.Edges k:=by rw [ZH k0 k1,if_neg ω]
  have u:=Zng g.Edges k
  have w:=ZiL (p:=nb g.Edges k) ω
  rw [ZCD hg k0 k1] at w
  have l1:(tabl (g.Colors.length:Int) fun v=>if v<k then (idP g.Colors.length).filter (fun b=>adj g.Edges v b) else nb g.Edges v).length=g.Colors.length:=by rw [Zl];omega
  generalize (tabl (g.Colors.length:Int) fun v=>if v<k then (idP g.Colors.length).filter (fun b=>adj g.Edges v b) else nb g.Edges v)=X at s1 x1 l1 ⊢
  generalize (tabl (g.Colors.length:Int) fun v=>nb g.Edges v)=Y at l0 ⊢
  simp (disch:=omega) only [pz,Zfx,x1,w,s1]
 have o:(tabl (g.Colors.length:Int) fun v=>nb g.Edges v)=tabl g.Colors.length fun v=>if v<0 then (idP g.Colors.length).filter (fun b=>adj g.Edges v b) else nb g.Edges v:=ZM fun i a f=>by rw [if_neg ω]
 have r:(tabl (g.Colors.length:Int) fun v=>if v<(g.Colors.length:Int) then (idP g.Colors.length).filter (fun b=>adj g.Edges v b) else nb g.Edges v)=nearM g:=ZM fun i a f=>by rw [if_pos f]
 have s:loop (Zfx (tabl g.Colors.length fun v=>nb g.Edges v)) (0,tabl g.Colors.length fun v=>nb g.Edges v)=some (.inr (nearM g)):=by
  have x:=l
  rw [<-o,r] at x
  rw [x]
  generalize (tabl (g.Colors.length:Int) fun v=>nb g.Edges v)=Y at l0 ⊢
  exact Zc (by simp (disch:=omega) only [pz,Zfx])
 refine Zc ?_
 simp (disch:=omega) only [pz,ZiE,s]
theorem compareE (a b:Zb):Za0 a b=some (eC a b):=by
 unfold Za0
 simp only [ZqM,or_ok,Option.bind_some]
 rfl
theorem eC_ok:CmpOk eC where
 swo:=by
  have t:∀ x y,ltC eC x y=true↔eLess x y:=fun x y=>by unfold ltC;rw [decide_eq_true_eq,eC_lt]
  have f:∀ x y,ltC eC x y=false↔¬ eLess x y:=fun x y=>by rw [<-t,Bool.not_eq_true]
  exact ⟨fun x=>(f x x).2 (by unfold eLess;omega),fun x y z h k=>(t x z).2 (ZlQ _ _ _ ((t _ _).1 h) ((t _ _).1 k)),fun x y z h k=>(f x z).2 (by
   have h:=(f _ _).1 h
   have k:=(f _ _).1 k
   unfold eLess at *;omega)⟩
 tot:=fun x y h k=>by
  unfold ltC at h k
  simp only [decide_eq_false_iff_not] at h k
  rw [eC_lt] at h k
  unfold eLess at h k
  cases x;cases y
  simp only [Zb.mk.injEq] at *
  omega
def mkE (e:Zb):Zb:=⟨min e.A e.B,max e.A e.B⟩
theorem ZsU {es:List Zb} (hl:es.length<=1000000):Ziy es=some (srtE (es.map mkE)):=by
 unfold Ziy
 have h1:=Zj (B:=Zgh es) (fun k=>((es.take k.toNat).map mkE,k)) (i:=0) (n:=es.length) ω fun k k0 k1=>by
  have a1:((es.take k.toNat).map mkE).length<=1000000:=by rw [List.length_map,List.length_take];omega
  have hm:((es.take (k+1).toNat).map mkE)=(es.take k.toNat).map mkE++[mkE (ix es k)]:=ZdR k0 k1
  have e:Zb.mk (if (ix es k).B<(ix es k).A then (ix es k).B else (ix es k).A) (if (ix es k).B>(ix es k).A then (ix es k).B else (ix es k).A)=mkE (ix es k):=by
   unfold mkE
   congr 1
   ·by_cases c:(ix es k).B<(ix es k).A
    ·rw [if_pos c];omega
    ·rw [if_neg c];omega
   ·by_cases c:(ix es k).B>(ix es k).A
    ·rw [if_pos c];omega
    ·rw [if_neg c];omega
  rw [hm,<-e]
  simp (disch:=omega) only [pz,Zgh]
 have f:(([]:List Zb),(0:Int))=(fun k:Int=>((es.take k.toNat).map mkE,k)) 0:=rfl
 rw [f,h1,Int.toNat_natCast,List.take_length]
 have hf:(fun a c=>(Za0 a c).getD 0)=eC:=by funext a c;rw [compareE];rfl
 have hs:Zhq (es.map mkE) (fun j l=>Za0 j l)=some (sortC eC (es.map mkE)):=by
  unfold Zhq
  rw [if_pos ⟨⟨eC,compareE,eC_ok⟩,by rw [List.length_map];omega⟩,hf]
 have u:(sortC eC (es.map mkE)).Perm (es.map mkE):=List.mergeSort_perm _ _
 have w:(sortC eC (es.map mkE)).Pairwise fun a b=>¬ eLess b a:=by
  have:=List.pairwise_mergeSort (le:=fun x y=>!ltC eC y x) (fun a b c h k=>by
   simp only [Bool.not_eq_true',ltC,decide_eq_false_iff_not,eC_lt] at *
   unfold eLess at *;omega) (fun a b=>by
   simp only [Bool.or_eq_true,Bool.not_eq_true',ltC,decide_eq_false_iff_not,eC_lt]
   unfold eLess;omega) (es.map mkE)
  refine List.Pairwise.imp (fun {a b} h=>?_) this
  simpa [ltC,eC_lt] using h
 obtain ⟨q,o,q2,p⟩:=cptGL (eqb:=fun (a b:Zb)=>a.A==b.A&&a.B==b.B) (Le:=fun a b=>¬ eLess b a) (R:=eLess) (fun a b=>by
   cases a;cases b
   simp) (fun a b h k=>by
   cases a;cases b
   unfold eLess at *
   simp only [Zb.mk.injEq,ne_eq] at *
   omega) ZlQ w
 have r:Zir (sortC eC (es.map mkE))=some (srtE (es.map mkE)):=by
  have s:q=srtE (es.map mkE):=Zlf q2 fun z=>by rw [p,u.mem_iff]
  unfold Zir
  rw [if_pos (by rw [u.length_eq,List.length_map];omega),o,s]
 exact Zc (by simp (disch:=omega) only [pz,Zgh,hs,r])
theorem Zrg {g:Za} {p:List Int} (hp:Vc.Perm p g.Colors.length) {k:Int} (k0:0<=k) (k1:k<(g.Colors.length:Int)):
  (tabl g.Colors.length fun i=>if (p.idxOf i:Int)<k then ix g.Colors (p.idxOf i:Int) else 0).set (ix p k).toNat (ix g.Colors k)=tabl g.Colors.length fun i=>if (p.idxOf i:Int)<k+1 then ix g.Colors (p.idxOf i:Int) else 0:=by
 have l:=hp.len
 have h:=hp.rng _ (Zn (xs:=p) k0 ω)
 refine Zak h.1 h.2 (fun i a f hi=>?_) ?_
 ·have j:(p.idxOf i:Int)≠k:=fun e=>hi (by
   have:=(Zhx (Znt hp a f)).2
   rw [e] at this
   exact this.symm)
  by_cases c:(p.idxOf i:Int)<k
  ·rw [if_pos c,if_pos ω]
  ·rw [if_neg c,if_neg ω]
 ·rw [ZEH hp.nd k0 ω,if_pos ω]
theorem ZqJ {g:Za} {p:List Int}:(tabl g.Colors.length fun i=>if (p.idxOf i:Int)<0 then ix g.Colors (p.idxOf i:Int) else 0)=List.replicate g.Colors.length 0:=by
 refine ZaH (by rw [List.length_replicate,Zl];omega) fun i a c=>?_
 rw [Zl] at c
 rw [Zcg a ω,ZH a ω,if_neg ω]
theorem Zrd {g:Za} {p:List Int} (hp:Vc.Perm p g.Colors.length):(tabl g.Colors.length fun i=>if (p.idxOf i:Int)<(g.Colors.length:Int) then ix g.Colors (p.idxOf i:Int) else 0)=colM g p:=by
 have e:=hp.len
 unfold colM
 rw [e]
 refine ZM fun i a c=>?_
 have:=(Zhx (Znt hp a c)).1
 rw [if_pos ω]
def mvE (p:List Int) (e:Zb):Zb:=⟨ix p e.A,ix p e.B⟩
theorem mv_mk (p:List Int) (es:List Zb):(es.map (mvE p)).map mkE=es.map (mapE p):=by rw [List.map_map];rfl
theorem ZBk {g:Za} (hg:ValidG g) {p:List Int} (hp:Vc.Perm p g.Colors.length):Zh5 g p=some (relab g p):=by
 unfold Zh5
 have u:=hg.cl
 have w:=hg.el
 have y:=hp.len
 have j:gMake 8 (0:Int) (g.Colors.length:Int) (g.Colors.length:Int)=some (tabl g.Colors.length fun i=>if (p.idxOf i:Int)<0 then ix g.Colors (p.idxOf i:Int) else 0):=by
  rw [Zau ω ω ω,Int.toNat_natCast,ZqJ]
 rw [j,Option.bind_some]
 have h1:=Zj (B:=Zf2 g p) (fun k=>(k,tabl g.Colors.length fun i=>if (p.idxOf i:Int)<k then ix g.Colors (p.idxOf i:Int) else 0)) (i:=0) (n:=g.Colors.length) ω fun k k0 k1=>by
  have hs:=Zrg hp k0 k1
  have x:=hp.rng _ (Zn (xs:=p) k0 ω)
  have l:(tabl (g.Colors.length:Int) fun i=>if (p.idxOf i:Int)<k then ix g.Colors (p.idxOf i:Int) else 0).length=g.Colors.length:=by rw [Zl];omega
  generalize (tabl (g.Colors.length:Int) fun i=>if (p.idxOf i:Int)<k then ix g.Colors (p.idxOf i:Int) else 0)=X at hs l ⊢
  simp (disch:=omega) only [pz,Zf2,hs]
 rw [h1,Zrd hp]
 have a:=Zj (B:=ZfP g p (colM g p)) (fun k=>(k,(g.Edges.take k.toNat).map (mvE p))) (i:=0) (n:=g.Edges.length) ω fun k k0 k1=>by
  have f:=ZbC hg (Zn k0 k1)
  have r:((g.Edges.take k.toNat).map (mvE p)).length<=512:=by rw [List.length_map,List.length_take];omega
  have o:((g.Edges.take (k+1).toNat).map (mvE p))=(g.Edges.take k.toNat).map (mvE p)++[Zb.mk (ix p (ix g.Edges k).A) (ix p (ix g.Edges k).B)]:=ZdR k0 k1
  simp (disch:=omega) only [pz,ZfP,o]
 have c:((0:Int),([]:List Zb))=(fun k:Int=>(k,(g.Edges.take k.toNat).map (mvE p))) 0:=rfl
 have h:=ZsU (es:=g.Edges.map (mvE p)) (by rw [List.length_map];omega)
 rw [mv_mk] at h
 have e:loop (ZfP g p (colM g p)) (0,([]:List Zb))=some (.inr (relab g p)):=by
  rw [c,a,Int.toNat_natCast,List.take_length]
  exact Zc (by simp (disch:=omega) only [pz,ZfP,h];rfl)
 exact Zc (by simp (disch:=omega) only [pz,Zf2,e])
def rwE (n:Int) (F:Int->Int->Bool) (a:Int):List Zb:=((idP n).filter fun b=>decide (a<b)&&F a b).map fun b=>⟨a,b⟩
def ofE (n k:Int) (F:Int->Int->Bool):List Zb:=(idP k).flatMap (rwE n F)
theorem Ztw (n:Int) (F:Int->Int->Bool) (a:Int):(rwE n F a).length<=n.toNat:=by
 unfold rwE
 rw [List.length_map]
 have:=List.length_filter_le (fun b=>decide (a<b)&&F a b) (idP n)
 rwa [Zag] at this
theorem ZqG {n k:Int} {F:Int->Int->Bool} (h:0<=k):ofE n (k+1) F=ofE n k F++rwE n F k:=by
 unfold ofE idP
 rw [ZX h,List.flatMap_append]
 simp
theorem ZD6 {F:Int->Int->Bool} {a k:Int} (h:0<=k):rwE (k+1) F a=rwE k F a++(if a<k/\F a k=true then [⟨a,k⟩] else []):=by
 unfold rwE idP
 rw [ZX h,List.filter_append,List.map_append]
 by_cases c:a<k/\F a k=true
 ·rw [if_pos c];simp [c.1,c.2]
 ·rw [if_neg c]
  have:(decide (a<k)&&F a k)=false:=by
   rw [Bool.eq_false_iff];intro h;rw [Bool.and_eq_true,decide_eq_true_eq] at h;exact c h
  simp [this]
theorem ZvU {F:Int->Int->Bool} {a:Int} (h:0<=a):rwE (a+1) F a=[]:=by
 unfold rwE
 have:((idP (a+1)).filter fun b=>decide (a<b)&&F a b)=[]:=by
  rw [List.filter_eq_nil_iff]
  intro b c
  have:=ZR.1 c
  simp;omega
 rw [this];rfl
theorem ZyH {n:Int} {F:Int->Int->Bool} {e:Zb}:e∈ofE n n F↔(0<=e.A/\e.A<n)/\(0<=e.B/\e.B<n)/\e.A<e.B/\F e.A e.B=true:=by
 unfold ofE rwE
 rw [List.mem_flatMap]
 constructor
 ·rintro ⟨a,j,k⟩
  obtain ⟨b,c,rfl⟩:=List.mem_map.1 k
  rw [List.mem_filter,Bool.and_eq_true,decide_eq_true_eq] at c
  exact ⟨ZR.1 j,ZR.1 c.1,c.2.1,c.2.2⟩
 ·rintro ⟨h1,f,h,i⟩
  refine ⟨e.A,ZR.2 h1,List.mem_map.2 ⟨e.B,?_,rfl⟩⟩
  rw [List.mem_filter,Bool.and_eq_true,decide_eq_true_eq]
  exact ⟨ZR.2 f,h,i⟩
theorem Zc2 (n:Int):(idP n).Pairwise (·<·):=by
 have h:=List.Pairwise.and (ZmO n) (Zlg n)
 exact h.imp fun ⟨a,b⟩=>by omega
theorem ZxR (n:Int) (F:Int->Int->Bool):(ofE n n F).Pairwise eLess:=by
 unfold ofE
 rw [List.pairwise_flatMap]
 refine ⟨fun a k=>?_,(Zc2 n).imp fun {a b} e x c y j=>?_⟩
 ·unfold rwE
  rw [List.pairwise_map]
  exact ((Zc2 n).filter _).imp fun h=>.inr ⟨rfl,h⟩
 ·unfold rwE at c j
  obtain ⟨_,_,rfl⟩:=List.mem_map.1 c
  obtain ⟨_,_,rfl⟩:=List.mem_map.1 j
  exact .inl e
theorem ZHI {cs:List Int} {F:Int->Int->Bool} (w:cs.length<=64):Zkv cs (tb cs.length F)=some ⟨cs,ofE cs.length cs.length F⟩:=by
 unfold Zkv
 rw [ZmF ω,Option.bind_some]
 have hl:=ZjX (cs.length:Int) F
 rw [Int.toNat_natCast] at hl
 obtain ⟨⟨j,y⟩,⟨h1,h,o⟩,p⟩:=Zim (B:=Zho cs (tb cs.length F) cs) (fun k q=>q.1=k/\q.2=ofE cs.length k F/\(q.2.length:Int)<=64*k) (i:=0) (n:=cs.length) ω (s:=((0:Int),([]:List Zb))) ⟨rfl,rfl,by simp⟩ fun k q k0 k1 ⟨l,f,r⟩=>by
  obtain ⟨j,y⟩:=q
  dsimp only at l f r
  subst l
  have a1:=Ze2 (F:=F) k0 k1
  have a4:=Zj (B:=ZdH cs (tb cs.length F) j) (fun b=>(b,y++rwE b F j)) (i:=j+1) (n:=cs.length) ω fun b x u=>by
   have c:=ZsR (F:=F) k0 k1 (show 0<=b by omega) u
   have a6:=Ztw b F j
   have a0:=ZD6 (F:=F) (a:=j) (k:=b) ω
   have a5:(y++rwE b F j).length<=10000:=by rw [List.length_append];omega
   cases e:F j b with
   | true=>
    rw [e] at c
    rw [if_pos ⟨by omega,e⟩] at a0
    generalize tb (cs.length:Int) F=X at c hl a1 ⊢
    rw [a0,<-List.append_assoc]
    generalize y++rwE b F j=Y at a5 ⊢
    simp (disch:=omega) only [pz,ZdH,c]
   | false=>
    rw [e] at c
    rw [if_neg (by simp [e]),List.append_nil] at a0
    generalize tb (cs.length:Int) F=X at c hl a1 ⊢
    rw [a0]
    simp (disch:=omega) only [pz,ZdH,c]
  have v:(j+1,y)=(fun b=>(b,y++rwE b F j)) (j+1):=by
   show _=(_,_++_)
   rw [ZvU k0,List.append_nil]
  have a2:loop (ZdH cs (tb cs.length F) j) (j+1,y)=some (.inl (j+1,ofE cs.length (j+1) F)):=by
   rw [v,a4]
   refine Zc ?_
   rw [ZqG k0,<-f]
   simp (disch:=omega) only [pz,ZdH]
  refine ⟨(j+1,ofE cs.length (j+1) F),by simp (disch:=omega) only [pz,Zho,a2],rfl,rfl,?_⟩
  dsimp only
  rw [ZqG k0,<-f,List.length_append]
  have:=Ztw (cs.length:Int) F j
  omega
 dsimp only at h1 h o
 rw [p]
 subst h1
 rw [h]
 exact Zc (by simp (disch:=omega) only [pz,Zho])
theorem ZAV {g:Za} (hg:ValidG g) {p:List Int} (hp:Vc.Perm p g.Colors.length):Zf7 g p=some (relab g p):=by
 unfold Zf7
 have a6:=hg.cl
 have a7:=hg.el
 have hl:=hp.len
 have a2:gMake 8 (0:Int) (p.length:Int) (p.length:Int)=some (tabl g.Colors.length fun i=>if (p.idxOf i:Int)<0 then ix g.Colors (p.idxOf i:Int) else 0):=by
  rw [Zau ω ω ω,Int.toNat_natCast,ZqJ]
  congr 2;omega
 rw [a2,Option.bind_some]
 have h1:=Zj (B:=Zij g p) (fun k=>(k,tabl g.Colors.length fun i=>if (p.idxOf i:Int)<k then ix g.Colors (p.idxOf i:Int) else 0)) (i:=0) (n:=g.Colors.length) ω fun k k0 k1=>by
  have hs:=Zrg hp k0 k1
  have hr:=hp.rng _ (Zn (xs:=p) k0 ω)
  have hX:(tabl (g.Colors.length:Int) fun i=>if (p.idxOf i:Int)<k then ix g.Colors (p.idxOf i:Int) else 0).length=g.Colors.length:=by rw [Zl];omega
  generalize (tabl (g.Colors.length:Int) fun i=>if (p.idxOf i:Int)<k then ix g.Colors (p.idxOf i:Int) else 0)=X at hs hX ⊢
  simp (disch:=omega) only [pz,Zij,hs]
 rw [h1,Zrd hp]
 have a0:(colM g p).length=g.Colors.length:=by rw [ZvM];omega
 have x:=Zsz (g:=⟨colM g p,[]⟩) (by show (colM g p).length<=64;omega) (by simp) (fun e he=>by simp at he)
 have x:Zet ⟨colM g p,[]⟩=some (tb g.Colors.length (adj ((g.Edges.take (0:Int).toNat).map (mvE p)))):=by
  rw [x]
  show some (tb ((colM g p).length:Int) (adj []))=_
  rw [a0];rfl
 have r:=Zj (B:=ZeK g p (colM g p)) (fun k=>(k,tb g.Colors.length (adj ((g.Edges.take k.toNat).map (mvE p))))) (i:=0) (n:=g.Edges.length) ω fun k k0 k1=>by
  have s:=ZbC hg (Zn k0 k1)
  obtain ⟨x0,x1⟩:=hp.rng _ (Zn (xs:=p) (i:=(ix g.Edges k).A) ω ω)
  obtain ⟨f,j⟩:=hp.rng _ (Zn (xs:=p) (i:=(ix g.Edges k).B) ω ω)
  have hs:=Zsd (F:=adj ((g.Edges.take k.toNat).map (mvE p))) x0 x1 f j
  have ht:(tb (g.Colors.length:Int) fun a b=>adj ((g.Edges.take k.toNat).map (mvE p)) a b||((ix p (ix g.Edges k).A==a&&ix p (ix g.Edges k).B==b)||(ix p (ix g.Edges k).A==b&&ix p (ix g.Edges k).B==a)))=tb g.Colors.length (adj ((g.Edges.take (k+1).toNat).map (mvE p))):=ZoU fun a b _ _ _ _=>by
   rw [ZdR k0 k1]
   unfold adj
   rw [List.any_append]
   simp [mvE]
  rw [ht] at hs
  have o:=ZjY (F:=adj ((g.Edges.take k.toNat).map (mvE p))) x0 x1 f j
  have l1:=ZjX (g.Colors.length:Int) (adj ((g.Edges.take k.toNat).map (mvE p)))
  have l2:=Ze2 (F:=adj ((g.Edges.take k.toNat).map (mvE p))) x0 x1
  have u:(ix ((tb (g.Colors.length:Int) (adj ((g.Edges.take k.toNat).map (mvE p)))).set (ix p (ix g.Edges k).A).toNat ((ix (tb (g.Colors.length:Int) (adj ((g.Edges.take k.toNat).map (mvE p)))) (ix p (ix g.Edges k).A)).set (ix p (ix g.Edges k).B).toNat true)) (ix p (ix g.Edges k).B)).length=g.Colors.length:=by rw [o,Ze2 f j];omega
  generalize tb (g.Colors.length:Int) (adj ((g.Edges.take k.toNat).map (mvE p)))=X at hs l1 l2 u ⊢
  have v:(X.set (ix p (ix g.Edges k).A).toNat ((ix X (ix p (ix g.Edges k).A)).set (ix p (ix g.Edges k).B).toNat true)).length=g.Colors.length:=by rw [List.length_set];omega
  simp (disch:=omega) only [pz,ZeK]
  rw [hs]
 have y:=ZHI (cs:=colM g p) (F:=adj (g.Edges.map (mvE p))) ω
 rw [a0] at y
 have hE:ofE (g.Colors.length:Int) g.Colors.length (adj (g.Edges.map (mvE p)))=srtE (g.Edges.map (mapE p)):=by
  refine Zlf (ZxR _ _) fun z=>?_
  rw [ZyH,ZvB,List.mem_map]
  constructor
  ·rintro ⟨_,_,l,e,he,h⟩
   obtain ⟨d,c,rfl⟩:=List.mem_map.1 he
   refine ⟨d,c,?_⟩
   unfold mapE
   have h:(ix p d.A=z.A/\ix p d.B=z.B)\/(ix p d.A=z.B/\ix p d.B=z.A):=h
   cases z
   simp only [Zb.mk.injEq]
   dsimp only at h l
   omega
  ·rintro ⟨d,c,rfl⟩
   have s:=ZbC hg c
   have w:=hp.rng _ (Zn (xs:=p) (i:=d.A) ω ω)
   have r2:=hp.rng _ (Zn (xs:=p) (i:=d.B) ω ω)
   have a8:ix p d.A≠ix p d.B:=fun h=>by have:=Zmf hp.nd ω ω ω ω h;omega
   unfold mapE
   refine ⟨by dsimp only;omega,by dsimp only;omega,by dsimp only;omega,mvE p d,List.mem_map_of_mem c,?_⟩
   show (ix p d.A=min _ _/\ix p d.B=max _ _)\/(ix p d.A=max _ _/\ix p d.B=min _ _)
   omega
 rw [hE] at y
 have l:loop (ZeK g p (colM g p)) (0,tb g.Colors.length (adj ((g.Edges.take (0:Int).toNat).map (mvE p))))=some (.inr (relab g p)):=by
  rw [r,Int.toNat_natCast,List.take_length]
  exact Zc (by simp (disch:=omega) only [pz,ZeK,y];rfl)
 exact Zc (by simp (disch:=omega) only [pz,Zij,x,l])
theorem ZuO {es:List Zb} {k:Int} (k0:0<=k) (k1:k<(es.length:Int)):flatE (es.take (k+1).toNat)=flatE (es.take k.toNat)++[(ix es k).A,(ix es k).B]:=by
 unfold flatE
 rw [Zap k0 k1,List.flatMap_append]
 simp
theorem Ze8 (es:List Zb):(flatE es).length=2*es.length:=by
 induction es with
 | nil=>rfl
 | cons e es a=>unfold flatE at *;rw [List.flatMap_cons,List.length_append,a];simp;omega
theorem Zrp {g:Za} (j:g.Edges.length<=1000000):ZhC g=some (flatE g.Edges):=by
 unfold ZhC
 have h1:=Zj (B:=Zhp g) (fun k=>(flatE (g.Edges.take k.toNat),k)) (i:=0) (n:=g.Edges.length) ω fun k k0 k1=>by
  have h:=Ze8 (g.Edges.take k.toNat)
  rw [List.length_take] at h
  have e:gApp 8 (flatE (g.Edges.take k.toNat)) [(ix g.Edges k).A,(ix g.Edges k).B]=some (flatE (g.Edges.take (k+1).toNat)):=by
   rw [ZaR (by simp;omega) (by simp;omega),ZuO k0 k1]
  simp (disch:=omega) only [pz,Zhp,e]
 have a:(([]:List Int),(0:Int))=(fun k:Int=>(flatE (g.Edges.take k.toNat),k)) 0:=rfl
 rw [a,h1,Int.toNat_natCast,List.take_length]
 exact Zc (by simp (disch:=omega) only [pz,Zhp])
theorem ZuW {es:List Zb} (j:es.length<=1000000):Zhm es=some (flatE es):=by
 unfold Zhm
 have h1:=Zj (B:=Zgq es) (fun k=>(flatE (es.take k.toNat),k)) (i:=0) (n:=es.length) ω fun k k0 k1=>by
  have h:=Ze8 (es.take k.toNat)
  rw [List.length_take] at h
  have e:gApp 8 (flatE (es.take k.toNat)) [(ix es k).A,(ix es k).B]=some (flatE (es.take (k+1).toNat)):=by
   rw [ZaR (by simp;omega) (by simp;omega),ZuO k0 k1]
  simp (disch:=omega) only [pz,Zgq,e]
 have a:(([]:List Int),(0:Int))=(fun k:Int=>(flatE (es.take k.toNat),k)) 0:=rfl
 rw [a,h1,Int.toNat_natCast,List.take_length]
 exact Zc (by simp (disch:=omega) only [pz,Zgq])
theorem ZBN {g h:Za} (j:g.Colors.length<=1000000) (h1:g.Edges.length<=1000000) (e:h.Edges.length<=1000000):Zg2 g h=some (cmpG g h):=by
 unfold Zg2 cmpG
 have f:Za.mk g.Colors g.Edges=g:=rfl
 have i:Za.mk h.Colors h.Edges=h:=rfl
 have c1:=Zbx (a:=g.Colors) (b:=h.Colors) ω
 have k:=Ze8 g.Edges
 have c2:=Zbx (a:=flatE g.Edges) (b:=flatE h.Edges) ω
 have k1:=Zrp (g:=g) h1
 have k2:=Zrp (g:=h) e
 by_cases c:cmpL g.Colors h.Colors=0
 ·rw [if_pos c];simp (disch:=omega) only [pz,c1,f,i,k1,k2,c2]
 ·rw [if_neg c];simp (disch:=omega) only [pz,c1]
theorem Zxn {g h:Za} (f:g.Colors.length<=1000000) (h1:g.Edges.length<=1000000) (e:h.Edges.length<=1000000):Zik g h=some (cmpG g h):=by
 unfold Zik cmpG
 have c1:=Zbh (a:=g.Colors) (b:=h.Colors) ω
 have i:=Ze8 g.Edges
 have c2:=Zbh (a:=flatE g.Edges) (b:=flatE h.Edges) ω
 have k1:=ZuW (es:=g.Edges) h1
 have k2:=ZuW (es:=h.Edges) e
 by_cases c:cmpL g.Colors h.Colors=0
 ·rw [if_pos c];simp (disch:=omega) only [pz,c1,k1,k2,c2]
 ·rw [if_neg c];simp (disch:=omega) only [pz,c1]
def spS (g:Za) (near:List (List Int)) (B:Int) (s:CSt):Zz:=⟨g,near,s.best,s.perms,s.nodes,s.leaves,B,s.full⟩
def ipS (g:Za) (near:List (List Int)) (B:Int) (s:CSt):Zu:=⟨⟨B-s.nodes,s.full⟩,g,near,s.nodes,s.leaves,s.best,s.perms⟩
theorem ZjR {g:Za} {p:List Int} {s:CSt} (h:s.perms=[]\/cmpG (relab g p) s.best<0):leafM g p s=⟨relab g p,[p],s.nodes,s.leaves+1,s.full⟩:=by
 unfold leafM
 dsimp only
 have a:(if s.perms=[] then (-1:Int) else cmpG (relab g p) s.best)<0:=by
  by_cases c:s.perms=[]
  ·rw [if_pos c];omega
  ·rw [if_neg c];exact h.resolve_left c
 rw [if_pos a,if_pos a]
theorem ZrA {g:Za} {p:List Int} {s:CSt} (h:s.perms≠[]) (a:cmpG (relab g p) s.best=0):leafM g p s=⟨s.best,s.perms++[p],s.nodes,s.leaves+1,s.full⟩:=by
 unfold leafM
 dsimp only
 rw [if_neg h,a]
 simp
theorem Zqs {g:Za} {p:List Int} {s:CSt} (h:s.perms≠[]) (a:0<cmpG (relab g p) s.best):leafM g p s=⟨s.best,s.perms,s.nodes,s.leaves+1,s.full⟩:=by
 unfold leafM
 dsimp only
 rw [if_neg h,if_neg ω,if_neg ω,if_neg ω]
theorem Zqk {g:Za} (hg:ValidG g) {s:CSt} (a:Bst g s) (h:s.perms≠[]):s.best.Edges.length<=512:=by
 obtain ⟨p,hp,e⟩:=a h
 rw [e]
 have:=(ZkL hg hp).el
 omega
section
variable {g:Za} {B:Int} (hg:ValidG g) (hB:B<=20000)
include hg hB
theorem ZDf {rf:Zz->List Int->Option Zz} {cells:List Int} {s:CSt} {K:Int} (hp:Vc.Perm cells g.Colors.length) (ht:tgt cells<0) (hK:K<=1000) (hi:CInv B K s) (i:Bst g s):
  q_spec_l22Find_run rf (spS g (nearM g) B s) cells=some (spS g (nearM g) B (leafM g cells s)):=by
 have a3:=hg.cl
 have a4:=hg.el
 have hl:=hp.len
 have k:=hi.le
 have l:=hi.pl
 have o:=hi.nB
 have r:=hi.n0
 have w:=ZqN (cells:=cells) ω (fun x j=>(hp.rng x j).1)
 have hr:Zf7 (Za.mk g.Colors g.Edges) cells=some (relab g cells):=ZAV hg hp
 have e:=ZkL hg hp
 have a5:=e.cl
 have a6:=e.el
 have y:=ZmF (p:=cells) ω
 unfold q_spec_l22Find_run spS
 dsimp only
 by_cases u:s.perms=[]
 ·rw [ZjR (.inl u)]
  have f:(s.perms.length:Int)=0:=by rw [u];rfl
  have a0:gApp 24 ([]:List (List Int)) [cells]=some [cells]:=rfl
  simp (disch:=omega) only [pz,w,hr,Zd6,Zd0,y,a0]
 ·have f:0<s.perms.length:=List.length_pos_iff.2 u
  have a7:=Zqk hg i u
  have a:Zg2 (Za.mk (relab g cells).Colors (relab g cells).Edges) (Za.mk s.best.Colors s.best.Edges)=some (cmpG (relab g cells) s.best):=ZBN (g:=relab g cells) (h:=s.best) ω ω ω
  have a0:gApp 24 ([]:List (List Int)) [cells]=some [cells]:=rfl
  rcases Int.lt_trichotomy (cmpG (relab g cells) s.best) 0 with c|c|c
  ·rw [ZjR (.inr c)]
   simp (disch:=omega) only [pz,w,hr,Zd6,Zd0,y,a,a0]
  ·rw [ZrA u c]
   simp (disch:=omega) only [pz,w,hr,Zd6,Zd0,y,a,c]
  ·rw [Zqs u c]
   simp (disch:=omega) only [pz,w,hr,Zd6,Zd0,y,a]
theorem ZDK {cells:List Int} {s:CSt} {K:Int} (hp:Vc.Perm cells g.Colors.length) (hK:K<=1000) (hi:CInv B K s) (i:Bst g s):
  ZfV (ipS g (nearM g) B s) cells=some (ipS g (nearM g) B (leafM g cells s)):=by
 have x:=hg.cl
 have y:=hg.el
 have hl:=hp.len
 have j:=hi.le
 have k:=hi.pl
 have l:=hi.nB
 have o:=hi.n0
 have w:Zh5 (Za.mk g.Colors g.Edges) cells=some (relab g cells):=ZBk hg hp
 have e:=ZkL hg hp
 have a0:=e.cl
 have a1:=e.el
 unfold ZfV ipS
 dsimp only
 by_cases r:s.perms=[]
 ·rw [ZjR (.inl r)]
  have f:(s.perms.length:Int)=0:=by rw [r];rfl
  have u:gApp 24 ([]:List (List Int)) [cells]=some [cells]:=rfl
  simp (disch:=omega) only [pz,w,Zdm,Zdk,u]
 ·have f:0<s.perms.length:=List.length_pos_iff.2 r
  have a2:=Zqk hg i r
  have a:Zik (Za.mk (relab g cells).Colors (relab g cells).Edges) (Za.mk s.best.Colors s.best.Edges)=some (cmpG (relab g cells) s.best):=Zxn (g:=relab g cells) (h:=s.best) ω ω ω
  have u:gApp 24 ([]:List (List Int)) [cells]=some [cells]:=rfl
  rcases Int.lt_trichotomy (cmpG (relab g cells) s.best) 0 with c|c|c
  ·rw [ZjR (.inr c)]
   simp (disch:=omega) only [pz,w,Zdm,Zdk,a,u]
  ·rw [ZrA r c]
   simp (disch:=omega) only [pz,w,Zdm,Zdk,a,c]
  ·rw [Zqs r c]
   simp (disch:=omega) only [pz,w,Zdm,Zdk,a]
end
theorem ZiC {g:Za} {near:List (List Int)} {B:Int} {d:Nat} {cells:List Int}:∀ (vs:List Int) {s:CSt},s.full=true->vs.foldl (stepM g near B d cells) s=s
 | [],s,_=>rfl
 | v::vs,s,h=>by
  rw [List.foldl_cons]
  have:stepM g near B d cells s v=s:=by unfold stepM;rw [if_pos h]
  rw [this,ZiC vs h]
theorem Zrf {g:Za} {near:List (List Int)} {B:Int} {d:Nat} {cells:List Int} {s:CSt} {v:Int} (h:s.nodes=B):stepM g near B d cells s v={ s with full:=true }:=by
 unfold stepM
 by_cases a:s.full=true
 ·rw [if_pos a]
  cases s
  dsimp only at a
  rw [a]
 ·rw [if_neg a,if_pos h]
theorem ZqO {g:Za} {near:List (List Int)} {B:Int} {d:Nat} {cells:List Int} {s:CSt} {v:Int} (h:¬ s.nodes=B) (a:s.full=false):stepM g near B d cells s v=srch g near B d (refN near (sgl cells v)) { s with nodes:=s.nodes+1 }:=by
 unfold stepM
 rw [if_neg (by rw [a];simp),if_neg h]
theorem Zys {n:Nat} {cells:List Int} {t k:Int} (k0:0<=k) (k1:k<(n:Int)):((idP (n:Int)).drop k.toNat).filter (fun v=>ix cells v==t)=(if ix cells k=t then [k] else [])++((idP (n:Int)).drop (k+1).toNat).filter (fun v=>ix cells v==t):=by
 rw [ZaE k0 (by rw [Zag];omega),Zcq k0 k1,List.filter_cons]
 by_cases c:ix cells k=t
 ·rw [if_pos c,if_pos (by simpa using c)];rfl
 ·rw [if_neg c,if_neg (by simpa using c)];rfl
section
variable {g:Za} {B:Int} (hg:ValidG g) (hB:B<=20000)
include hg hB
theorem Zuk:∀ (d m:Nat) (cells:List Int) (s:CSt) (K:Int),d<=m->Cel (nearM g).length cells->(nearM g).length<d+cnt cells->K<=1000->CInv B K s->Bst g s ->
  pn_spec_l22Find_run m (spS g (nearM g) B s) cells=some (spS g (nearM g) B (srch g (nearM g) B d cells s))
 | 0,m,cells,s,K,hm,r,hd,hK,hi,p=>by have:=ZdU cells;have:=r.len;omega
 | d+1,m,cells,s,K,hm,r,hd,hK,hi,p=>by
  obtain ⟨m',rfl⟩:∃ m',m=m'+1:=⟨m-1,by omega⟩
  have hN:=ZpI hg
  have hn:=hN.n
  have ah:=ZlV g
  have af:=r.len
  show q_spec_l22Find_run (pn_spec_l22Find_run m') _ _=_
  rw [ZiK]
  have y:∀ x∈cells,0<=x:=fun x hx=>(r.rng x hx).1
  by_cases ht:tgt cells<0
  ·rw [if_pos ht]
   have ay:cells.Nodup:=by
    rcases Zc6 y with ⟨_,h⟩|⟨h,_⟩
    ·exact h
    ·omega
   have hp:Vc.Perm cells g.Colors.length:=by rw [<-ah];exact r.perm ay
   exact ZDf hg hB hp ht hK hi p
  ·rw [if_neg ht]
   have au:=ZqN (cells:=cells) ω y
   have aq:∀ j,0<=j->j<(cells.length:Int)->0<=ix cells j/\ix cells j<64:=fun j a b=>by
    have:=r.rng _ (Zn a b)
    omega
   have av:∀ (u:Nat) (k:Int) (s:CSt),k+u=(cells.length:Int)->0<=k->CInv B K s->Bst g s->∀ (f:Zz),f.qg=g->f.qnear=nearM g ->
     loop (ZbH (pn_spec_l22Find_run m') f cells (tgt cells)) (k,s.nodes,s.leaves,B,s.full,s.best.Colors,s.best.Edges,s.perms)=some (spS g (nearM g) B ((((idP (cells.length:Int)).drop k.toNat).filter (fun v=>ix cells v==tgt cells)).foldl (stepM g (nearM g) B d cells) s)):=by
    intro u
    induction u with
    | zero=>
     intro k s hk k0 hi p f l o
     obtain rfl:k=(cells.length:Int):=ω
     have e:(idP (cells.length:Int)).drop ((cells.length:Int)).toNat=[]:=List.drop_eq_nil_of_le (by rw [Zag];omega)
     rw [e]
     refine Zc ?_
     unfold ZbH
     dsimp only
     rw [l,o]
     simp (disch:=omega) only [pz,]
     rfl
    | succ u ih=>
     intro k s hk k0 hi p f l o
     have a0:k<(cells.length:Int):=ω
     have a5:=Zys (n:=cells.length) (cells:=cells) (t:=tgt cells) k0 a0
     have i1:=hi.le
     have i2:=hi.pl
     have i3:=hi.nB
     have i4:=hi.n0
     by_cases a8:ix cells k=tgt cells
     ·rw [if_pos a8] at a5
      rw [a5,List.singleton_append,List.foldl_cons]
      by_cases ag:s.nodes=B
      ·rw [Zrf ag,ZiC _ rfl]
       refine Zc ?_
       unfold ZbH ZeG
       dsimp only
       rw [l,o]
       simp (disch:=omega) only [pz,]
       rfl
      ·cases hf:s.full with
       | true=>
        have ap:stepM g (nearM g) B d cells s k=s:=by unfold stepM;rw [if_pos hf]
        rw [ap,ZiC _ hf]
        refine Zc ?_
        unfold ZbH ZeG
        dsimp only
        rw [l,o]
        simp (disch:=omega) only [pz,]
        unfold spS
        rw [hf]
       | false=>
        rw [ZqO ag hf]
        have ar:k∈vts cells (tgt cells):=Zj5.2 ⟨⟨k0,a0⟩,a8⟩
        have az:=r.more ht ar
        have ai:=Zgp cells k
        have aa:Cel (nearM g).length (refN (nearM g) (sgl cells k)):=Cel.ref (by rw [ai,af])
        have a1:CInv B (K-1) { s with nodes:=s.nodes+1 }:=⟨by show s.leaves<=s.nodes+1+(K-1);omega,i2,by show 0<=s.nodes+1;omega,by show s.nodes+1<=B;omega⟩
        have ac:=Zuk d m' (refN (nearM g) (sgl cells k)) { s with nodes:=s.nodes+1 } (K-1) ω aa ω ω a1 p
        have a3:=Zow g (nearM g) B d (refN (nearM g) (sgl cells k)) _ _ a1
        rw [show K-1+1=K by omega] at a3
        have a9:=(Zkm ah B d (refN (nearM g) (sgl cells k)) { s with nodes:=s.nodes+1 } aa ω p).1
        generalize srch g (nearM g) B d (refN (nearM g) (sgl cells k)) { s with nodes:=s.nodes+1 }=s1 at ac a3 a9 ⊢
        have am:=Zj (B:=Zcx (pn_spec_l22Find_run m') f cells k s.nodes s.leaves B s.best.Colors s.best.Edges s.perms s.full) (fun j=>(tabl j fun w=>if w=k then 2*ix cells w else 2*ix cells w+1,j)) (i:=0) (n:=cells.length) ω fun j j0 j1=>by
         obtain ⟨x0,x1⟩:=aq j j0 j1
         have ab:(tabl j fun w=>if w=k then 2*ix cells w else 2*ix cells w+1).length<=64:=by rw [Zl];omega
         have a6:(tabl (j+1) fun w=>if w=k then 2*ix cells w else 2*ix cells w+1)=_:=ZX j0
         by_cases c:j=k
         ·rw [if_pos c] at a6
          have hw:2*ix cells j+1-1=2*ix cells j:=ω
          rw [a6]
          generalize (tabl j fun w=>if w=k then 2*ix cells w else 2*ix cells w+1)=X at ab ⊢
          simp (disch:=omega) only [pz,Zcx,ZhQ,hw]
         ·rw [if_neg c] at a6
          rw [a6]
          generalize (tabl j fun w=>if w=k then 2*ix cells w else 2*ix cells w+1)=X at ab ⊢
          simp (disch:=omega) only [pz,Zcx,ZhQ]
        have e0:(([]:List Int),(0:Int))=(fun j:Int=>(tabl j fun w=>if w=k then 2*ix cells w else 2*ix cells w+1,j)) 0:=rfl
        have al:=ZtF (c:=sgl cells k) hN (by rw [ai,af])
        have aj:loop (Zcx (pn_spec_l22Find_run m') f cells k s.nodes s.leaves B s.best.Colors s.best.Edges s.perms s.full) (([]:List Int),0)=some (.inl (k+1,s1.nodes,s1.leaves,B,s1.full,s1.best.Colors,s1.best.Edges,s1.perms)):=by
         rw [e0,am]
         refine Zc ?_
         show Zcx _ _ _ _ _ _ _ _ _ _ _ (sgl cells k,(cells.length:Int))=_
         have ad:pn_spec_l22Find_run m' (Zz.mk (Za.mk g.Colors g.Edges) (nearM g) (Za.mk s.best.Colors s.best.Edges) s.perms (s.nodes+1) s.leaves B s.full) (refN (nearM g) (sgl cells k))=some (spS g (nearM g) B s1):=ac
         unfold Zcx
         dsimp only
         rw [l,o]
         simp (disch:=omega) only [pz,al,ad]
         rfl
        have a7:ZbH (pn_spec_l22Find_run m') f cells (tgt cells) (k,s.nodes,s.leaves,B,s.full,s.best.Colors,s.best.Edges,s.perms)=some (.inl (k+1,s1.nodes,s1.leaves,B,s1.full,s1.best.Colors,s1.best.Edges,s1.perms)):=by
         have a4:=aj
         rw [hf] at a4
         unfold ZbH ZeG
         dsimp only
         simp (disch:=omega) only [pz,a4,hf]
        rw [<-hf,Zv a7]
        exact ih (k+1) s1 ω ω a3 a9 f l o
     ·rw [if_neg a8,List.nil_append] at a5
      rw [a5]
      have a7:ZbH (pn_spec_l22Find_run m') f cells (tgt cells) (k,s.nodes,s.leaves,B,s.full,s.best.Colors,s.best.Edges,s.perms)=some (.inl (k+1,s.nodes,s.leaves,B,s.full,s.best.Colors,s.best.Edges,s.perms)):=by
       unfold ZbH
       dsimp only
       simp (disch:=omega) only [pz,]
      rw [Zv a7]
      exact ih (k+1) s ω ω hi p f l o
   have:=av cells.length 0 s ω ω hi p (spS g (nearM g) B s) rfl rfl
   unfold q_spec_l22Find_run
   rw [au,Option.bind_some,dec_f ω]
   exact this
theorem Zqe:∀ (d m:Nat) (cells:List Int) (s:CSt) (K:Int),d<=m->Cel (nearM g).length cells->(nearM g).length<d+cnt cells->K<=1000->CInv B K s->Bst g s ->
  pn_impl_explorer_search m (ipS g (nearM g) B s) cells=some (ipS g (nearM g) B (srch g (nearM g) B d cells s))
 | 0,m,cells,s,K,hm,p,hd,hK,hi,r=>by have:=ZdU cells;have:=p.len;omega
 | d+1,m,cells,s,K,hm,p,hd,hK,hi,r=>by
  obtain ⟨m',rfl⟩:∃ m',m=m'+1:=⟨m-1,by omega⟩
  have hN:=ZpI hg
  have hn:=hN.n
  have al:=ZlV g
  have ai:=p.len
  show q_impl_explorer_search (pn_impl_explorer_search m') _ _=_
  rw [ZiK]
  have a1:∀ x∈cells,0<=x:=fun x hx=>(p.rng x hx).1
  have a4:=ZD3 (cells:=cells) ω (fun x hx=>by have:=p.rng x hx;omega)
  by_cases ht:tgt cells<0
  ·rw [if_pos ht] at a4 ⊢
   have au:cells.Nodup:=by
    rcases Zc6 a1 with ⟨_,h⟩|⟨h,_⟩
    ·exact h
    ·omega
   have hp:Vc.Perm cells g.Colors.length:=by rw [<-al];exact p.perm au
   have b0:=ZDK hg hB hp hK hi r
   have an:ZfV (Zu.mk (Zad.mk (B-s.nodes) s.full) (Za.mk g.Colors g.Edges) (nearM g) s.nodes s.leaves (Za.mk s.best.Colors s.best.Edges) s.perms) cells=some (ipS g (nearM g) B (leafM g cells s)):=b0
   unfold q_impl_explorer_search
   rw [a4]
   show (ZfV _ cells).bind _=_
   unfold ipS
   dsimp only
   rw [an]
   rfl
  ·rw [if_neg ht] at a4 ⊢
   have ak:∀ j,0<=j->j<(cells.length:Int)->0<=ix cells j/\ix cells j<64:=fun j a b=>by
    have:=p.rng _ (Zn a b)
    omega
   have ar:(vts cells (tgt cells)).length<=64:=by
    have:=List.length_filter_le (fun v=>ix cells v==tgt cells) (idP (cells.length:Int))
    rw [Zag] at this
    unfold vts
    omega
   have b4:(vts cells (tgt cells)).length≠0:=fun e=>Ztz a1 ht (List.length_eq_zero_iff.1 e)
   have a6:∀ v∈vts cells (tgt cells),v∈vts cells (tgt cells):=fun v h=>h
   generalize hV:vts cells (tgt cells)=V at a4 ar b4 a6 ⊢
   have a6:∀ v∈V,v∈vts cells (tgt cells):=by rw [hV];exact a6
   have b6:∀ (y:Nat) (k:Int) (s:CSt),k+y=(V.length:Int)->0<=k->CInv B K s->Bst g s->∀ (o:Zu),o.qgraph=g->o.qlists=nearM g ->
     loop (Zcv (pn_impl_explorer_search m') o cells V) (k,B-s.nodes,s.full,s.nodes,s.leaves,s.best.Colors,s.best.Edges,s.perms)=some (ipS g (nearM g) B ((V.drop k.toNat).foldl (stepM g (nearM g) B d cells) s)):=by
    intro y
    induction y with
    | zero=>
     intro k s hk k0 hi r o f l
     obtain rfl:k=(V.length:Int):=ω
     have e:V.drop ((V.length:Int)).toNat=[]:=List.drop_eq_nil_of_le ω
     rw [e]
     refine Zc ?_
     unfold Zcv
     dsimp only
     rw [f,l]
     simp (disch:=omega) only [pz,]
     rfl
    | succ y ih=>
     intro k s hk k0 hi r o f l
     have a2:k<(V.length:Int):=ω
     have u:=hi.le
     have i2:=hi.pl
     have i3:=hi.nB
     have i4:=hi.n0
     rw [ZaE k0 a2,List.foldl_cons]
     have a7:=a6 _ (Zn k0 a2)
     generalize hv:ix V k=v at a7 ⊢
     obtain ⟨⟨v0,v1⟩,_⟩:=Zj5.1 a7
     cases hf:s.full with
     | true=>
      have b5:stepM g (nearM g) B d cells s v=s:=by unfold stepM;rw [if_pos hf]
      rw [b5,ZiC _ hf]
      refine Zc ?_
      unfold Zcv
      dsimp only
      rw [f,l]
      simp (disch:=omega) only [pz,]
      unfold ipS
      rw [hf]
     | false=>
      by_cases aj:s.nodes=B
      ·rw [Zrf aj,ZiC _ rfl]
       refine Zc ?_
       unfold Zcv ZkK
       dsimp only
       rw [f,l]
       simp (disch:=omega) only [pz,]
       rfl
      ·rw [ZqO aj hf]
       have b9:=p.more ht a7
       have ah:=Zgp cells v
       have a9:Cel (nearM g).length (refN (nearM g) (sgl cells v)):=Cel.ref (by rw [ah,ai])
       have a3:CInv B (K-1) { s with nodes:=s.nodes+1 }:=⟨by show s.leaves<=s.nodes+1+(K-1);omega,i2,by show 0<=s.nodes+1;omega,by show s.nodes+1<=B;omega⟩
       have ac:=Zqe d m' (refN (nearM g) (sgl cells v)) { s with nodes:=s.nodes+1 } (K-1) ω a9 ω ω a3 r
       have a5:=Zow g (nearM g) B d (refN (nearM g) (sgl cells v)) _ _ a3
       rw [show K-1+1=K by omega] at a5
       have a8:=(Zkm al B d (refN (nearM g) (sgl cells v)) { s with nodes:=s.nodes+1 } a9 ω r).1
       generalize srch g (nearM g) B d (refN (nearM g) (sgl cells v)) { s with nodes:=s.nodes+1 }=s1 at ac a5 a8 ⊢
       have aw:=Zj (B:=ZfQ (pn_impl_explorer_search m') o cells k s.nodes s.leaves s.best.Colors s.best.Edges s.perms v (B-s.nodes-1) false) (fun j=>(j,tabl cells.length fun w=>if w<j then 2*ix cells w+1 else 0)) (i:=0) (n:=cells.length) ω fun j j0 j1=>by
        obtain ⟨x0,x1⟩:=ak j j0 j1
        have hset:(tabl cells.length fun w=>if w<j then 2*ix cells w+1 else 0).set j.toNat (2*ix cells j+1)=tabl cells.length fun w=>if w<j+1 then 2*ix cells w+1 else 0:=by
         refine Zak j0 j1 (fun i i0 u hi=>?_) ?_
         ·by_cases c:i<j
          ·rw [if_pos c,if_pos ω]
          ·rw [if_neg c,if_neg ω]
         ·rw [if_pos ω]
        have hX:(tabl (cells.length:Int) fun w=>if w<j then 2*ix cells w+1 else 0).length=cells.length:=by rw [Zl];omega
        generalize (tabl (cells.length:Int) fun w=>if w<j then 2*ix cells w+1 else 0)=X at hset hX ⊢
        simp (disch:=omega) only [pz,ZfQ,hset]
       have b1:gMake 8 (0:Int) (cells.length:Int) (cells.length:Int)=some (tabl cells.length fun w=>if w<0 then 2*ix cells w+1 else 0):=by
        rw [Zau ω ω ω,Int.toNat_natCast]
        congr 1
        refine ZaH (by rw [List.length_replicate,Zl];omega) fun i i0 u=>?_
        rw [List.length_replicate] at u
        rw [Zcg i0 ω,ZH i0 ω,if_neg ω]
       have hS:(tabl cells.length fun w=>if w<(cells.length:Int) then 2*ix cells w+1 else 0).set v.toNat (2*ix cells v+1-1)=sgl cells v:=by
        unfold sgl
        refine Zak v0 v1 (fun i i0 u hi=>?_) ?_
        ·rw [if_neg hi,if_pos u]
        ·rw [if_pos rfl];omega
       have ag:ix (tabl cells.length fun w=>if w<(cells.length:Int) then 2*ix cells w+1 else 0) v=2*ix cells v+1:=by rw [ZH v0 v1,if_pos v1]
       have hX:(tabl (cells.length:Int) fun w=>if w<(cells.length:Int) then 2*ix cells w+1 else 0).length=cells.length:=by rw [Zl];omega
       obtain ⟨aa,ab⟩:=ak v v0 v1
       have av:=ZrB (c:=sgl cells v) hN (by rw [ah,ai])
       have ap:loop (ZfQ (pn_impl_explorer_search m') o cells k s.nodes s.leaves s.best.Colors s.best.Edges s.perms v (B-s.nodes-1) false) (0,tabl cells.length fun w=>if w<0 then 2*ix cells w+1 else 0)=some (.inl (k+1,B-s1.nodes,s1.full,s1.nodes,s1.leaves,s1.best.Colors,s1.best.Edges,s1.perms)):=by
        rw [aw]
        refine Zc ?_
        have ad:pn_impl_explorer_search m' (Zu.mk (Zad.mk (B-s.nodes-1) false) (Za.mk g.Colors g.Edges) (nearM g) (s.nodes+1) s.leaves (Za.mk s.best.Colors s.best.Edges) s.perms) (refN (nearM g) (sgl cells v))=some (ipS g (nearM g) B s1):=by
         rw [<-ac]
         unfold ipS
         rw [<-hf,show B-s.nodes-1=B-(s.nodes+1) by omega]
        generalize (tabl (cells.length:Int) fun w=>if w<(cells.length:Int) then 2*ix cells w+1 else 0)=X at hS ag hX ⊢
        unfold ZfQ
        dsimp only
        rw [f,l]
        simp (disch:=omega) only [pz,ag,hS,av,ad]
        rfl
       have aq:Zcv (pn_impl_explorer_search m') o cells V (k,B-s.nodes,false,s.nodes,s.leaves,s.best.Colors,s.best.Edges,s.perms)=some (.inl (k+1,B-s1.nodes,s1.full,s1.nodes,s1.leaves,s1.best.Colors,s1.best.Edges,s1.perms)):=by
        unfold Zcv ZkK Zp3
        dsimp only
        simp (disch:=omega) only [pz,hv,b1,ap]
       rw [Zv aq]
       exact ih (k+1) s1 ω ω a5 a8 o f l
   have:=b6 V.length 0 s ω ω hi r (ipS g (nearM g) B s) rfl rfl
   unfold q_impl_explorer_search
   rw [a4,Option.bind_some,beq_f ω]
   exact this
end
end Go.Proofs.YtepnljbkgjbbmaaGreatDoor
