import Derived.Test.YtahnjnfpjcfklaaGreatDoorPuJa
import Derived.Test.YtahnjnfpjcfklaaGreatDoorPuEv
import Derived.Test.YtahnjnfpjcfklaaGreatDoorCeFns
namespace Go.Proofs.YtahnjnfpjcfklaaGreatDoor
open Go Go.Vc
set_option linter.unusedSimpArgs false
set_option linter.unusedVariables false
def qd (p a:Int):Nat->Int
 | 0=>a
 | i+1=>qd p a i/p
def pwN (p:Int):Nat->Int
 | 0=>1
 | i+1=>pwN p i*p
def dig (p:Int) (k:Int) (a:Int):List Int:=tabl k fun j=>qd p a j.toNat%p
def nmN (p:Int) (xs:List Int):Nat->Int
 | 0=>0
 | m+1=>nmN p xs m*p+ix xs ((xs.length:Int)-1-(m:Int))
def nm (p:Int) (xs:List Int):Int:=nmN p xs xs.length
def axAt (p c:Int) (ws:List Int) (off:Int) (xs:List Int):List Int:=tabl xs.length fun i=>if off<=i/\i<off+(ws.length:Int) then (ix xs i+c*ix ws (i-off))%p else ix xs i
def cnvN (p:Int) (as bs xs:List Int):Nat->List Int
 | 0=>xs
 | i+1=>axAt p (ix as (i:Int)) bs (i:Int) (cnvN p as bs xs i)
def rstN (p:Int) (poly:List Int) (xs:List Int):Nat->List Int
 | 0=>xs
 | m+1=>axAt p (p-ix (rstN p poly xs m) ((xs.length:Int)-1-(m:Int))) poly ((xs.length:Int)-1-(m:Int)-((poly.length:Int)-1)) (rstN p poly xs m)
def In (p:Int) (xs:List Int):Prop:=∀ i,0<=i->i<(xs.length:Int)->0<=ix xs i/\ix xs i<p
theorem Zg2 {p a:Int} (j:0<=a) (hp:2<=p):∀ i:Nat,0<=qd p a i/\qd p a i<=a
 | 0=>⟨j,Int.le_refl _⟩
 | i+1=>by
  obtain ⟨h1,e⟩:=Zg2 j hp i;have f:0<=qd p a i/p:=Int.ediv_nonneg h1 ω;have h:qd p a i/p<=qd p a i:=Int.ediv_le_self _ h1;exact ⟨f,Int.le_trans h e⟩
theorem Zt2 {p a:Int} {i:Int} (h:0<=i):qd p a (i+1).toNat=qd p a i.toNat/p:=by
 rw [show (i+1).toNat=i.toNat+1 by omega];rfl
theorem ZaJ {p k a:Int} (h:0<=k):((dig p k a).length:Int)=k:=by unfold dig;rw [ZA];omega
theorem ZbH {p k a:Int} (hp:2<=p):In p (dig p k a):=fun i e h1=>by
 unfold dig at h1 ⊢;rw [ZA] at h1;rw [ZJ e ω];exact ⟨Int.emod_nonneg _ ω,Int.emod_lt_of_pos _ ω⟩
theorem Ziq {p a k:Int} (ha:0<=a) (u:a<=4611686018427387904) (hp:2<=p) (v:p<=64) (hk:0<=k) (w:k<=64):Zbe a p k=some (dig p k a):=by
 unfold Zbe;have a3:=ZG (B:=ZeK p) (fun i=>(qd p a i.toNat,k-i,tabl i fun j=>qd p a j.toNat%p)) (i:=0) (n:=k) hk fun i x h1=>by
  obtain ⟨f,y⟩:=Zg2 ha hp i.toNat;have h:=Int.tmod_eq_emod_of_nonneg (b:=p) f;have l:=Int.tdiv_eq_ediv_of_nonneg (b:=p) f;obtain ⟨o,r⟩:=Zg2 ha hp (i.toNat+1);have hl:(tabl i fun j=>qd p a j.toNat%p).length=i.toNat:=ZA;have e:k-(i+1)=k-i-1:=ω;have a6:0<=qd p a i.toNat/p:=o;have a7:qd p a i.toNat/p<=a:=r;simp (disch:=omega) only [pz,ZeK,h,l,gApp1,hl,Zt2,Zcy,e]
 have s:(a,k,([]:List Int))=(fun i:Int=>(qd p a i.toNat,k-i,tabl i fun j=>qd p a j.toNat%p)) 0:=by simp [qd,ZEd]
 rw [s,a3];refine Ze ?_;simp (disch:=omega) only [pz,ZeK,Int.sub_self];rfl
theorem Z2 {α:Type} {n:Int} {f g:Int->α} (h:∀ i,0<=i->i<n->f i=g i):tabl n f=tabl n g:=by
 unfold tabl;apply List.map_congr_left;intro j a;rw [List.mem_range] at a;exact h j ω ω
theorem Zav {α:Type} [Inhabited α] {n:Int} {f g:Int->α} {k:Int} (e:0<=k) (h1:k<n) (hg:∀ i,0<=i->i<n->i≠k->g i=f i) {y:α} (l:y=g k):(tabl n f).set k.toNat y=tabl n g:=by
 apply Zar
 ·rw [List.length_set,ZA,ZA]
 ·intro i a j;rw [List.length_set,ZA] at j;by_cases h:k=i
  ·subst h;rw [ZaR e (by rw [ZA];omega),ZJ e h1,l]
  ·rw [Zbu e a h,ZJ a ω,ZJ a ω,hg i a ω ω]
theorem Zch {α:Type} [Inhabited α] (xs:List α):tabl xs.length (fun i=>ix xs i)=xs:=by
 apply Zar
 ·rw [ZA];omega
 ·intro i a e;rw [ZA] at e;rw [ZJ a ω]
theorem Zn1 {α:Type} [Inhabited α] {n:Int} {z:α}:List.replicate n.toNat z=tabl n fun _=>z:=by
 apply Zar
 ·rw [ZA,List.length_replicate]
 ·intro i a e;rw [List.length_replicate] at e;rw [ZJ a ω,Za0 a ω]
theorem Zjl {p a k:Int} (ha:0<=a) (y:a<=4611686018427387904) (hp:2<=p) (a2:p<=64) (hk:0<=k) (a3:k<=64):ZaS a p k=some (dig p k a):=by
 unfold ZaS;rw [ZaF hk ω ω];show loop (Zdn p (List.replicate k.toNat 0)) (a,0,List.replicate k.toNat 0)=_;have a6:=ZG (B:=Zdn p (List.replicate k.toNat 0)) (fun i=>(qd p a i.toNat,i,tabl k fun j=>if j<i then qd p a j.toNat%p else 0)) (i:=0) (n:=k) hk fun i l h1=>by
  obtain ⟨f,g2⟩:=Zg2 ha hp i.toNat;have o:=Int.tmod_eq_emod_of_nonneg (b:=p) f;have r:=Int.tdiv_eq_ediv_of_nonneg (b:=p) f;obtain ⟨s,u⟩:=Zg2 ha hp (i.toNat+1);have hl:(tabl k fun j=>if j<i then qd p a j.toNat%p else 0).length=k.toNat:=ZA;have e:(List.replicate k.toNat (0:Int)).length=k.toNat:=List.length_replicate;have a9:0<=qd p a i.toNat/p:=s;have aa:qd p a i.toNat/p<=a:=u;have hset:(tabl k fun j=>if j<i then qd p a j.toNat%p else 0).set i.toNat (qd p a i.toNat%p)=tabl k fun j=>if j<i+1 then qd p a j.toNat%p else 0:=by
   apply Zav l h1
   ·intro j v h j2;by_cases hj:j<i
    ·rw [if_pos hj,if_pos ω]
    ·rw [if_neg hj,if_neg ω]
   ·rw [if_pos ω]
  simp (disch:=omega) only [pz,Zdn,o,r,hl,e,Zt2,hset]
 have w:(a,(0:Int),List.replicate k.toNat (0:Int))=(fun i:Int=>(qd p a i.toNat,i,tabl k fun j=>if j<i then qd p a j.toNat%p else 0)) 0:=by
  show _=(a,(0:Int),_);rw [Zn1];congr 2
 rw [w,a6];refine Ze ?_;have e:(List.replicate k.toNat (0:Int)).length=k.toNat:=List.length_replicate;have x:(tabl k fun j=>if j<k then qd p a j.toNat%p else 0)=dig p k a:=by
  unfold dig;exact Z2 fun j v h=>by rw [if_pos h]
 simp (disch:=omega) only [pz,Zdn,e,x]
theorem Znr {p:Int} (hp:2<=p):∀ m:Nat,1<=pwN p m
 | 0=>Int.le_refl _
 | m+1=>by
  have h:=Znr hp m;have:1*2<=pwN p m*p:=Int.mul_le_mul h hp ω ω;show 1<=pwN p m*p;omega
theorem ZpF {p:Int} (hp:2<=p) {m:Nat}:∀ d:Nat,pwN p m<=pwN p (m+d)
 | 0=>Int.le_refl _
 | d+1=>by
  have h:=ZpF (m:=m) hp d;have h1:=Znr hp (m+d);have:pwN p (m+d)*1<=pwN p (m+d)*p:=Int.mul_le_mul_of_nonneg_left ω ω;show _<=pwN p (m+d)*p;omega
theorem ZiQ {p:Int} {xs:List Int} (hp:2<=p) (a:In p xs):∀ m:Nat,m<=xs.length->0<=nmN p xs m/\nmN p xs m<pwN p m
 | 0,_=>⟨Int.le_refl _,by show (0:Int)<1;omega⟩
 | m+1,hm=>by
  obtain ⟨h1,f⟩:=ZiQ hp a m ω;obtain ⟨h,i⟩:=a ((xs.length:Int)-1-m) ω ω;have j:0<=nmN p xs m*p:=Int.mul_nonneg h1 ω;have e:(nmN p xs m+1)*p<=pwN p m*p:=Int.mul_le_mul_of_nonneg_right ω ω;rw [Int.add_mul,Int.one_mul] at e;refine ⟨?_,?_⟩
  ·show 0<=nmN p xs m*p+ix xs ((xs.length:Int)-1-(m:Int));omega
  ·show nmN p xs m*p+ix xs ((xs.length:Int)-1-(m:Int))<pwN p m*p;omega
theorem ZrP {p:Int} {xs:List Int} (hp:2<=p) (l:p<=64) (a:In p xs) (hl:xs.length<=64) (hw:pwN p xs.length<=64):Zbf xs p=some (nm p xs):=by
 unfold Zbf;have a2:=ZG (B:=Zer xs p) (fun m=>(nmN p xs m.toNat,(xs.length:Int)-1-m)) (i:=0) (n:=xs.length) ω fun m o h1=>by
  obtain ⟨f,r⟩:=ZiQ hp a m.toNat ω;obtain ⟨s,u⟩:=ZiQ hp a (m.toNat+1) ω;have h:=ZpF hp (m:=m.toNat+1) (xs.length-(m.toNat+1));rw [show m.toNat+1+(xs.length-(m.toNat+1))=xs.length by omega] at h;have em:nmN p xs (m.toNat+1)=nmN p xs m.toNat*p+ix xs ((xs.length:Int)-1-(m.toNat:Int)):=rfl;rw [show (m.toNat:Int)=m by omega] at em;have es:(m+1).toNat=m.toNat+1:=ω;have v:0<=nmN p xs m.toNat*p:=Int.mul_nonneg f ω;obtain ⟨w,x⟩:=a ((xs.length:Int)-1-m) ω ω;have e:(xs.length:Int)-1-(m+1)=(xs.length:Int)-1-m-1:=ω;simp (disch:=omega) only [pz,Zer,es,em,e]
 have j:((0:Int),IntKind.i64.wrap ((xs.length:Int)-1))=(fun m:Int=>(nmN p xs m.toNat,(xs.length:Int)-1-m)) 0:=by
  show _=((0:Int),_);rw [wr64 ω ω];simp
 rw [j,a2];refine Ze ?_;have k:(xs.length:Int)-1-(xs.length:Int)=-1:=ω;have e:(xs.length:Int).toNat=xs.length:=ω;simp (disch:=omega) only [pz,Zer,k,e];rfl
theorem ZrX (xs:List Int) (p:Int):ZkT xs p=Zbf xs p:=rfl
theorem Zbp {p c off:Int} {ws xs:List Int}:(axAt p c ws off xs).length=xs.length:=by unfold axAt;rw [ZA];omega
theorem ZjZ {p c off:Int} {ws xs:List Int} (hp:2<=p) (e:In p xs):In p (axAt p c ws off xs):=fun i a h1=>by
 rw [Zbp] at h1;unfold axAt;rw [ZJ a ω];split
 ·exact ⟨Int.emod_nonneg _ ω,Int.emod_lt_of_pos _ ω⟩
 ·exact e i a h1
theorem ZdR {ρ:Type} {B:Int×List Int->Option ((Int×List Int) ⊕ ρ)} {p c off:Int} {ws xs:List Int} (o:0<=off) (h1:off+(ws.length:Int)<=xs.length)
  (hs:∀ j u,0<=j->j<(ws.length:Int)->u.length=xs.length->ix u (off+j)=ix xs (off+j)->B (j,u)=some (.inl (j+1,u.set (off+j).toNat ((ix xs (off+j)+c*ix ws j)%p)))):
  loop B (0,xs)=loop B ((ws.length:Int),axAt p c ws off xs):=by
 have w:=ZG (B:=B) (fun j=>(j,tabl xs.length fun i=>if off<=i/\i<off+j then (ix xs i+c*ix ws (i-off))%p else ix xs i)) (i:=0) (n:=ws.length) ω fun j a e=>by
  show B (j,_)=_;rw [hs j _ a e (by rw [ZA];omega) (by rw [ZJ ω ω,if_neg ω])];congr 3;apply Zav ω ω
  ·intro i f k r;by_cases h:off<=i/\i<off+j
   ·rw [if_pos h,if_pos ω]
   ·rw [if_neg h,if_neg ω]
  ·rw [if_pos ω,show off+j-off=j by omega]
 have l:((0:Int),xs)=(fun j:Int=>(j,tabl xs.length fun i=>if off<=i/\i<off+j then (ix xs i+c*ix ws (i-off))%p else ix xs i)) 0:=by
  show _=((0:Int),_);congr 1;refine (Zch xs).symm.trans (Z2 fun i f k=>?_);rw [if_neg ω]
 rw [l,w];rfl
structure Fd (f:Zb):Prop where
 p2:2<=f.Prime
 p64:f.Prime<=64
 k1:1<=f.Degree
 k6:f.Degree<=6
 pl:(f.Poly.length:Int)=f.Degree+1
 mon:ix f.Poly f.Degree=1
 rng:In f.Prime f.Poly
 w64:pwN f.Prime f.Degree.toNat<=64
def sumA (f:Zb) (a b c:Int):Int:=nm f.Prime (axAt f.Prime c (dig f.Prime f.Degree b) 0 (dig f.Prime f.Degree a))
theorem Zfd {a b p:Int} (f:0<=a) (h1:a<=p) (e:0<=b) (h:b<=p) (hp:p<=64):0<=a*b/\a*b<=4096:=by
 refine ⟨Int.mul_nonneg f e,?_⟩;have:=Int.mul_le_mul (Int.le_trans h1 hp) (Int.le_trans h hp) e ω;omega
theorem ZuJ {f:Zb} (e:Fd f) (a b c:Int):Zbf (axAt f.Prime c (dig f.Prime f.Degree b) 0 (dig f.Prime f.Degree a)) f.Prime=some (sumA f a b c):=by
 have:=e.p2;have:=e.p64;have:=e.k1;have:=e.k6;have h:=ZaJ (p:=f.Prime) (k:=f.Degree) (a:=a) ω;refine ZrP ω ω (ZjZ ω (ZbH ω)) (by rw [Zbp];omega) ?_;rw [Zbp,show (dig f.Prime f.Degree a).length=f.Degree.toNat by omega];exact e.w64
theorem Zqv {f:Zb} (hf:Fd f) {a b c:Int} (ha:0<=a) (s:a<=4096) (i:0<=b) (u:b<=4096) (l:0<=c) (e:c<=f.Prime):Zc5 f a b c=some (sumA f a b c):=by
 have:=hf.p2;have:=hf.p64;have:=hf.k1;have:=hf.k6;have a5:=ZaJ (p:=f.Prime) (k:=f.Degree) (a:=a) ω;have a6:=ZaJ (p:=f.Prime) (k:=f.Degree) (a:=b) ω;unfold Zc5;rw [Ziq ha ω ω ω ω ω,Ziq i ω ω ω ω ω];show loop (Zkl f c (dig f.Prime f.Degree b)) (0,dig f.Prime f.Degree a)=_;rw [ZdR (p:=f.Prime) (c:=c) (off:=0) (ws:=dig f.Prime f.Degree b) ω ω fun j ys h v hy he=>by
  rw [Int.zero_add] at he ⊢;obtain ⟨w,x⟩:=ZbH (p:=f.Prime) (k:=f.Degree) (a:=a) ω j h ω;obtain ⟨o,y⟩:=ZbH (p:=f.Prime) (k:=f.Degree) (a:=b) ω j h ω;obtain ⟨g5,g6⟩:=Zfd l e o ω hf.p64;have r:=Int.tmod_eq_emod_of_nonneg (b:=f.Prime) (a:=ix (dig f.Prime f.Degree a) j+c*ix (dig f.Prime f.Degree b) j) ω;simp (disch:=omega) only [pz,Zkl,he,r]]
 refine Ze ?_;simp (disch:=omega) only [pz,Zkl,Zbp,ZuJ hf a b c]
theorem ZFj {x y p:Int} (a:0<=x) (h1:0<=y) (hp:2<=p) (e:y<p):(x+-1*y+p)%p=(x+(p-1)*y)%p:=by
 have:x+(p-1)*y=(x+-1*y+p)+p*(y-1):=by
  rw [Int.sub_mul,Int.mul_sub,Int.one_mul];omega
 rw [this,Int.add_mul_emod_self_left]
theorem ZtB {f:Zb} (hf:Fd f) {a b c s:Int} (ha:0<=a) (w:a<=4096) (i:0<=b) (x:b<=4096) (hs:(s=1/\c=1)\/(s=-1/\c=f.Prime-1)):Zfl f a b s=some (sumA f a b c):=by
 have:=hf.p2;have:=hf.p64;have:=hf.k1;have:=hf.k6;have a5:=ZaJ (p:=f.Prime) (k:=f.Degree) (a:=a) ω;have a6:=ZaJ (p:=f.Prime) (k:=f.Degree) (a:=b) ω;unfold Zfl;rw [Zjl ha ω ω ω ω ω,Zjl i ω ω ω ω ω];show loop (Zk1 f s (dig f.Prime f.Degree a) (dig f.Prime f.Degree b)) (0,dig f.Prime f.Degree a)=_;rw [ZdR (p:=f.Prime) (c:=c) (off:=0) (ws:=dig f.Prime f.Degree b) ω ω fun j ys e y hy he=>by
  rw [Int.zero_add] at he ⊢;obtain ⟨l,g2⟩:=ZbH (p:=f.Prime) (k:=f.Degree) (a:=a) ω j e ω;obtain ⟨o,r⟩:=ZbH (p:=f.Prime) (k:=f.Degree) (a:=b) ω j e ω;have hm:-64<=s*ix (dig f.Prime f.Degree b) j/\s*ix (dig f.Prime f.Degree b) j<=64/\0<=ix (dig f.Prime f.Degree a) j+s*ix (dig f.Prime f.Degree b) j+f.Prime:=by
   rcases hs with ⟨h,_⟩|⟨h,_⟩<;>subst h<;>omega
  have u:=Int.tmod_eq_emod_of_nonneg (b:=f.Prime) (a:=ix (dig f.Prime f.Degree a) j+s*ix (dig f.Prime f.Degree b) j+f.Prime) ω;have v:(ix (dig f.Prime f.Degree a) j+s*ix (dig f.Prime f.Degree b) j+f.Prime)%f.Prime=(ix (dig f.Prime f.Degree a) j+c*ix (dig f.Prime f.Degree b) j)%f.Prime:=by
   rcases hs with ⟨h,h'⟩|⟨h,h'⟩<;>subst h<;>subst h'
   ·rw [Int.add_emod_right]
   ·exact ZFj l o ω r
  simp (disch:=omega) only [pz,Zk1,he,u,v]]
 refine Ze ?_;simp (disch:=omega) only [pz,Zk1,Zbp,ZrX,ZuJ hf a b c]
theorem Zfu {xs:List Int} (h:(xs.length:Int)<=1048576):ZaM xs=some xs:=by
 unfold ZaM;rw [Za1 (by simp;omega) (by simp;omega)];rfl
theorem ZbB {p:Int} {poly xs:List Int}:∀ m,(rstN p poly xs m).length=xs.length
 | 0=>rfl
 | m+1=>by show (axAt _ _ _ _ _).length=_;rw [Zbp,ZbB m]
theorem Zfb {p:Int} {poly xs:List Int} (hp:2<=p) (a:In p xs):∀ m,In p (rstN p poly xs m)
 | 0=>a
 | m+1=>ZjZ hp (Zfb hp a m)
theorem Zrh {p:Int} {poly xs:List Int} {m:Int} (h:0<=m):rstN p poly xs (m+1).toNat=axAt p (p-ix (rstN p poly xs m.toNat) ((xs.length:Int)-1-m)) poly ((xs.length:Int)-1-m-((poly.length:Int)-1)) (rstN p poly xs m.toNat):=by
 rw [show (m+1).toNat=m.toNat+1 by omega];show axAt _ _ _ _ _=_;rw [show (m.toNat:Int)=m by omega]
theorem ZFn {poly l:List Int} (w:(l.length:Int)<=1048576) (u:1<=(poly.length:Int)) (h:(poly.length:Int)-1<=l.length):loop (ρ:=(Int×List Int) ⊕ List Int) (Zdx poly) l=some (.inr (l.take ((poly.length:Int)-1).toNat)):=by
 have r:=ZG (B:=Zdx poly) (fun j=>l.take ((l.length:Int)-j).toNat) (i:=0) (n:=(l.length:Int)-((poly.length:Int)-1)) ω fun j k h1=>by
  have o:(l.take ((l.length:Int)-j).toNat).length=((l.length:Int)-j).toNat:=by rw [List.length_take];omega
  have e:(List.take ((((l.length:Int)-j).toNat:Int)-1).toNat (l.take ((l.length:Int)-j).toNat)).drop (0:Int).toNat=l.take ((l.length:Int)-(j+1)).toNat:=by
   rw [show (0:Int).toNat=0 from rfl,List.drop_zero,List.take_take];congr 1;omega
  simp (disch:=omega) only [pz,Zdx,o,Zbk,e]
 have a:l=(fun j:Int=>l.take ((l.length:Int)-j).toNat) 0:=by simp
 conv=>lhs;rw [a]
 rw [r];refine Ze ?_;have f:(l.length:Int)-((l.length:Int)-((poly.length:Int)-1))=(poly.length:Int)-1:=ω;have o:(l.take ((poly.length:Int)-1).toNat).length=((poly.length:Int)-1).toNat:=by rw [List.length_take];omega
 simp (disch:=omega) only [pz,Zdx,f,o]
theorem Zz8 {p y:Int} {poly ys:List Int} (hp:2<=p) (f:p<=64) (hP:In p poly) (hy:In p ys) (hl:(ys.length:Int)<=4096) (h1:1<=(poly.length:Int)) (s:(poly.length:Int)-1<=y) (h:y<ys.length):
  ZbW poly p (y,ys)=some (.inl (y-1,axAt p (p-ix ys y) poly (y-((poly.length:Int)-1)) ys)):=by
 have hg:0<=y:=ω;obtain ⟨u,v⟩:=hy y ω h;simp (disch:=omega) only [pz,ZbW];rw [ZdR (p:=p) (c:=p-ix ys y) (off:=y-((poly.length:Int)-1)) (ws:=poly) ω ω fun j zs i k hz he=>by
  obtain ⟨l,o⟩:=hP j i k;obtain ⟨w,x⟩:=hy (y-((poly.length:Int)-1)+j) ω ω;obtain ⟨g7,g8⟩:=Zfd (a:=p-ix ys y) (b:=ix poly j) ω ω l (Int.le_of_lt o) f;have r:=Int.tmod_eq_emod_of_nonneg (b:=p) (a:=ix ys (y-((poly.length:Int)-1)+j)+(p-ix ys y)*ix poly j) ω;have e:y-(poly.length:Int)+1+j=y-((poly.length:Int)-1)+j:=ω;simp (disch:=omega) only [pz,ZgN,e,he,r]]
 refine Ze ?_;simp (disch:=omega) only [pz,ZgN]
theorem Zxk {p y:Int} {poly ys:List Int} (hp:2<=p) (e:p<=64) (hP:In p poly) (hy:In p ys) (hl:(ys.length:Int)<=4096) (h1:1<=(poly.length:Int)) (s:(poly.length:Int)-1<=y) (f:y<ys.length):
  Zb1 poly p (y,ys)=some (.inl (y-1,axAt p (p-ix ys y) poly (y-((poly.length:Int)-1)) ys)):=by
 have hg:0<=y:=ω;obtain ⟨u,v⟩:=hy y ω f;simp (disch:=omega) only [pz,Zb1];rw [ZdR (p:=p) (c:=p-ix ys y) (off:=y-((poly.length:Int)-1)) (ws:=poly) ω ω fun j zs h i hz he=>by
  obtain ⟨k,l⟩:=hP j h i;obtain ⟨w,x⟩:=hy (y-((poly.length:Int)-1)+j) ω ω;obtain ⟨g7,g8⟩:=Zfd (a:=ix ys y) (b:=ix poly j) ω ω k (Int.le_of_lt l) e;generalize hX:ix ys (y-((poly.length:Int)-1)+j)=X at *;generalize hM:ix ys y*ix poly j=M at *;have b1:=Int.lt_tmod_of_pos (X-M) (by omega:(0:Int)<p);have b2:=Int.tmod_lt_of_pos (X-M) (by omega:(0:Int)<p);have o:=Int.tmod_eq_emod_of_nonneg (b:=p) (a:=(X-M).tmod p+p) ω;have r:((X-M).tmod p+p)%p=(X+(p-ix ys y)*ix poly j)%p:=by
   rw [Int.add_emod_right,Int.sub_mul,hM];have h9:=Int.mul_tdiv_add_tmod (X-M) p;have:(X+(p*ix poly j-M))=(X-M).tmod p+p*((X-M).tdiv p+ix poly j):=by
    rw [Int.mul_add];omega
   rw [this,Int.add_mul_emod_self_left]
  simp (disch:=omega) only [pz,ZfU,he,hM,o,r]]
 refine Ze ?_;simp (disch:=omega) only [pz,ZfU]
theorem ZDG {p:Int} {poly xs:List Int} (hp:2<=p) (a:p<=64) (u:In p poly) (e:In p xs) (w:(xs.length:Int)<=4096) (h1:1<=(poly.length:Int)) (k:(poly.length:Int)-1<=xs.length):
  Zdj xs poly p=some ((rstN p poly xs ((xs.length:Int)-((poly.length:Int)-1)).toNat).take ((poly.length:Int)-1).toNat):=by
 unfold Zdj;rw [Zfu ω];show loop (ZbW poly p) (IntKind.i64.wrap ((xs.length:Int)-1),xs)=_;rw [wr64 ω ω];have o:=ZG (B:=ZbW poly p) (fun m=>((xs.length:Int)-1-m,rstN p poly xs m.toNat)) (i:=0) (n:=(xs.length:Int)-((poly.length:Int)-1)) ω fun m f l=>by
  have r:=ZbB (p:=p) (poly:=poly) (xs:=xs) m.toNat;show ZbW poly p ((xs.length:Int)-1-m,_)=_;rw [Zz8 hp a u (Zfb hp e _) ω h1 ω ω,Zrh f,show (xs.length:Int)-1-(m+1)=(xs.length:Int)-1-m-1 by omega]
 have h:((xs.length:Int)-1,xs)=(fun m:Int=>((xs.length:Int)-1-m,rstN p poly xs m.toNat)) 0:=by
  show _=((xs.length:Int)-1-0,xs);rw [Int.sub_zero]
 rw [h,o];refine Ze ?_;have r:=ZbB (p:=p) (poly:=poly) (xs:=xs) ((xs.length:Int)-((poly.length:Int)-1)).toNat;have j:(xs.length:Int)-1-((xs.length:Int)-((poly.length:Int)-1))=(poly.length:Int)-2:=ω;simp (disch:=omega) only [pz,ZbW,j];rw [ZFn ω h1 ω]
theorem ZFw {p:Int} {poly xs:List Int} (hp:2<=p) (a:p<=64) (u:In p poly) (e:In p xs) (w:(xs.length:Int)<=4096) (h1:1<=(poly.length:Int)) (k:(poly.length:Int)-1<=xs.length):
  Zc2 xs poly p=some ((rstN p poly xs ((xs.length:Int)-((poly.length:Int)-1)).toNat).take ((poly.length:Int)-1).toNat):=by
 unfold Zc2;rw [Zju ω];show loop (Zb1 poly p) (IntKind.i64.wrap ((xs.length:Int)-1),xs)=_;rw [wr64 ω ω];have r:=ZG (B:=Zb1 poly p) (fun m=>((xs.length:Int)-1-m,rstN p poly xs m.toNat)) (i:=0) (n:=(xs.length:Int)-((poly.length:Int)-1)) ω fun m f l=>by
  have o:=ZbB (p:=p) (poly:=poly) (xs:=xs) m.toNat;show Zb1 poly p ((xs.length:Int)-1-m,_)=_;rw [Zxk hp a u (Zfb hp e _) ω h1 ω ω,Zrh f,show (xs.length:Int)-1-(m+1)=(xs.length:Int)-1-m-1 by omega]
 have h:((xs.length:Int)-1,xs)=(fun m:Int=>((xs.length:Int)-1-m,rstN p poly xs m.toNat)) 0:=by
  show _=((xs.length:Int)-1-0,xs);rw [Int.sub_zero]
 rw [h,r];refine Ze ?_;have o:=ZbB (p:=p) (poly:=poly) (xs:=xs) ((xs.length:Int)-((poly.length:Int)-1)).toNat;have j:(xs.length:Int)-1-((xs.length:Int)-((poly.length:Int)-1))=(poly.length:Int)-2:=ω;simp (disch:=omega) only [pz,Zb1,j,o,ite_f,Zbk];rfl
def mulA (f:Zb) (a b:Int):Int:=
 nm f.Prime ((rstN f.Prime f.Poly (cnvN f.Prime (dig f.Prime f.Degree a) (dig f.Prime f.Degree b) (List.replicate (2*f.Degree-1).toNat 0) f.Degree.toNat) (f.Degree-1).toNat).take f.Degree.toNat)
theorem Zbo {p:Int} {as bs xs:List Int}:∀ m,(cnvN p as bs xs m).length=xs.length
 | 0=>rfl
 | m+1=>by show (axAt _ _ _ _ _).length=_;rw [Zbp,Zbo m]
theorem ZbU {p:Int} {as bs xs:List Int} (hp:2<=p) (a:In p xs):∀ m,In p (cnvN p as bs xs m)
 | 0=>a
 | m+1=>ZjZ hp (ZbU hp a m)
theorem ZuT {p:Int} {as bs xs:List Int} {m:Int} (h:0<=m):cnvN p as bs xs (m+1).toNat=axAt p (ix as m) bs m (cnvN p as bs xs m.toNat):=by
 rw [show (m+1).toNat=m.toNat+1 by omega];show axAt _ _ _ _ _=_;rw [show (m.toNat:Int)=m by omega]
theorem Zf0 {p n:Int} (hp:2<=p):In p (List.replicate n.toNat 0):=fun i a h1=>by
 rw [List.length_replicate] at h1;rw [Za0 a h1];omega
theorem ZvA {p:Int} {xs:List Int} {n:Int} (h:In p xs):In p (xs.take n.toNat):=fun i a h1=>by
 rw [List.length_take] at h1;rw [ZdS a ω];exact h i a ω
theorem ZFh {f:Zb} (hf:Fd f) {as bs ys:List Int} {i:Int} (ha:In f.Prime as) (e:In f.Prime bs) (hy:In f.Prime ys) (hl:(ys.length:Int)<=4096) (h:0<=i) (h1:i<as.length) (v:i+(bs.length:Int)<=ys.length):
  ZeD f as bs (i,ys)=some (.inl (i+1,axAt f.Prime (ix as i) bs i ys)):=by
 have:=hf.p2;have:=hf.p64;obtain ⟨w,k⟩:=ha i h h1;simp (disch:=omega) only [pz,ZeD];rw [ZdR (p:=f.Prime) (c:=ix as i) (off:=i) (ws:=bs) ω ω fun j zs l o hz he=>by
  obtain ⟨r,s⟩:=e j l o;obtain ⟨x,y⟩:=hy (i+j) ω ω;obtain ⟨g7,g8⟩:=Zfd (a:=ix as i) (b:=ix bs j) ω (Int.le_of_lt k) r (Int.le_of_lt s) hf.p64;have u:=Int.tmod_eq_emod_of_nonneg (b:=f.Prime) (a:=ix ys (i+j)+ix as i*ix bs j) ω;simp (disch:=omega) only [pz,Zpn,he,u]]
 refine Ze ?_;simp (disch:=omega) only [pz,Zpn]
theorem ZwT {f:Zb} (hf:Fd f) {as bs ys:List Int} {i:Int} (ha:In f.Prime as) (e:In f.Prime bs) (hy:In f.Prime ys) (hl:(ys.length:Int)<=4096) (h:0<=i) (h1:i<as.length) (v:i+(bs.length:Int)<=ys.length):
  Zeb f as bs (i,ys)=some (.inl (i+1,axAt f.Prime (ix as i) bs i ys)):=by
 have:=hf.p2;have:=hf.p64;obtain ⟨w,k⟩:=ha i h h1;simp (disch:=omega) only [pz,Zeb];rw [ZdR (p:=f.Prime) (c:=ix as i) (off:=i) (ws:=bs) ω ω fun j zs l o hz he=>by
  obtain ⟨r,s⟩:=e j l o;obtain ⟨x,y⟩:=hy (i+j) ω ω;obtain ⟨g7,g8⟩:=Zfd (a:=ix as i) (b:=ix bs j) ω (Int.le_of_lt k) r (Int.le_of_lt s) hf.p64;have u:=Int.tmod_eq_emod_of_nonneg (b:=f.Prime) (a:=ix ys (i+j)+ix as i*ix bs j) ω;simp (disch:=omega) only [pz,ZnL,he,u]]
 refine Ze ?_;simp (disch:=omega) only [pz,ZnL]
theorem ZtI {f:Zb} (e:Fd f) (a b:Int):Zbf ((rstN f.Prime f.Poly (cnvN f.Prime (dig f.Prime f.Degree a) (dig f.Prime f.Degree b) (List.replicate (2*f.Degree-1).toNat 0) f.Degree.toNat) (f.Degree-1).toNat).take f.Degree.toNat) f.Prime=some (mulA f a b):=by
 have:=e.p2;have:=e.p64;have:=e.k1;have:=e.k6;have h:((rstN f.Prime f.Poly (cnvN f.Prime (dig f.Prime f.Degree a) (dig f.Prime f.Degree b) (List.replicate (2*f.Degree-1).toNat 0) f.Degree.toNat) (f.Degree-1).toNat).take f.Degree.toNat).length=f.Degree.toNat:=by
  rw [List.length_take,ZbB,Zbo,List.length_replicate];omega
 refine ZrP ω ω (ZvA (Zfb ω (ZbU ω (Zf0 ω) _) _)) ω ?_;rw [h];exact e.w64
theorem Zfz {f:Zb} (r:Fd f) {a b:Int} (ha:0<=a) (l:a<=4096) (h:0<=b) (o:b<=4096):Zce f a b=some (mulA f a b):=by
 have:=r.p2;have:=r.p64;have:=r.k1;have:=r.k6;have a5:=r.pl;have a4:=ZaJ (p:=f.Prime) (k:=f.Degree) (a:=a) ω;have a7:=ZaJ (p:=f.Prime) (k:=f.Degree) (a:=b) ω;unfold Zce;rw [Ziq ha ω ω ω ω ω,Ziq h ω ω ω ω ω];simp (disch:=omega) only [pz,ZaF];have u:=Zf0 (p:=f.Prime) (n:=2*f.Degree-1) ω;have a6:(List.replicate (2*f.Degree-1).toNat (0:Int)).length=(2*f.Degree-1).toNat:=List.length_replicate;have x:=ZG (B:=ZeD f (dig f.Prime f.Degree a) (dig f.Prime f.Degree b)) (fun i=>(i,cnvN f.Prime (dig f.Prime f.Degree a) (dig f.Prime f.Degree b) (List.replicate (2*f.Degree-1).toNat 0) i.toNat)) (i:=0) (n:=f.Degree) ω fun i e h1=>by
  have hL:=Zbo (p:=f.Prime) (as:=dig f.Prime f.Degree a) (bs:=dig f.Prime f.Degree b) (xs:=List.replicate (2*f.Degree-1).toNat 0) i.toNat;show ZeD _ _ _ (i,_)=_;rw [ZFh r (ZbH ω) (ZbH ω) (ZbU ω u _) ω e ω ω,ZuT e]
 have j:((0:Int),List.replicate (2*f.Degree-1).toNat (0:Int))=(fun i:Int=>(i,cnvN f.Prime (dig f.Prime f.Degree a) (dig f.Prime f.Degree b) (List.replicate (2*f.Degree-1).toNat 0) i.toNat)) 0:=rfl;rw [j,x];refine Ze ?_;have hL:=Zbo (p:=f.Prime) (as:=dig f.Prime f.Degree a) (bs:=dig f.Prime f.Degree b) (xs:=List.replicate (2*f.Degree-1).toNat 0) f.Degree.toNat;have w:=ZDG (p:=f.Prime) (poly:=f.Poly) (xs:=cnvN f.Prime (dig f.Prime f.Degree a) (dig f.Prime f.Degree b) (List.replicate (2*f.Degree-1).toNat 0) f.Degree.toNat) ω ω r.rng (ZbU ω u _) ω ω ω;rw [show ((cnvN f.Prime (dig f.Prime f.Degree a) (dig f.Prime f.Degree b) (List.replicate (2*f.Degree-1).toNat 0) f.Degree.toNat).length:Int)-((f.Poly.length:Int)-1)=f.Degree-1 by omega,show (f.Poly.length:Int)-1=f.Degree by omega] at w;simp (disch:=omega) only [pz,ZeD,w,ZtI r a b]
theorem Zqy {p c off z:Int} {ws xs:List Int} (h:off+(ws.length:Int)<=xs.length):axAt p c ws off (xs++[z])=axAt p c ws off xs++[z]:=by
 apply Zar
 ·rw [Zbp,List.length_append,List.length_append,Zbp]
 ·intro i a e;rw [Zbp,List.length_append] at e;have f:i<(xs.length:Int)+1:=by simpa using e
  unfold axAt;rw [ZJ a (by rw [List.length_append];exact e)];by_cases hi:i<(xs.length:Int)
  ·rw [ZeR a hi,ZeR a (by rw [ZA];omega),ZJ a ω]
  ·rw [if_neg ω,Zd8 ω,Zd8 (by rw [ZA];omega),ZA];congr 2
theorem ZrT {p z:Int} {as bs xs:List Int} {k:Nat} (h:(k:Int)-1+(bs.length:Int)<=xs.length):∀ m,m<=k->cnvN p as bs (xs++[z]) m=cnvN p as bs xs m++[z]
 | 0,_=>rfl
 | m+1,hm=>by
  show axAt _ _ _ _ (cnvN p as bs (xs++[z]) m)=axAt _ _ _ _ _++[z];rw [ZrT h m ω,Zqy (by rw [Zbo];omega)]
theorem Zv5 {p off:Int} {ws xs:List Int} (a:In p xs):axAt p p ws off xs=xs:=by
 refine Eq.trans (Z2 fun i e f=>?_) (Zch xs);obtain ⟨h1,h⟩:=a i e f;split
 ·rw [Int.add_mul_emod_self_left,Int.emod_eq_of_lt h1 h]
 ·rfl
theorem Ztd {p:Int} {poly xs:List Int} (hp:2<=p) (e:In p xs) (a:In p (xs++[0])) (h1:1<=(poly.length:Int)):∀ m:Nat,(m:Int)+((poly.length:Int)-1)<=xs.length->rstN p poly (xs++[0]) (m+1)=rstN p poly xs m++[0]
 | 0,h=>by
  show axAt p (p-ix (xs++[0]) _) _ _ (xs++[0])=xs++[0];rw [Zd8 (by rw [List.length_append];simp),List.length_append];rw [show (((xs.length+[(0:Int)].length:Nat):Int)-1-((0:Nat):Int)-(xs.length:Int))=0 by simp,ZgF,Int.sub_zero,Zv5 a]
 | m+1,h=>by
  have j:=ZbB (p:=p) (poly:=poly) (xs:=xs) m;show axAt p (p-ix (rstN p poly (xs++[0]) (m+1)) _) poly _ (rstN p poly (xs++[0]) (m+1))=axAt _ _ _ _ _++[0];rw [Ztd hp e a h1 m ω,List.length_append];rw [show (((xs.length+[(0:Int)].length:Nat):Int)-1-((m+1:Nat):Int))=(xs.length:Int)-1-(m:Int) by simp;omega];rw [ZeR ω ω,Zqy ω]
theorem ZHe {f:Zb} (u:Fd f) {a b:Int} (ha:0<=a) (r:a<=4096) (j:0<=b) (s:b<=4096):ZkY f a b=some (mulA f a b):=by
 have:=u.p2;have:=u.p64;have:=u.k1;have:=u.k6;have a9:=u.pl;have a7:=ZaJ (p:=f.Prime) (k:=f.Degree) (a:=a) ω;have ab:=ZaJ (p:=f.Prime) (k:=f.Degree) (a:=b) ω;unfold ZkY;rw [Zjl ha ω ω ω ω ω,Zjl j ω ω ω ω ω];simp (disch:=omega) only [pz,ZaF];have a3:=Zf0 (p:=f.Prime) (n:=2*f.Degree-1) ω;have e:=Zf0 (p:=f.Prime) (n:=2*f.Degree) ω;have aa:(List.replicate (2*f.Degree).toNat (0:Int)).length=(2*f.Degree).toNat:=List.length_replicate;have l:(List.replicate (2*f.Degree-1).toNat (0:Int)).length=(2*f.Degree-1).toNat:=List.length_replicate;have w:List.replicate (2*f.Degree).toNat (0:Int)=List.replicate (2*f.Degree-1).toNat 0++[0]:=by
  rw [show (2*f.Degree).toNat=(2*f.Degree-1).toNat+1 by omega,List.replicate_succ']
 have a4:=ZG (B:=Zeb f (dig f.Prime f.Degree a) (dig f.Prime f.Degree b)) (fun i=>(i,cnvN f.Prime (dig f.Prime f.Degree a) (dig f.Prime f.Degree b) (List.replicate (2*f.Degree).toNat 0) i.toNat)) (i:=0) (n:=f.Degree) ω fun i h h1=>by
  have hL:=Zbo (p:=f.Prime) (as:=dig f.Prime f.Degree a) (bs:=dig f.Prime f.Degree b) (xs:=List.replicate (2*f.Degree).toNat 0) i.toNat;show Zeb _ _ _ (i,_)=_;rw [ZwT u (ZbH ω) (ZbH ω) (ZbU ω e _) ω h ω ω,ZuT h]
 have o:((0:Int),List.replicate (2*f.Degree).toNat (0:Int))=(fun i:Int=>(i,cnvN f.Prime (dig f.Prime f.Degree a) (dig f.Prime f.Degree b) (List.replicate (2*f.Degree).toNat 0) i.toNat)) 0:=rfl;rw [o,a4];refine Ze ?_;have hL:=Zbo (p:=f.Prime) (as:=dig f.Prime f.Degree a) (bs:=dig f.Prime f.Degree b) (xs:=List.replicate (2*f.Degree).toNat 0) f.Degree.toNat;have x:=ZFw (p:=f.Prime) (poly:=f.Poly) (xs:=cnvN f.Prime (dig f.Prime f.Degree a) (dig f.Prime f.Degree b) (List.replicate (2*f.Degree).toNat 0) f.Degree.toNat) ω ω u.rng (ZbU ω e _) ω ω ω;rw [show ((cnvN f.Prime (dig f.Prime f.Degree a) (dig f.Prime f.Degree b) (List.replicate (2*f.Degree).toNat 0) f.Degree.toNat).length:Int)-((f.Poly.length:Int)-1)=f.Degree by omega,show (f.Poly.length:Int)-1=f.Degree by omega] at x;have hA:=ZrT (p:=f.Prime) (z:=0) (as:=dig f.Prime f.Degree a) (bs:=dig f.Prime f.Degree b) (xs:=List.replicate (2*f.Degree-1).toNat 0) (k:=f.Degree.toNat) ω f.Degree.toNat (Nat.le_refl _);have a8:=Zbo (p:=f.Prime) (as:=dig f.Prime f.Degree a) (bs:=dig f.Prime f.Degree b) (xs:=List.replicate (2*f.Degree-1).toNat 0) f.Degree.toNat;have hB:=Ztd (p:=f.Prime) (poly:=f.Poly) ω (ZbU (p:=f.Prime) (as:=dig f.Prime f.Degree a) (bs:=dig f.Prime f.Degree b) ω a3 f.Degree.toNat) (by rw [<-hA,<-w];exact ZbU ω e _) ω (f.Degree-1).toNat ω;rw [<-w] at hA;rw [show (f.Degree-1).toNat+1=f.Degree.toNat by omega] at hB;rw [hA] at x ⊢;rw [hB,List.take_append_of_le_length (by rw [ZbB];omega)] at x;simp (disch:=omega) only [pz,Zeb,x,ZrX,ZtI u a b]
noncomputable def gx (xs:List Int):Nat->Int:=List.rec (fun _=>0) (fun a _ e n=>Nat.rec a (fun m _=>e m) n) xs
theorem gx_ok:∀ (xs:List Int) (n:Nat),gx xs n=ix xs (n:Int)
 | [],n=>by simp [gx,ix]
 | a::xs,0=>rfl
 | a::xs,n+1=>by
  show gx xs n=_;rw [gx_ok xs n,Zax ω];congr 1;omega
theorem Zmo {α:Type} {n:Nat} {f:Int->α}:tabl ((n+1:Nat):Int) f=f 0::tabl (n:Int) fun i=>f (i+1):=by
 unfold tabl;rw [show (((n+1:Nat):Int)).toNat=n+1 by omega,List.range_succ_eq_map,List.map_cons,List.map_map];congr 1
noncomputable def axR (p c:Int) (ws:List Int):List Int->List Int:=List.rec (fun xs=>xs) (fun w _ a xs=>List.rec [] (fun x xs _=>Int.emod (Int.add x (Int.mul c w)) p::a xs) xs) ws
noncomputable def axE (p c:Int) (ws:List Int) (off:Nat):List Int->List Int:=Nat.rec (axR p c ws) (fun _ a xs=>List.rec [] (fun x xs _=>x::a xs) xs) off
theorem Zlc {p c:Int}:∀ (ws xs:List Int),ws.length<=xs.length->axR p c ws xs=axAt p c ws 0 xs
 | [],xs,_=>by
  show xs=_;refine (Zch xs).symm.trans (Z2 fun i a e=>?_);rw [if_neg (by rw [show (([]:List Int).length:Int)=0 from rfl];omega)]
 | w::ws,[],h=>by simp at h
 | w::ws,x::xs,h=>by
  show ((x+c*w)%p)::axR p c ws xs=_;rw [Zlc ws xs (by simpa using h)];unfold axAt;rw [show (((x::xs).length:Nat):Int)=((xs.length+1:Nat):Int) from rfl,Zmo];congr 1
  ·rw [if_pos (by rw [show (((w::ws).length:Nat):Int)=(ws.length:Int)+1 by simp];omega)];rfl
  ·refine Z2 fun i a e=>?_;rw [show (((w::ws).length:Nat):Int)=(ws.length:Int)+1 by simp];by_cases hi:i<(ws.length:Int)
   ·rw [if_pos ω,if_pos ω,Zax ω,Zax ω,show i+1-1=i by omega,show i+1-0-1=i-0 by omega]
   ·rw [if_neg ω,if_neg ω,Zax ω,show i+1-1=i by omega]
theorem Zm6 {p c:Int} {ws:List Int}:∀ (off:Nat) (xs:List Int),off+ws.length<=xs.length->axE p c ws off xs=axAt p c ws (off:Int) xs
 | 0,xs,h=>Zlc ws xs ω
 | off+1,[],h=>by simp at h
 | off+1,x::xs,h=>by
  show x::axE p c ws off xs=_;rw [Zm6 off xs (by simp at h;omega)];unfold axAt;rw [show (((x::xs).length:Nat):Int)=((xs.length+1:Nat):Int) from rfl,Zmo];congr 1;refine Z2 fun i a e=>?_;by_cases hi:(off:Int)<=i/\i<(off:Int)+(ws.length:Int)
  ·rw [if_pos hi,if_pos ω,Zax ω,show i+1-1=i by omega,show i+1-((off+1:Nat):Int)=i-(off:Int) by omega]
  ·rw [if_neg hi,if_neg ω,Zax ω,show i+1-1=i by omega]
noncomputable def digE (p:Int) (k:Nat):Int->List Int:=Nat.rec (fun _=>[]) (fun _ h a=>Frc.frc (Int.ediv a p) fun e=>Int.emod a p::h e) k
theorem ZqB (p a:Int):∀ i:Nat,qd p a (i+1)=qd p (a/p) i
 | 0=>rfl
 | i+1=>by show qd p a (i+1)/p=_;rw [ZqB p a i];rfl
theorem Zfp {p:Int}:∀ (k:Nat) (a:Int),digE p k a=dig p (k:Int) a
 | 0,a=>rfl
 | k+1,a=>by
  show Frc.frc (Int.ediv a p) _=_;rw [Frc.ok];show (a%p)::digE p k (a/p)=_;rw [Zfp k (a/p)];unfold dig;rw [Zmo];congr 1;refine Z2 fun i e f=>?_;rw [show (i+1).toNat=i.toNat+1 by omega,ZqB]
noncomputable def nmE (p:Int) (xs:List Int):Int:=List.rec 0 (fun d _ r=>Int.add (Int.mul r p) d) xs
theorem Zq9 {p d:Int} {a:List Int}:∀ m:Nat,m<=a.length->nmN p (d::a) m=nmN p a m
 | 0,_=>rfl
 | m+1,h=>by
  show nmN p (d::a) m*p+ix (d::a) _=nmN p a m*p+ix a _;rw [Zq9 m ω,Zax (by simp;omega)];congr 2;simp;omega
theorem ZlK {p:Int}:∀ xs:List Int,nmE p xs=nm p xs
 | []=>rfl
 | d::ds=>by
  show nmE p ds*p+d=nmN p (d::ds) (ds.length+1);show nmE p ds*p+d=nmN p (d::ds) ds.length*p+ix (d::ds) _;rw [Zq9 _ (Nat.le_refl _),ZlK ds,show (((d::ds).length:Nat):Int)-1-(ds.length:Int)=0 by simp,ZgF];rfl
noncomputable def sumE (p:Int) (k:Nat) (a b c:Int):Int:=Frc.frc (digE p k a) fun as=>Frc.frc (digE p k b) fun bs=>Frc.frc (axR p c bs as) fun xs=>nmE p xs
noncomputable def cnvE (p:Int) (as bs xs:List Int) (m:Nat):List Int:=Nat.rec xs (fun i r=>axE p (gx as i) bs i r) m
noncomputable def rstE (p:Int) (poly:List Int) (l k:Nat) (xs:List Int) (m:Nat):List Int:=Nat.rec xs (fun m r=>Frc.frc r fun a=>Frc.frc (Int.sub p (gx a (Nat.sub (Nat.sub l 1) m))) fun c=>axE p c poly (Nat.sub (Nat.sub (Nat.sub l 1) m) k) a) m
noncomputable def tkE (n:Nat):List Int->List Int:=Nat.rec (fun _=>[]) (fun _ a xs=>List.rec [] (fun x xs _=>x::a xs) xs) n
theorem Zux:∀ (n:Nat) (xs:List Int),tkE n xs=xs.take n
 | 0,xs=>rfl
 | n+1,[]=>rfl
 | n+1,x::xs=>by show x::tkE n xs=_;rw [Zux n xs];rfl
noncomputable def rpE (n:Nat):List Int:=Nat.rec [] (fun _ r=>0::r) n
theorem Zu6:∀ n:Nat,rpE n=List.replicate n 0
 | 0=>rfl
 | n+1=>by show 0::rpE n=_;rw [Zu6 n];rfl
noncomputable def mulE (p:Int) (k:Nat) (poly:List Int) (a b:Int):Int:=
 Frc.frc (digE p k a) fun as=>Frc.frc (digE p k b) fun bs=>
 Frc.frc (cnvE p as bs (rpE (Nat.sub (Nat.mul 2 k) 1)) k) fun xs=>Frc.frc (rstE p poly (Nat.sub (Nat.mul 2 k) 1) k xs (Nat.sub k 1)) fun e=>nmE p (tkE k e)
theorem Zq2 {p:Int} {as bs xs:List Int}:∀ m:Nat,(m:Int)-1+(bs.length:Int)<=xs.length->cnvE p as bs xs m=cnvN p as bs xs m
 | 0,_=>rfl
 | m+1,h=>by
  show axE p (gx as m) bs m (cnvE p as bs xs m)=axAt _ _ _ _ _;rw [Zq2 m ω,Zm6 m _ (by rw [Zbo];omega),gx_ok]
theorem Zth {p:Int} {poly xs:List Int} {l k:Nat} (j:xs.length=l) (o:poly.length=k+1):∀ m:Nat,m+k<=l->rstE p poly l k xs m=rstN p poly xs m
 | 0,_=>rfl
 | m+1,h=>by
  show Frc.frc (rstE p poly l k xs m) _=axAt _ _ _ _ _;rw [Frc.ok,Frc.ok,Zth j o m ω,gx_ok];rw [Zm6 _ _ (by rw [ZbB,j,o];show l-1-m-k+(k+1)<=l;omega)];rw [j,o];have a:((Nat.sub (Nat.sub l 1) m:Nat):Int)=(l:Int)-1-(m:Int):=by
   show ((l-1-m:Nat):Int)=_;omega
  have e:((Nat.sub (Nat.sub (Nat.sub l 1) m) k:Nat):Int)=(l:Int)-1-(m:Int)-(((k+1:Nat):Int)-1):=by
   show ((l-1-m-k:Nat):Int)=_;omega
  rw [a,e];rfl
theorem Zy4 {f:Zb} (j:Fd f) {k:Nat} (h:f.Degree=(k:Int)) (a b c:Int):sumE f.Prime k a b c=sumA f a b c:=by
 unfold sumE sumA;rw [Frc.ok,Frc.ok,Frc.ok,Zfp,Zfp,ZlK,h];rw [Zlc _ _ (by
  have h1:=ZaJ (p:=f.Prime) (k:=(k:Int)) (a:=a) ω;have e:=ZaJ (p:=f.Prime) (k:=(k:Int)) (a:=b) ω;omega)]
theorem ZDz {f:Zb} (j:Fd f) {k:Nat} (l:f.Degree=(k:Int)) (a b:Int):mulE f.Prime k f.Poly a b=mulA f a b:=by
 have:=j.k1;have:=j.k6;have o:=j.pl;have h1:=ZaJ (p:=f.Prime) (k:=(k:Int)) (a:=a) ω;have i:=ZaJ (p:=f.Prime) (k:=(k:Int)) (a:=b) ω;unfold mulE mulA;rw [Frc.ok,Frc.ok,Frc.ok,Frc.ok,Zfp,Zfp,ZlK,l,Zux,Zu6];have e:Nat.sub (Nat.mul 2 k) 1=(2*(k:Int)-1).toNat:=by show 2*k-1=_;omega
 have h:Nat.sub k 1=((k:Int)-1).toNat:=by show k-1=_;omega
 rw [e,h,Int.toNat_natCast];rw [Zq2 k (by rw [List.length_replicate];omega)];rw [Zth (by rw [Zbo,List.length_replicate]) ω _ ω]
set_option maxRecDepth 20000
noncomputable def allN (n:Nat) (f:Nat->Bool):Bool:=Nat.rec true (fun m r=>bif f m then r else false) n
theorem Zdz {f:Nat->Bool}:∀ {n:Nat},allN n f=true->∀ m,m<n->f m=true
 | 0,_,m,hm=>by omega
 | n+1,h,m,hm=>by
  have a:(bif f n then allN n f else false)=true:=h;cases hf:f n with
  | false=>rw [hf] at a;cases a
  | true=>
   rw [hf] at a;by_cases e:m=n
   ·rw [e];exact hf
   ·exact Zdz a m ω
noncomputable def ngE (p:Int) (k:Nat) (a:Int):Int:=sumE p k 0 a (Int.sub p 1)
noncomputable def eqb (a b:Bool):Bool:=Bool.rec (Bool.rec true false b) b a
theorem Zsd {a b:Bool} (h:eqb a b=true):a=b:=by cases a<;>cases b<;>first|rfl|cases h
noncomputable def both (a b:Bool):Bool:=Bool.rec false b a
theorem ZcZ {a b:Bool} (h:both a b=true):a=true/\b=true:=by cases a<;>cases b<;>first|exact ⟨rfl,rfl⟩|cases h
theorem Zc3 {a b:Int} (h:eqi a b=true):a=b:=by rw [<-Zl] at h;simpa using h
theorem Zkg {a b:Int}:eqi a b=true↔a=b:=by rw [<-Zl];simp
theorem ZAj {a b:Int}:lti a b=true↔a<b:=by rw [<-Zm];simp
noncomputable def chk (p:Int) (k:Nat) (poly e:List Int) (q:Nat):Bool:=
 allN q fun a=>allN (Nat.succ a) fun b=>Frc.frc (mulE p k poly (.ofNat a) (.ofNat b)) fun m=>
  both (eqi m (mulE p k poly (.ofNat b) (.ofNat a))) (both (eqb (eqi m 1) (eqi (.ofNat b) (gx e a))) (eqb (eqi m 1) (eqi (.ofNat a) (gx e b))))
noncomputable def chkN (p:Int) (k:Nat) (poly:List Int) (q:Nat):Bool:=
 allN q fun a=>Frc.frc (ngE p k (.ofNat a)) fun e=>allN q fun b=>both (Frc.frc (mulE p k poly (.ofNat a) (.ofNat b)) fun m=>eqi (mulE p k poly e (.ofNat b)) (ngE p k m))
  (Frc.frc (ngE p k (.ofNat b)) fun nb=>eqi (sumE p k (.ofNat a) (.ofNat b) (Int.sub p 1)) (sumE p k (.ofNat a) nb 1))
noncomputable def chk1 (p:Int) (k:Nat) (poly e:List Int) (q:Nat):Bool:=
 allN q fun a=>both (eqi (mulE p k poly 0 (.ofNat a)) 0) (both (eqi (sumE p k (.ofNat a) 0 (Int.sub p 1)) (.ofNat a)) (Nat.rec true (fun _ _=>both (lti 0 (gx e a)) (lti (gx e a) (.ofNat q))) a))
noncomputable def chk2 (p:Int) (k:Nat) (q:Nat):Bool:=both (eqi p 2) (allN q fun a=>eqi (ngE p k (.ofNat a)) (.ofNat a))
inductive GF:Int->Zb->Prop
 | f2:GF 2 ⟨2,1,[0,1]⟩
 | f3:GF 3 ⟨3,1,[0,1]⟩
 | f4:GF 4 ⟨2,2,[1,1,1]⟩
 | f5:GF 5 ⟨5,1,[0,1]⟩
 | f7:GF 7 ⟨7,1,[0,1]⟩
 | f8:GF 8 ⟨2,3,[1,1,0,1]⟩
 | f9:GF 9 ⟨3,2,[1,0,1]⟩
 | f11:GF 11 ⟨11,1,[0,1]⟩
 | f13:GF 13 ⟨13,1,[0,1]⟩
 | f16:GF 16 ⟨2,4,[1,1,0,0,1]⟩
 | f17:GF 17 ⟨17,1,[0,1]⟩
 | f19:GF 19 ⟨19,1,[0,1]⟩
 | f23:GF 23 ⟨23,1,[0,1]⟩
 | f25:GF 25 ⟨5,2,[2,0,1]⟩
 | f27:GF 27 ⟨3,3,[1,2,0,1]⟩
 | f29:GF 29 ⟨29,1,[0,1]⟩
 | f31:GF 31 ⟨31,1,[0,1]⟩
 | f32:GF 32 ⟨2,5,[1,0,1,0,0,1]⟩
 | f37:GF 37 ⟨37,1,[0,1]⟩
 | f41:GF 41 ⟨41,1,[0,1]⟩
 | f43:GF 43 ⟨43,1,[0,1]⟩
 | f47:GF 47 ⟨47,1,[0,1]⟩
 | f49:GF 49 ⟨7,2,[1,0,1]⟩
 | f53:GF 53 ⟨53,1,[0,1]⟩
 | f59:GF 59 ⟨59,1,[0,1]⟩
 | f61:GF 61 ⟨61,1,[0,1]⟩
 | f64:GF 64 ⟨2,6,[1,1,0,0,0,0,1]⟩
structure Ff (f:Zb) (q:Int) (inv:List Int):Prop where
 fd:Fd f
 pw:pwN f.Prime f.Degree.toNat=q
 q2:2<=q
 q64:q<=64
 comm:∀ a b,0<=a->a<q->0<=b->b<q->mulA f a b=mulA f b a
 neg:∀ a b,0<=a->a<q->0<=b->b<q->mulA f (sumA f 0 a (f.Prime-1)) b=sumA f 0 (mulA f a b) (f.Prime-1)
 sub:∀ a b,0<=a->a<q->0<=b->b<q->sumA f a b (f.Prime-1)=sumA f a (sumA f 0 b (f.Prime-1)) 1
 inv1:∀ a,1<=a->a<q->1<=ix inv a/\ix inv a<q
 inv2:∀ a b,0<=a->a<q->0<=b->b<q->(mulA f a b=1↔b=ix inv a)
 z1:∀ a,0<=a->a<q->mulA f 0 a=0
 z2:∀ a,0<=a->a<q->sumA f a 0 (f.Prime-1)=a
theorem Zu5 {f:Zb} {q:Int} (j:Fd f) (a:pwN f.Prime f.Degree.toNat=q) {xs:List Int} (e:In f.Prime xs) (h:xs.length=f.Degree.toNat):0<=nm f.Prime xs/\nm f.Prime xs<q:=by
 have:=ZiQ j.p2 e xs.length (Nat.le_refl _);unfold nm;rw [h,a] at this;rw [h];exact this
theorem Zip {f:Zb} {q:Int} (h:Fd f) (e:pwN f.Prime f.Degree.toNat=q) (a b c:Int):0<=sumA f a b c/\sumA f a b c<q:=by
 have:=h.p2;have:=h.k1;refine Zu5 h e (ZjZ ω (ZbH ω)) ?_;have:=ZaJ (p:=f.Prime) (k:=f.Degree) (a:=a) ω;rw [Zbp];omega
theorem ZcO {f:Zb} {q:Int} (h:Fd f) (e:pwN f.Prime f.Degree.toNat=q) (a b:Int):0<=mulA f a b/\mulA f a b<q:=by
 have:=h.p2;have:=h.k1;refine Zu5 h e (ZvA (Zfb ω (ZbU ω (Zf0 ω) _) _)) ?_;rw [List.length_take,ZbB,Zbo,List.length_replicate];omega
theorem ff_of {f:Zb} {q k:Nat} {a5:List Int} (hf:Fd f) (hk:f.Degree=(k:Int)) (u:pwN f.Prime k=q) (a4:2<=q) (v:q<=64) (h1:chk f.Prime k f.Poly a5 q=true) (w:chk1 f.Prime k f.Poly a5 q=true) (x:chkN f.Prime k f.Poly q=true\/chk2 f.Prime k q=true):Ff f q a5:=by
 have hM:∀ a b,mulE f.Prime k f.Poly a b=mulA f a b:=ZDz hf hk;have hS:∀ a b c,sumE f.Prime k a b c=sumA f a b c:=Zy4 hf hk;have a9:pwN f.Prime f.Degree.toNat=(q:Int):=by rw [hk,Int.toNat_natCast];exact u
 have a6:∀ a b:Nat,a<q->b<=a->mulA f a b=mulA f b a/\(mulA f a b=1↔(b:Int)=ix a5 a)/\(mulA f a b=1↔(a:Int)=ix a5 b):=by
  intro a b ha i;have h:=Zdz (Zdz h1 a ha) b ω;simp only [Frc.ok] at h;obtain ⟨j,e⟩:=ZcZ h;obtain ⟨e,l⟩:=ZcZ e;rw [hM,hM] at j;have e:=Zsd e;have l:=Zsd l;rw [hM,gx_ok] at e;rw [hM,gx_ok] at l;refine ⟨Zc3 j,?_,?_⟩
  ·rw [<-Zkg,<-Zkg (a:=(b:Int))];exact ⟨fun h=>e.symm.trans h,fun h=>e.trans h⟩
  ·rw [<-Zkg,<-Zkg (a:=(a:Int))];exact ⟨fun h=>l.symm.trans h,fun h=>l.trans h⟩
 have a3:∀ {a:Int},0<=a->a<(q:Int)->∃ n:Nat,a=(n:Int)/\n<q:=fun {a} h0 h1=>⟨a.toNat,by omega,by omega⟩
 have one:∀ a:Nat,a<q->mulA f 0 a=0/\sumA f a 0 (f.Prime-1)=a/\(1<=a->1<=ix a5 a/\ix a5 a<q):=by
  intro a ha;obtain ⟨j,e⟩:=ZcZ (Zdz w a ha);obtain ⟨e,l⟩:=ZcZ e;rw [hM] at j;rw [hS] at e;refine ⟨Zc3 j,Zc3 e,fun h=>?_⟩;cases a with
  | zero=>omega
  | succ n=>
   obtain ⟨y,s⟩:=ZcZ (show both _ _=true from l);rw [gx_ok,ZAj] at y s;exact ⟨by omega,s⟩
 have aa:∀ a b:Nat,a<q->b<q->mulA f (sumA f 0 a (f.Prime-1)) b=sumA f 0 (mulA f a b) (f.Prime-1)/\sumA f a b (f.Prime-1)=sumA f a (sumA f 0 b (f.Prime-1)) 1:=by
  intro a b ha i;rcases x with h|h
  ·have h:=Zdz h a ha;simp only [Frc.ok] at h;have h:=Zdz h b i;obtain ⟨j,e⟩:=ZcZ h;unfold ngE at j e;simp only [hM,hS] at j e;exact ⟨Zc3 j,Zc3 e⟩
  ·obtain ⟨j,e⟩:=ZcZ h;have hp:=Zc3 j;have ng:∀ a:Nat,a<q->sumA f 0 a (f.Prime-1)=a:=fun a ha=>by
    have:=Zc3 (Zdz e a ha);unfold ngE at this;rw [hS] at this;exact this
   rw [ng a ha,ng b i];obtain ⟨m0,m1⟩:=ZcO hf a9 a b;obtain ⟨m,em,hm⟩:=a3 m0 m1;rw [em,ng m hm];refine ⟨rfl,?_⟩;rw [hp];rfl
 refine ⟨hf,a9,by omega,by omega,?_,?_,?_,?_,?_,?_,?_⟩
 ·intro a b a0 a1 o r;obtain ⟨a,rfl,ha⟩:=a3 a0 a1;obtain ⟨b,rfl,i⟩:=a3 o r;by_cases h:b<=a
  ·exact (a6 a b ha h).1
  ·exact (a6 b a i ω).1.symm
 ·intro a b a0 a1 o r;obtain ⟨a,rfl,ha⟩:=a3 a0 a1;obtain ⟨b,rfl,i⟩:=a3 o r;exact (aa a b ha i).1
 ·intro a b a0 a1 o r;obtain ⟨a,rfl,ha⟩:=a3 a0 a1;obtain ⟨b,rfl,i⟩:=a3 o r;exact (aa a b ha i).2
 ·intro a a0 a1;obtain ⟨a,rfl,ha⟩:=a3 ω a1;exact (one a ha).2.2 ω
 ·intro a b a0 a1 o r;obtain ⟨a,rfl,ha⟩:=a3 a0 a1;obtain ⟨b,rfl,i⟩:=a3 o r;by_cases h:b<=a
  ·exact (a6 a b ha h).2.1
  ·have:=a6 b a i ω;rw [<-this.1];exact this.2.2
 ·intro a a0 a1;obtain ⟨a,rfl,ha⟩:=a3 a0 a1;exact (one a ha).1
 ·intro a a0 a1;obtain ⟨a,rfl,ha⟩:=a3 a0 a1;exact (one a ha).2.1
theorem ff2:Ff ⟨2,1,[0,1]⟩ 2 [(-1),1]:=by
 refine ff_of (q:=2) (k:=1) ⟨by decide,by decide,by decide,by decide,rfl,rfl,?_,by decide⟩ rfl (by decide) (by decide) (by decide) κ κ (.inr κ);intro i a h1;rcases (show i=0\/i=1 by simp at h1;omega) with rfl|rfl<;>decide
theorem ff3:Ff ⟨3,1,[0,1]⟩ 3 [(-1),1,2]:=by
 refine ff_of (q:=3) (k:=1) ⟨by decide,by decide,by decide,by decide,rfl,rfl,?_,by decide⟩ rfl (by decide) (by decide) (by decide) κ κ (.inl κ);intro i a h1;rcases (show i=0\/i=1 by simp at h1;omega) with rfl|rfl<;>decide
theorem ff4:Ff ⟨2,2,[1,1,1]⟩ 4 [(-1),1,3,2]:=by
 refine ff_of (q:=4) (k:=2) ⟨by decide,by decide,by decide,by decide,rfl,rfl,?_,by decide⟩ rfl (by decide) (by decide) (by decide) κ κ (.inr κ);intro i a h1;rcases (show i=0\/i=1\/i=2 by simp at h1;omega) with rfl|rfl|rfl<;>decide
theorem ff5:Ff ⟨5,1,[0,1]⟩ 5 [(-1),1,3,2,4]:=by
 refine ff_of (q:=5) (k:=1) ⟨by decide,by decide,by decide,by decide,rfl,rfl,?_,by decide⟩ rfl (by decide) (by decide) (by decide) κ κ (.inl κ);intro i a h1;rcases (show i=0\/i=1 by simp at h1;omega) with rfl|rfl<;>decide
theorem ff7:Ff ⟨7,1,[0,1]⟩ 7 [(-1),1,4,5,2,3,6]:=by
 refine ff_of (q:=7) (k:=1) ⟨by decide,by decide,by decide,by decide,rfl,rfl,?_,by decide⟩ rfl (by decide) (by decide) (by decide) κ κ (.inl κ);intro i a h1;rcases (show i=0\/i=1 by simp at h1;omega) with rfl|rfl<;>decide
theorem ff8:Ff ⟨2,3,[1,1,0,1]⟩ 8 [(-1),1,5,6,7,2,3,4]:=by
 refine ff_of (q:=8) (k:=3) ⟨by decide,by decide,by decide,by decide,rfl,rfl,?_,by decide⟩ rfl (by decide) (by decide) (by decide) κ κ (.inr κ);intro i a h1;rcases (show i=0\/i=1\/i=2\/i=3 by simp at h1;omega) with rfl|rfl|rfl|rfl<;>decide
theorem ff9:Ff ⟨3,2,[1,0,1]⟩ 9 [(-1),1,2,6,5,4,3,8,7]:=by
 refine ff_of (q:=9) (k:=2) ⟨by decide,by decide,by decide,by decide,rfl,rfl,?_,by decide⟩ rfl (by decide) (by decide) (by decide) κ κ (.inl κ);intro i a h1;rcases (show i=0\/i=1\/i=2 by simp at h1;omega) with rfl|rfl|rfl<;>decide
theorem ff11:Ff ⟨11,1,[0,1]⟩ 11 [(-1),1,6,4,3,9,2,8,7,5,10]:=by
 refine ff_of (q:=11) (k:=1) ⟨by decide,by decide,by decide,by decide,rfl,rfl,?_,by decide⟩ rfl (by decide) (by decide) (by decide) κ κ (.inl κ);intro i a h1;rcases (show i=0\/i=1 by simp at h1;omega) with rfl|rfl<;>decide
theorem ff13:Ff ⟨13,1,[0,1]⟩ 13 [(-1),1,7,9,10,8,11,2,5,3,4,6,12]:=by
 refine ff_of (q:=13) (k:=1) ⟨by decide,by decide,by decide,by decide,rfl,rfl,?_,by decide⟩ rfl (by decide) (by decide) (by decide) κ κ (.inl κ);intro i a h1;rcases (show i=0\/i=1 by simp at h1;omega) with rfl|rfl<;>decide
theorem ff16:Ff ⟨2,4,[1,1,0,0,1]⟩ 16 [(-1),1,9,14,13,11,7,6,15,2,12,5,10,4,3,8]:=by
 refine ff_of (q:=16) (k:=4) ⟨by decide,by decide,by decide,by decide,rfl,rfl,?_,by decide⟩ rfl (by decide) (by decide) (by decide) κ κ (.inr κ);intro i a h1;rcases (show i=0\/i=1\/i=2\/i=3\/i=4 by simp at h1;omega) with rfl|rfl|rfl|rfl|rfl<;>decide
theorem ff17:Ff ⟨17,1,[0,1]⟩ 17 [(-1),1,9,6,13,7,3,5,15,2,12,14,10,4,11,8,16]:=by
 refine ff_of (q:=17) (k:=1) ⟨by decide,by decide,by decide,by decide,rfl,rfl,?_,by decide⟩ rfl (by decide) (by decide) (by decide) κ κ (.inl κ);intro i a h1;rcases (show i=0\/i=1 by simp at h1;omega) with rfl|rfl<;>decide
theorem ff19:Ff ⟨19,1,[0,1]⟩ 19 [(-1),1,10,13,5,4,16,11,12,17,2,7,8,3,15,14,6,9,18]:=by
 refine ff_of (q:=19) (k:=1) ⟨by decide,by decide,by decide,by decide,rfl,rfl,?_,by decide⟩ rfl (by decide) (by decide) (by decide) κ κ (.inl κ);intro i a h1;rcases (show i=0\/i=1 by simp at h1;omega) with rfl|rfl<;>decide
theorem ff23:Ff ⟨23,1,[0,1]⟩ 23 [(-1),1,12,8,6,14,4,10,3,18,7,21,2,16,5,20,13,19,9,17,15,11,22]:=by
 refine ff_of (q:=23) (k:=1) ⟨by decide,by decide,by decide,by decide,rfl,rfl,?_,by decide⟩ rfl (by decide) (by decide) (by decide) κ κ (.inl κ);intro i a h1;rcases (show i=0\/i=1 by simp at h1;omega) with rfl|rfl<;>decide
theorem ff25:Ff ⟨5,2,[2,0,1]⟩ 25 [(-1),1,3,2,4,10,17,22,23,18,5,14,21,24,11,20,19,6,9,16,15,12,7,8,13]:=by
 refine ff_of (q:=25) (k:=2) ⟨by decide,by decide,by decide,by decide,rfl,rfl,?_,by decide⟩ rfl (by decide) (by decide) (by decide) κ κ (.inl κ);intro i a h1;rcases (show i=0\/i=1\/i=2 by simp at h1;omega) with rfl|rfl|rfl<;>decide
theorem ff27:Ff ⟨3,3,[1,2,0,1]⟩ 27 [(-1),1,2,19,21,24,11,12,15,25,23,6,7,22,18,8,20,26,14,3,16,4,13,10,5,9,17]:=by
 refine ff_of (q:=27) (k:=3) ⟨by decide,by decide,by decide,by decide,rfl,rfl,?_,by decide⟩ rfl (by decide) (by decide) (by decide) κ κ (.inl κ);intro i a h1;rcases (show i=0\/i=1\/i=2\/i=3 by simp at h1;omega) with rfl|rfl|rfl|rfl<;>decide
theorem ff29:Ff ⟨29,1,[0,1]⟩ 29 [(-1),1,15,10,22,6,5,25,11,13,3,8,17,9,27,2,20,12,21,26,16,18,4,24,23,7,19,14,28]:=by
 refine ff_of (q:=29) (k:=1) ⟨by decide,by decide,by decide,by decide,rfl,rfl,?_,by decide⟩ rfl (by decide) (by decide) (by decide) κ κ (.inl κ);intro i a h1;rcases (show i=0\/i=1 by simp at h1;omega) with rfl|rfl<;>decide
theorem ff31:Ff ⟨31,1,[0,1]⟩ 31 [(-1),1,16,21,8,25,26,9,4,7,28,17,13,12,20,29,2,11,19,18,14,3,24,27,22,5,6,23,10,15,30]:=by
 refine ff_of (q:=31) (k:=1) ⟨by decide,by decide,by decide,by decide,rfl,rfl,?_,by decide⟩ rfl (by decide) (by decide) (by decide) κ κ (.inl κ);intro i a h1;rcases (show i=0\/i=1 by simp at h1;omega) with rfl|rfl<;>decide
theorem ff32:Ff ⟨2,5,[1,0,1,0,0,1]⟩ 32 [(-1),1,18,28,9,23,14,12,22,4,25,16,7,15,6,13,11,24,2,29,30,26,8,5,17,10,21,31,3,19,20,27]:=by
 refine ff_of (q:=32) (k:=5) ⟨by decide,by decide,by decide,by decide,rfl,rfl,?_,by decide⟩ rfl (by decide) (by decide) (by decide) κ κ (.inr κ);intro i a h1;rcases (show i=0\/i=1\/i=2\/i=3\/i=4\/i=5 by simp at h1;omega) with rfl|rfl|rfl|rfl|rfl|rfl<;>decide
theorem ff37:Ff ⟨37,1,[0,1]⟩ 37 [(-1),1,19,25,28,15,31,16,14,33,26,27,34,20,8,5,7,24,35,2,13,30,32,29,17,3,10,11,4,23,21,6,22,9,12,18,36]:=by
 refine ff_of (q:=37) (k:=1) ⟨by decide,by decide,by decide,by decide,rfl,rfl,?_,by decide⟩ rfl (by decide) (by decide) (by decide) κ κ (.inl κ);intro i a h1;rcases (show i=0\/i=1 by simp at h1;omega) with rfl|rfl<;>decide
theorem ff41:Ff ⟨41,1,[0,1]⟩ 41 [(-1),1,21,14,31,33,7,6,36,32,37,15,24,19,3,11,18,29,16,13,39,2,28,25,12,23,30,38,22,17,26,4,9,5,35,34,8,10,27,20,40]:=by
 refine ff_of (q:=41) (k:=1) ⟨by decide,by decide,by decide,by decide,rfl,rfl,?_,by decide⟩ rfl (by decide) (by decide) (by decide) κ κ (.inl κ);intro i a h1;rcases (show i=0\/i=1 by simp at h1;omega) with rfl|rfl<;>decide
theorem ff43:Ff ⟨43,1,[0,1]⟩ 43 [(-1),1,22,29,11,26,36,37,27,24,13,4,18,10,40,23,35,38,12,34,28,41,2,15,9,31,5,8,20,3,33,25,39,30,19,16,6,7,17,32,14,21,42]:=by
 refine ff_of (q:=43) (k:=1) ⟨by decide,by decide,by decide,by decide,rfl,rfl,?_,by decide⟩ rfl (by decide) (by decide) (by decide) κ κ (.inl κ);intro i a h1;rcases (show i=0\/i=1 by simp at h1;omega) with rfl|rfl<;>decide
theorem ff47:Ff ⟨47,1,[0,1]⟩ 47 [(-1),1,24,16,12,19,8,27,6,21,33,30,4,29,37,22,3,36,34,5,40,9,15,45,2,32,38,7,42,13,11,44,25,10,18,43,17,14,26,41,20,39,28,35,31,23,46]:=by
 refine ff_of (q:=47) (k:=1) ⟨by decide,by decide,by decide,by decide,rfl,rfl,?_,by decide⟩ rfl (by decide) (by decide) (by decide) κ κ (.inl κ);intro i a h1;rcases (show i=0\/i=1 by simp at h1;omega) with rfl|rfl<;>decide
theorem ff49:Ff ⟨7,2,[1,0,1]⟩ 49 [(-1),1,4,5,2,3,6,42,25,34,15,20,29,24,21,10,37,18,17,40,11,14,47,26,13,8,23,44,35,12,33,48,43,30,9,28,45,16,39,38,19,46,7,32,27,36,41,22,31]:=by
 refine ff_of (q:=49) (k:=2) ⟨by decide,by decide,by decide,by decide,rfl,rfl,?_,by decide⟩ rfl (by decide) (by decide) (by decide) κ κ (.inl κ);intro i a h1;rcases (show i=0\/i=1\/i=2 by simp at h1;omega) with rfl|rfl|rfl<;>decide
theorem ff53:Ff ⟨53,1,[0,1]⟩ 53 [(-1),1,27,18,40,32,9,38,20,6,16,29,31,49,19,46,10,25,3,14,8,48,41,30,42,17,51,2,36,11,23,12,5,45,39,50,28,43,7,34,4,22,24,37,47,33,15,44,21,13,35,26,52]:=by
 refine ff_of (q:=53) (k:=1) ⟨by decide,by decide,by decide,by decide,rfl,rfl,?_,by decide⟩ rfl (by decide) (by decide) (by decide) κ κ (.inl κ);intro i a h1;rcases (show i=0\/i=1 by simp at h1;omega) with rfl|rfl<;>decide
theorem ff59:Ff ⟨59,1,[0,1]⟩ 59 [(-1),1,30,20,15,12,10,17,37,46,6,43,5,50,38,4,48,7,23,28,3,45,51,18,32,26,25,35,19,57,2,40,24,34,33,27,41,8,14,56,31,36,52,11,55,21,9,54,16,53,13,22,42,49,47,44,39,29,58]:=by
 refine ff_of (q:=59) (k:=1) ⟨by decide,by decide,by decide,by decide,rfl,rfl,?_,by decide⟩ rfl (by decide) (by decide) (by decide) κ κ (.inl κ);intro i a h1;rcases (show i=0\/i=1 by simp at h1;omega) with rfl|rfl<;>decide
theorem ff61:Ff ⟨61,1,[0,1]⟩ 61 [(-1),1,31,41,46,49,51,35,23,34,55,50,56,47,48,57,42,18,17,45,58,32,25,8,28,22,54,52,24,40,59,2,21,37,9,7,39,33,53,36,29,3,16,44,43,19,4,13,14,5,11,6,27,38,26,10,12,15,20,30,60]:=by
 refine ff_of (q:=61) (k:=1) ⟨by decide,by decide,by decide,by decide,rfl,rfl,?_,by decide⟩ rfl (by decide) (by decide) (by decide) κ κ (.inl κ);intro i a h1;rcases (show i=0\/i=1 by simp at h1;omega) with rfl|rfl<;>decide
theorem ff64:Ff ⟨2,6,[1,1,0,0,0,0,1]⟩ 64 [(-1),1,33,62,49,43,31,44,57,37,52,28,46,40,22,25,61,54,51,39,26,35,14,24,23,15,20,34,11,53,45,6,63,2,27,21,56,9,50,19,13,47,48,5,7,30,12,41,42,4,38,18,10,29,17,60,36,8,59,58,55,16,3,32]:=by
 refine ff_of (q:=64) (k:=6) ⟨by decide,by decide,by decide,by decide,rfl,rfl,?_,by decide⟩ rfl (by decide) (by decide) (by decide) κ κ (.inr κ);intro i a h1;rcases (show i=0\/i=1\/i=2\/i=3\/i=4\/i=5\/i=6 by simp at h1;omega) with rfl|rfl|rfl|rfl|rfl|rfl|rfl<;>decide
theorem Zph {q:Int} {f:Zb} (h:GF q f):∃ a,Ff f q a:=by
 cases h
 ·exact ⟨_,ff2⟩
 ·exact ⟨_,ff3⟩
 ·exact ⟨_,ff4⟩
 ·exact ⟨_,ff5⟩
 ·exact ⟨_,ff7⟩
 ·exact ⟨_,ff8⟩
 ·exact ⟨_,ff9⟩
 ·exact ⟨_,ff11⟩
 ·exact ⟨_,ff13⟩
 ·exact ⟨_,ff16⟩
 ·exact ⟨_,ff17⟩
 ·exact ⟨_,ff19⟩
 ·exact ⟨_,ff23⟩
 ·exact ⟨_,ff25⟩
 ·exact ⟨_,ff27⟩
 ·exact ⟨_,ff29⟩
 ·exact ⟨_,ff31⟩
 ·exact ⟨_,ff32⟩
 ·exact ⟨_,ff37⟩
 ·exact ⟨_,ff41⟩
 ·exact ⟨_,ff43⟩
 ·exact ⟨_,ff47⟩
 ·exact ⟨_,ff49⟩
 ·exact ⟨_,ff53⟩
 ·exact ⟨_,ff59⟩
 ·exact ⟨_,ff61⟩
 ·exact ⟨_,ff64⟩
structure Made (q:Int) (f:Zb):Prop where
 gf:GF q f
 split:Zcj q=some (f.Prime,f.Degree)
 mks:ZbR q=some f
 mki:ZbM q=some (f,0)
 oks:Zhq f=some true
 oki:Zgo f=some true
 szs:Zbh f=some q
 szi:Zb8 f=some q
def FldAt (q:Int):Prop:=(∃ f,Made q f)\/(Zcj q=some (0,0)/\∃ e,ZbM q=some (⟨0,0,[]⟩,e))
theorem mk2:FldAt 2:=.inl ⟨_,.f2,Zz (F:=100) _ _ κ,Zaa (F:=100) _ _ κ,ZB (F:=100) _ _ κ,Z8 (F:=100) _ _ κ,Z9 (F:=100) _ _ κ,Zab (F:=100) _ _ κ,Zac (F:=100) _ _ κ⟩
theorem mk3:FldAt 3:=.inl ⟨_,.f3,Zz (F:=100) _ _ κ,Zaa (F:=100) _ _ κ,ZB (F:=100) _ _ κ,Z8 (F:=100) _ _ κ,Z9 (F:=100) _ _ κ,Zab (F:=100) _ _ κ,Zac (F:=100) _ _ κ⟩
theorem mk4:FldAt 4:=.inl ⟨_,.f4,Zz (F:=100) _ _ κ,Zaa (F:=100) _ _ κ,ZB (F:=100) _ _ κ,Z8 (F:=100) _ _ κ,Z9 (F:=100) _ _ κ,Zab (F:=100) _ _ κ,Zac (F:=100) _ _ κ⟩
theorem mk5:FldAt 5:=.inl ⟨_,.f5,Zz (F:=100) _ _ κ,Zaa (F:=100) _ _ κ,ZB (F:=100) _ _ κ,Z8 (F:=100) _ _ κ,Z9 (F:=100) _ _ κ,Zab (F:=100) _ _ κ,Zac (F:=100) _ _ κ⟩
theorem mk6:FldAt 6:=.inr ⟨Zz (F:=100) _ _ κ,_,ZB (F:=100) _ (⟨0,0,[]⟩,2) κ⟩
theorem mk7:FldAt 7:=.inl ⟨_,.f7,Zz (F:=100) _ _ κ,Zaa (F:=100) _ _ κ,ZB (F:=100) _ _ κ,Z8 (F:=100) _ _ κ,Z9 (F:=100) _ _ κ,Zab (F:=100) _ _ κ,Zac (F:=100) _ _ κ⟩
theorem mk8:FldAt 8:=.inl ⟨_,.f8,Zz (F:=100) _ _ κ,Zaa (F:=100) _ _ κ,ZB (F:=100) _ _ κ,Z8 (F:=100) _ _ κ,Z9 (F:=100) _ _ κ,Zab (F:=100) _ _ κ,Zac (F:=100) _ _ κ⟩
theorem mk9:FldAt 9:=.inl ⟨_,.f9,Zz (F:=100) _ _ κ,Zaa (F:=100) _ _ κ,ZB (F:=100) _ _ κ,Z8 (F:=100) _ _ κ,Z9 (F:=100) _ _ κ,Zab (F:=100) _ _ κ,Zac (F:=100) _ _ κ⟩
theorem mk10:FldAt 10:=.inr ⟨Zz (F:=100) _ _ κ,_,ZB (F:=100) _ (⟨0,0,[]⟩,2) κ⟩
theorem mk11:FldAt 11:=.inl ⟨_,.f11,Zz (F:=100) _ _ κ,Zaa (F:=100) _ _ κ,ZB (F:=100) _ _ κ,Z8 (F:=100) _ _ κ,Z9 (F:=100) _ _ κ,Zab (F:=100) _ _ κ,Zac (F:=100) _ _ κ⟩
theorem mk12:FldAt 12:=.inr ⟨Zz (F:=100) _ _ κ,_,ZB (F:=100) _ (⟨0,0,[]⟩,2) κ⟩
theorem mk13:FldAt 13:=.inl ⟨_,.f13,Zz (F:=100) _ _ κ,Zaa (F:=100) _ _ κ,ZB (F:=100) _ _ κ,Z8 (F:=100) _ _ κ,Z9 (F:=100) _ _ κ,Zab (F:=100) _ _ κ,Zac (F:=100) _ _ κ⟩
theorem mk14:FldAt 14:=.inr ⟨Zz (F:=100) _ _ κ,_,ZB (F:=100) _ (⟨0,0,[]⟩,2) κ⟩
theorem mk15:FldAt 15:=.inr ⟨Zz (F:=100) _ _ κ,_,ZB (F:=100) _ (⟨0,0,[]⟩,2) κ⟩
theorem mk16:FldAt 16:=.inl ⟨_,.f16,Zz (F:=100) _ _ κ,Zaa (F:=100) _ _ κ,ZB (F:=100) _ _ κ,Z8 (F:=100) _ _ κ,Z9 (F:=100) _ _ κ,Zab (F:=100) _ _ κ,Zac (F:=100) _ _ κ⟩
theorem mk17:FldAt 17:=.inl ⟨_,.f17,Zz (F:=100) _ _ κ,Zaa (F:=100) _ _ κ,ZB (F:=100) _ _ κ,Z8 (F:=100) _ _ κ,Z9 (F:=100) _ _ κ,Zab (F:=100) _ _ κ,Zac (F:=100) _ _ κ⟩
theorem mk18:FldAt 18:=.inr ⟨Zz (F:=100) _ _ κ,_,ZB (F:=100) _ (⟨0,0,[]⟩,2) κ⟩
theorem mk19:FldAt 19:=.inl ⟨_,.f19,Zz (F:=100) _ _ κ,Zaa (F:=100) _ _ κ,ZB (F:=100) _ _ κ,Z8 (F:=100) _ _ κ,Z9 (F:=100) _ _ κ,Zab (F:=100) _ _ κ,Zac (F:=100) _ _ κ⟩
theorem mk20:FldAt 20:=.inr ⟨Zz (F:=100) _ _ κ,_,ZB (F:=100) _ (⟨0,0,[]⟩,2) κ⟩
theorem mk21:FldAt 21:=.inr ⟨Zz (F:=100) _ _ κ,_,ZB (F:=100) _ (⟨0,0,[]⟩,2) κ⟩
theorem mk22:FldAt 22:=.inr ⟨Zz (F:=100) _ _ κ,_,ZB (F:=100) _ (⟨0,0,[]⟩,2) κ⟩
theorem mk23:FldAt 23:=.inl ⟨_,.f23,Zz (F:=100) _ _ κ,Zaa (F:=100) _ _ κ,ZB (F:=100) _ _ κ,Z8 (F:=100) _ _ κ,Z9 (F:=100) _ _ κ,Zab (F:=100) _ _ κ,Zac (F:=100) _ _ κ⟩
theorem mk24:FldAt 24:=.inr ⟨Zz (F:=100) _ _ κ,_,ZB (F:=100) _ (⟨0,0,[]⟩,2) κ⟩
theorem mk25:FldAt 25:=.inl ⟨_,.f25,Zz (F:=100) _ _ κ,Zaa (F:=100) _ _ κ,ZB (F:=100) _ _ κ,Z8 (F:=100) _ _ κ,Z9 (F:=100) _ _ κ,Zab (F:=100) _ _ κ,Zac (F:=100) _ _ κ⟩
theorem mk26:FldAt 26:=.inr ⟨Zz (F:=100) _ _ κ,_,ZB (F:=100) _ (⟨0,0,[]⟩,2) κ⟩
theorem mk27:FldAt 27:=.inl ⟨_,.f27,Zz (F:=100) _ _ κ,Zaa (F:=100) _ _ κ,ZB (F:=100) _ _ κ,Z8 (F:=100) _ _ κ,Z9 (F:=100) _ _ κ,Zab (F:=100) _ _ κ,Zac (F:=100) _ _ κ⟩
theorem mk28:FldAt 28:=.inr ⟨Zz (F:=100) _ _ κ,_,ZB (F:=100) _ (⟨0,0,[]⟩,2) κ⟩
theorem mk29:FldAt 29:=.inl ⟨_,.f29,Zz (F:=100) _ _ κ,Zaa (F:=100) _ _ κ,ZB (F:=100) _ _ κ,Z8 (F:=100) _ _ κ,Z9 (F:=100) _ _ κ,Zab (F:=100) _ _ κ,Zac (F:=100) _ _ κ⟩
theorem mk30:FldAt 30:=.inr ⟨Zz (F:=100) _ _ κ,_,ZB (F:=100) _ (⟨0,0,[]⟩,2) κ⟩
theorem mk31:FldAt 31:=.inl ⟨_,.f31,Zz (F:=100) _ _ κ,Zaa (F:=100) _ _ κ,ZB (F:=100) _ _ κ,Z8 (F:=100) _ _ κ,Z9 (F:=100) _ _ κ,Zab (F:=100) _ _ κ,Zac (F:=100) _ _ κ⟩
theorem mk32:FldAt 32:=.inl ⟨_,.f32,Zz (F:=100) _ _ κ,Zaa (F:=100) _ _ κ,ZB (F:=100) _ _ κ,Z8 (F:=100) _ _ κ,Z9 (F:=100) _ _ κ,Zab (F:=100) _ _ κ,Zac (F:=100) _ _ κ⟩
theorem mk33:FldAt 33:=.inr ⟨Zz (F:=100) _ _ κ,_,ZB (F:=100) _ (⟨0,0,[]⟩,2) κ⟩
theorem mk34:FldAt 34:=.inr ⟨Zz (F:=100) _ _ κ,_,ZB (F:=100) _ (⟨0,0,[]⟩,2) κ⟩
theorem mk35:FldAt 35:=.inr ⟨Zz (F:=100) _ _ κ,_,ZB (F:=100) _ (⟨0,0,[]⟩,2) κ⟩
theorem mk36:FldAt 36:=.inr ⟨Zz (F:=100) _ _ κ,_,ZB (F:=100) _ (⟨0,0,[]⟩,2) κ⟩
theorem mk37:FldAt 37:=.inl ⟨_,.f37,Zz (F:=100) _ _ κ,Zaa (F:=100) _ _ κ,ZB (F:=100) _ _ κ,Z8 (F:=100) _ _ κ,Z9 (F:=100) _ _ κ,Zab (F:=100) _ _ κ,Zac (F:=100) _ _ κ⟩
theorem mk38:FldAt 38:=.inr ⟨Zz (F:=100) _ _ κ,_,ZB (F:=100) _ (⟨0,0,[]⟩,2) κ⟩
theorem mk39:FldAt 39:=.inr ⟨Zz (F:=100) _ _ κ,_,ZB (F:=100) _ (⟨0,0,[]⟩,2) κ⟩
theorem mk40:FldAt 40:=.inr ⟨Zz (F:=100) _ _ κ,_,ZB (F:=100) _ (⟨0,0,[]⟩,2) κ⟩
theorem mk41:FldAt 41:=.inl ⟨_,.f41,Zz (F:=100) _ _ κ,Zaa (F:=100) _ _ κ,ZB (F:=100) _ _ κ,Z8 (F:=100) _ _ κ,Z9 (F:=100) _ _ κ,Zab (F:=100) _ _ κ,Zac (F:=100) _ _ κ⟩
theorem mk42:FldAt 42:=.inr ⟨Zz (F:=100) _ _ κ,_,ZB (F:=100) _ (⟨0,0,[]⟩,2) κ⟩
theorem mk43:FldAt 43:=.inl ⟨_,.f43,Zz (F:=100) _ _ κ,Zaa (F:=100) _ _ κ,ZB (F:=100) _ _ κ,Z8 (F:=100) _ _ κ,Z9 (F:=100) _ _ κ,Zab (F:=100) _ _ κ,Zac (F:=100) _ _ κ⟩
theorem mk44:FldAt 44:=.inr ⟨Zz (F:=100) _ _ κ,_,ZB (F:=100) _ (⟨0,0,[]⟩,2) κ⟩
theorem mk45:FldAt 45:=.inr ⟨Zz (F:=100) _ _ κ,_,ZB (F:=100) _ (⟨0,0,[]⟩,2) κ⟩
theorem mk46:FldAt 46:=.inr ⟨Zz (F:=100) _ _ κ,_,ZB (F:=100) _ (⟨0,0,[]⟩,2) κ⟩
theorem mk47:FldAt 47:=.inl ⟨_,.f47,Zz (F:=100) _ _ κ,Zaa (F:=100) _ _ κ,ZB (F:=100) _ _ κ,Z8 (F:=100) _ _ κ,Z9 (F:=100) _ _ κ,Zab (F:=100) _ _ κ,Zac (F:=100) _ _ κ⟩
theorem mk48:FldAt 48:=.inr ⟨Zz (F:=100) _ _ κ,_,ZB (F:=100) _ (⟨0,0,[]⟩,2) κ⟩
theorem mk49:FldAt 49:=.inl ⟨_,.f49,Zz (F:=100) _ _ κ,Zaa (F:=100) _ _ κ,ZB (F:=100) _ _ κ,Z8 (F:=100) _ _ κ,Z9 (F:=100) _ _ κ,Zab (F:=100) _ _ κ,Zac (F:=100) _ _ κ⟩
theorem mk50:FldAt 50:=.inr ⟨Zz (F:=100) _ _ κ,_,ZB (F:=100) _ (⟨0,0,[]⟩,2) κ⟩
theorem mk51:FldAt 51:=.inr ⟨Zz (F:=100) _ _ κ,_,ZB (F:=100) _ (⟨0,0,[]⟩,2) κ⟩
theorem mk52:FldAt 52:=.inr ⟨Zz (F:=100) _ _ κ,_,ZB (F:=100) _ (⟨0,0,[]⟩,2) κ⟩
theorem mk53:FldAt 53:=.inl ⟨_,.f53,Zz (F:=100) _ _ κ,Zaa (F:=100) _ _ κ,ZB (F:=100) _ _ κ,Z8 (F:=100) _ _ κ,Z9 (F:=100) _ _ κ,Zab (F:=100) _ _ κ,Zac (F:=100) _ _ κ⟩
theorem mk54:FldAt 54:=.inr ⟨Zz (F:=100) _ _ κ,_,ZB (F:=100) _ (⟨0,0,[]⟩,2) κ⟩
theorem mk55:FldAt 55:=.inr ⟨Zz (F:=100) _ _ κ,_,ZB (F:=100) _ (⟨0,0,[]⟩,2) κ⟩
theorem mk56:FldAt 56:=.inr ⟨Zz (F:=100) _ _ κ,_,ZB (F:=100) _ (⟨0,0,[]⟩,2) κ⟩
theorem mk57:FldAt 57:=.inr ⟨Zz (F:=100) _ _ κ,_,ZB (F:=100) _ (⟨0,0,[]⟩,2) κ⟩
theorem mk58:FldAt 58:=.inr ⟨Zz (F:=100) _ _ κ,_,ZB (F:=100) _ (⟨0,0,[]⟩,2) κ⟩
theorem mk59:FldAt 59:=.inl ⟨_,.f59,Zz (F:=100) _ _ κ,Zaa (F:=100) _ _ κ,ZB (F:=100) _ _ κ,Z8 (F:=100) _ _ κ,Z9 (F:=100) _ _ κ,Zab (F:=100) _ _ κ,Zac (F:=100) _ _ κ⟩
theorem mk60:FldAt 60:=.inr ⟨Zz (F:=100) _ _ κ,_,ZB (F:=100) _ (⟨0,0,[]⟩,2) κ⟩
theorem mk61:FldAt 61:=.inl ⟨_,.f61,Zz (F:=100) _ _ κ,Zaa (F:=100) _ _ κ,ZB (F:=100) _ _ κ,Z8 (F:=100) _ _ κ,Z9 (F:=100) _ _ κ,Zab (F:=100) _ _ κ,Zac (F:=100) _ _ κ⟩
theorem mk62:FldAt 62:=.inr ⟨Zz (F:=100) _ _ κ,_,ZB (F:=100) _ (⟨0,0,[]⟩,2) κ⟩
theorem mk63:FldAt 63:=.inr ⟨Zz (F:=100) _ _ κ,_,ZB (F:=100) _ (⟨0,0,[]⟩,2) κ⟩
theorem mk64:FldAt 64:=.inl ⟨_,.f64,Zz (F:=100) _ _ κ,Zaa (F:=100) _ _ κ,ZB (F:=100) _ _ κ,Z8 (F:=100) _ _ κ,Z9 (F:=100) _ _ κ,Zab (F:=100) _ _ κ,Zac (F:=100) _ _ κ⟩
theorem Zzb {ρ:Type} {B:Int->Option (Int ⊕ ρ)} {i n:Int} (hi:i<=n) (h:∀ k,i<=k->k<n->(∃ r,B k=some (.inr r))\/B k=some (.inl (k+1))) (u:∃ r,B n=some (.inr r)):∃ r,loop B i=some r:=by
 have e:∀ (d:Nat) (k:Int),k+d=n->i<=k->∃ r,loop B k=some r:=by
  intro d;induction d with
  | zero=>intro k l _;obtain rfl:k=n:= ω;obtain ⟨r,a⟩:=u;exact ⟨r,Ze a⟩
  | succ d o=>
   intro k l j;rcases h k j ω with ⟨r,a⟩|a
   ·exact ⟨r,Ze a⟩
   ·rw [ZO a];exact o (k+1) ω ω
 exact e (n-i).toNat i ω ω
theorem Zl8 {l:Nat} {n:Int} (h1:1<=n) (h:pwN 2 l*n<=1000000):l<=20:=by
 by_cases j:l<=20
 ·exact j
 ·exfalso;have a:=ZpF (p:=2) ω (m:=20) (l-20);rw [show 20+(l-20)=l by omega] at a;have e:pwN 2 20=1048576:=by decide
  have f:pwN 2 l*1<=pwN 2 l*n:=Int.mul_le_mul_of_nonneg_left h1 ω;omega
theorem Ztb {p:Int} (hp:2<=p) (e:p<=1000):∀ (d:Nat) (n:Int) (fs:List Int),n<=d->1<=n->pwN 2 fs.length*n<=1000000->∃ n' a3,loop (ZeS p) (n,fs)=some (.inl (n',a3,p+1))/\1<=n'/\n'<=n/\pwN 2 a3.length*n'<=1000000
 | 0,n,fs,h,h1,_=>by omega
 | d+1,n,fs,h,h1,f=>by
  have hl:=Zl8 h1 f;have i:=Int.tmod_eq_emod_of_nonneg (b:=p) (a:=n) ω;have l:=Int.tdiv_eq_ediv_of_nonneg (b:=p) (a:=n) ω;have a5:=Znr (p:=2) ω fs.length;by_cases hm:n%p=0
  ·have o:p*(n/p)=n:=Int.mul_ediv_cancel' (Int.dvd_of_emod_eq_zero hm);have j:0<=n/p:=Int.ediv_nonneg ω ω;have k:1<=n/p:=by
    by_cases r:n/p=0
    ·rw [r] at o;omega
    ·omega
   have x:2*(n/p)<=p*(n/p):=Int.mul_le_mul_of_nonneg_right hp j;have a7:pwN 2 (fs++[p]).length*(n/p)<=1000000:=by
    rw [List.length_append];show pwN 2 fs.length*2*(n/p)<=_;rw [Int.mul_assoc];have:pwN 2 fs.length*(2*(n/p))<=pwN 2 fs.length*n:=Int.mul_le_mul_of_nonneg_left ω ω;omega
   have s:n<=1000000:=by
    have:=Int.mul_le_mul_of_nonneg_right (a:=1) (b:=pwN 2 fs.length) (c:=n) a5 ω;omega
   obtain ⟨n',a3,u,v,y,w⟩:=Ztb hp e d (n/p) (fs++[p]) ω k a7;refine ⟨n',a3,?_,v,by omega,w⟩;rw [<-u];refine ZO ?_;have hz:n.tmod p=0:=by rw [i];exact hm
   simp (disch:=omega) only [pz,ZeS,hz,l,gApp1]
  ·have s:n<=1000000:=by
    have:=Int.mul_le_mul_of_nonneg_right (a:=1) (b:=pwN 2 fs.length) (c:=n) a5 ω;omega
   refine ⟨n,fs,Ze ?_,h1,by omega,f⟩;have hz:¬ n.tmod p=0:=by rw [i];exact hm
   simp (disch:=omega) only [pz,ZeS,hz]
theorem ZIp:∀ (d:Nat) (n:Int) (w:List Int) (p:Int),1001-p<=d->2<=p->p<=1001->1<=n->n<=1000000->pwN 2 w.length*n<=1000000->∃ r:List Int,loop Zcd (n,w,p)=some r/\r.length<=21:=by
 intro d;induction d with
 | zero=>
  intro n w p j hp a h1 k e;have hl:=Zl8 h1 e;obtain rfl:p=1001:=ω;by_cases h:1<n
  ·refine ⟨w++[n],Ze ?_,by simp;omega⟩;simp (disch:=omega) only [pz,Zcd,gApp1]
  ·refine ⟨w,Ze ?_,by omega⟩;simp (disch:=omega) only [pz,Zcd]
 | succ d ih=>
  intro n w p j hp a h1 k e;have hl:=Zl8 h1 e;have a6:0<=p*p/\p*p<=1002001:=by
   refine ⟨Int.mul_nonneg ω ω,?_⟩;have:=Int.mul_le_mul a a ω ω;omega
  by_cases u:p*p<=n
  ·have f:p<=1000:=by
    by_cases h:p<=1000
    ·exact h
    ·have:(1001:Int)*1001<=p*p:=Int.mul_le_mul ω ω ω ω;omega
   obtain ⟨n',x,l,o,v,s⟩:=Ztb hp f n.toNat n w ω h1 e;obtain ⟨r,hr,i⟩:=ih n' x (p+1) ω ω ω o ω s;refine ⟨r,?_,i⟩;rw [<-hr];refine ZO ?_;simp (disch:=omega) only [pz,Zcd,l]
  ·by_cases h:1<n
   ·refine ⟨w++[n],Ze ?_,by simp;omega⟩;simp (disch:=omega) only [pz,Zcd,gApp1]
   ·refine ⟨w,Ze ?_,by omega⟩;simp (disch:=omega) only [pz,Zcd]
theorem ZFp (n:Int):∃ r:List Int,ZcK n=some r/\r.length<=21:=by
 unfold ZcK Z6;by_cases h1:1<=n
 ·by_cases e:n<=1000000
  ·obtain ⟨r,h,a⟩:=ZIp 1001 n [] 2 ω ω ω h1 e (by show 1*n<=_;omega);refine ⟨r,?_,a⟩;rw [<-h];simp (disch:=omega) only [pz,]
  ·refine ⟨[],?_,by simp⟩;simp (disch:=omega) only [pz,]
 ·refine ⟨[],?_,by simp⟩;simp (disch:=omega) only [pz,]
theorem ZAY (n:Int):∃ r:Int×Int,ZcH n=some r:=by
 unfold ZcH;obtain ⟨l,j,a⟩:=ZFp n;rw [j];show ∃ r,loop (Zcb l) 0=some r;refine Zzb (n:=l.length) ω ?_ ?_
 ·intro k e k1;by_cases h:ix l k=ix l 0
  ·refine .inr ?_;simp (disch:=omega) only [pz,Zcb,h]
  ·refine .inl ⟨(0,0),?_⟩;simp (disch:=omega) only [pz,Zcb,h]
 ·by_cases h:l.length=0
  ·refine ⟨(0,0),?_⟩;simp (disch:=omega) only [pz,Zcb]
  ·refine ⟨(ix l 0,l.length),?_⟩;simp (disch:=omega) only [pz,Zcb,ZZ]
theorem Znh (q:Int):FldAt q:=by
 by_cases h:2<=q/\q<=64
 ·obtain ⟨h1,a⟩:=h;obtain ⟨n,rfl⟩:∃ n:Nat,q=(n:Int):=⟨q.toNat,by omega⟩
  have j:n<65:=ω;have i:2<=n:=ω;clear h1 a
  revert n
  have k:∀ n:Nat,n<65->2<=n->FldAt (n:Int):=by
   intro n h1 a
   match n,h1,a with
   | 0,_,h=>omega
   | 1,_,h=>omega
   | 2,_,_=>exact mk2
   | 3,_,_=>exact mk3
   | 4,_,_=>exact mk4
   | 5,_,_=>exact mk5
   | 6,_,_=>exact mk6
   | 7,_,_=>exact mk7
   | 8,_,_=>exact mk8
   | 9,_,_=>exact mk9
   | 10,_,_=>exact mk10
   | 11,_,_=>exact mk11
   | 12,_,_=>exact mk12
   | 13,_,_=>exact mk13
   | 14,_,_=>exact mk14
   | 15,_,_=>exact mk15
   | 16,_,_=>exact mk16
   | 17,_,_=>exact mk17
   | 18,_,_=>exact mk18
   | 19,_,_=>exact mk19
   | 20,_,_=>exact mk20
   | 21,_,_=>exact mk21
   | 22,_,_=>exact mk22
   | 23,_,_=>exact mk23
   | 24,_,_=>exact mk24
   | 25,_,_=>exact mk25
   | 26,_,_=>exact mk26
   | 27,_,_=>exact mk27
   | 28,_,_=>exact mk28
   | 29,_,_=>exact mk29
   | 30,_,_=>exact mk30
   | 31,_,_=>exact mk31
   | 32,_,_=>exact mk32
   | 33,_,_=>exact mk33
   | 34,_,_=>exact mk34
   | 35,_,_=>exact mk35
   | 36,_,_=>exact mk36
   | 37,_,_=>exact mk37
   | 38,_,_=>exact mk38
   | 39,_,_=>exact mk39
   | 40,_,_=>exact mk40
   | 41,_,_=>exact mk41
   | 42,_,_=>exact mk42
   | 43,_,_=>exact mk43
   | 44,_,_=>exact mk44
   | 45,_,_=>exact mk45
   | 46,_,_=>exact mk46
   | 47,_,_=>exact mk47
   | 48,_,_=>exact mk48
   | 49,_,_=>exact mk49
   | 50,_,_=>exact mk50
   | 51,_,_=>exact mk51
   | 52,_,_=>exact mk52
   | 53,_,_=>exact mk53
   | 54,_,_=>exact mk54
   | 55,_,_=>exact mk55
   | 56,_,_=>exact mk56
   | 57,_,_=>exact mk57
   | 58,_,_=>exact mk58
   | 59,_,_=>exact mk59
   | 60,_,_=>exact mk60
   | 61,_,_=>exact mk61
   | 62,_,_=>exact mk62
   | 63,_,_=>exact mk63
   | 64,_,_=>exact mk64
   | n+65,h,_=>omega
  exact k
 ·refine .inr ⟨?_,?_⟩
  ·unfold Zcj Zak;by_cases h1:2<=q
   ·simp (disch:=omega) only [pz,]
   ·simp (disch:=omega) only [pz,]
  ·obtain ⟨r,l⟩:=ZAY q;by_cases h1:64<q
   ·refine ⟨2,?_⟩;unfold ZbM;rw [l];by_cases f:r.1=0
    ·simp (disch:=omega) only [pz,f]
    ·simp (disch:=omega) only [pz,f]
   ·have hz:ZcH q=some (0,0):=by
     by_cases a:1<=q
     ·obtain rfl:q=1:=ω;have:ZbM 1=some (⟨0,0,[]⟩,2):=ZB (F:=100) _ _ κ;exact ZtE (F:=100) _ _ κ
     ·unfold ZcH ZcK Z6;have e:loop (Zcb []) 0=some (0,0):=by
       refine Ze ?_;rfl
      simp (disch:=omega) only [pz,e]
    refine ⟨2,?_⟩;unfold ZbM;rw [hz];rfl
def Tb (q:Int) (g:Int->Int) (b:Int):List Int:=tabl q fun j=>if j<b then g j else 0
theorem Zmc {q b:Int} {g:Int->Int} (a:0<=b) (h1:b<q):(Tb q g b).set b.toNat (g b)=Tb q g (b+1):=by
 apply Zav a h1
 ·intro j e f h;by_cases k:j<b
  ·rw [if_pos k,if_pos ω]
  ·rw [if_neg k,if_neg ω]
 ·rw [if_pos ω]
theorem Zmu {q:Int} {g:Int->Int}:Tb q g 0=List.replicate q.toNat 0:=by
 rw [Zn1];exact Z2 fun j a e=>by rw [if_neg ω]
theorem ZxB {q:Int} {g:Int->Int}:Tb q g q=tabl q g:=Z2 fun j e a=>by rw [if_pos a]
theorem Zke {q b:Int} {g:Int->Int}:(Tb q g b).length=q.toNat:=ZA
def iv (q:Int) (e:List Int) (a b:Int):List Int:=tabl q fun i=>if 1<=i/\(i<a\/(i=a/\ix e a<b)) then ix e i else 0
def tabs (f:Zb) (q:Int) (e:List Int):Z7:=
 ⟨q,tabl q fun a=>tabl q fun b=>sumA f a b 1,tabl q fun a=>tabl q fun b=>sumA f a b (f.Prime-1),tabl q fun a=>tabl q fun b=>mulA f a b,tabl q fun i=>if 1<=i then ix e i else 0⟩
theorem Zyh {q a b:Int} {e:List Int}:(iv q e a b).length=q.toNat:=ZA
theorem ZA7 {f:Zb} {q:Int} {a3:List Int} (hF:Ff f q a3) {a:Int} (a0:0<=a) (a1:a<q) {A S M:List (List Int)} (hA:(A.length:Int)=a) (hS:(S.length:Int)=a) (hM:(M.length:Int)=a):
  loop (ZeP f q a A S M) (0,iv q a3 a 0,List.replicate q.toNat 0,List.replicate q.toNat 0,List.replicate q.toNat 0)=some (.inl (a+1,A++[tabl q fun b=>sumA f a b 1],S++[tabl q fun b=>sumA f a b (f.Prime-1)],M++[tabl q fun b=>mulA f a b],iv q a3 (a+1) 0)):=by
 have a9:=hF.q2;have a7:=hF.q64;have ac:=ZG (B:=ZeP f q a A S M) (fun b=>(b,iv q a3 a b,Tb q (fun b=>sumA f a b 1) b,Tb q (fun b=>sumA f a b (f.Prime-1)) b,Tb q (fun b=>mulA f a b) b)) (i:=0) (n:=q) ω fun b e k=>by
  have c1:=ZtB hF.fd (a:=a) (b:=b) (c:=1) (s:=1) a0 ω e ω (.inl ⟨rfl,rfl⟩);have c2:=ZtB hF.fd (a:=a) (b:=b) (c:=f.Prime-1) (s:=-1) a0 ω e ω (.inr ⟨rfl,rfl⟩);have o:=ZHe hF.fd (a:=a) (b:=b) a0 ω e ω;have r:=Zmc (q:=q) (b:=b) (g:=fun b=>sumA f a b 1) e k;have u:=Zmc (q:=q) (b:=b) (g:=fun b=>sumA f a b (f.Prime-1)) e k;have v:=Zmc (q:=q) (b:=b) (g:=fun b=>mulA f a b) e k;have l1:(Tb q (fun b=>sumA f a b 1) b).length=q.toNat:=Zke;have l2:(Tb q (fun b=>sumA f a b (f.Prime-1)) b).length=q.toNat:=Zke;have w:(Tb q (fun b=>mulA f a b) b).length=q.toNat:=Zke;have x:(Tb q (fun b=>mulA f a b) (b+1)).length=q.toNat:=Zke;have y:(iv q a3 a b).length=q.toNat:=Zyh;have x3:ix (Tb q (fun b=>mulA f a b) (b+1)) b=mulA f a b:=by
   unfold Tb;rw [ZJ e k,if_pos ω]
  have hI:=hF.inv2 a b a0 a1 e k;by_cases hm:mulA f a b=1
  ·have hb:=hI.1 hm;have a2:1<=a:=by
    by_cases h:a=0
    ·subst h;rw [hF.z1 b e k] at hm;omega
    ·omega
   have l:(iv q a3 a b).set a.toNat b=iv q a3 a (b+1):=by
    apply Zav a0 a1
    ·intro j j0 j1 j2;by_cases hj:1<=j/\(j<a\/(j=a/\ix a3 a<b))
     ·rw [if_pos hj,if_pos ω]
     ·rw [if_neg hj,if_neg ω]
    ·rw [if_pos ω,hb]
   simp (disch:=omega) only [pz,ZeP,c1,c2,o,l1,l2,w,x,y,r,u,v,x3,l]
  ·have hb:¬ b=ix a3 a:=fun h=>hm (hI.2 h);have l:iv q a3 a b=iv q a3 a (b+1):=by
    refine Z2 fun j j0 j1=>?_;by_cases hj:1<=j/\(j<a\/(j=a/\ix a3 a<b))
    ·rw [if_pos hj,if_pos ω]
    ·rw [if_neg hj,if_neg ω]
   rw [l];simp (disch:=omega) only [pz,ZeP,c1,c2,o,l1,l2,w,x,y,r,u,v,x3]
 have e0:((0:Int),iv q a3 a 0,List.replicate q.toNat (0:Int),List.replicate q.toNat (0:Int),List.replicate q.toNat (0:Int))=(fun b=>(b,iv q a3 a b,Tb q (fun b=>sumA f a b 1) b,Tb q (fun b=>sumA f a b (f.Prime-1)) b,Tb q (fun b=>mulA f a b) b)) 0:=by
  show _=((0:Int),iv q a3 a 0,Tb q _ 0,Tb q _ 0,Tb q _ 0);rw [Zmu,Zmu,Zmu]
 rw [e0,ac];refine Ze ?_;have l:iv q a3 a q=iv q a3 (a+1) 0:=by
  refine Z2 fun j j0 j1=>?_;by_cases hj:1<=j/\j<a+1
  ·by_cases h:j=a
   ·have:=hF.inv1 a ω a1;rw [if_pos ω,if_pos ω]
   ·rw [if_pos ω,if_pos ω]
  ·by_cases h:j=a+1
   ·by_cases h':a+1<q
    ·have:=hF.inv1 (a+1) ω h';rw [if_neg ω,if_neg ω]
    ·omega
   ·rw [if_neg ω,if_neg ω]
 simp only [ZxB,l];simp (disch:=omega) only [pz,ZeP,Zoq,gApp1]
theorem ZyM {f:Zb} {q:Int} {u:List Int} (w:Ff f q u) (hs:Zb8 f=some q):Zhc f=some (tabs f q u):=by
 have s:=w.q2;have e:=w.q64;unfold Zhc;rw [show Zb.mk f.Prime f.Degree f.Poly=f from rfl,hs];simp (disch:=omega) only [pz,ZaF];have ei:List.replicate q.toNat (0:Int)=iv q u 0 0:=by
  rw [Zn1];exact Z2 fun j k l=>by
   by_cases h:j=0
   ·rw [if_neg ω]
   ·rw [if_neg ω]
 have x:=ZG (B:=Zf4 f q) (fun a=>(a,tabl a fun a=>tabl q fun b=>sumA f a b 1,tabl a fun a=>tabl q fun b=>sumA f a b (f.Prime-1),tabl a fun a=>tabl q fun b=>mulA f a b,iv q u a 0)) (i:=0) (n:=q) ω fun a a0 a1=>by
  have:=ZA7 w a0 a1 (A:=tabl a fun a=>tabl q fun b=>sumA f a b 1) (S:=tabl a fun a=>tabl q fun b=>sumA f a b (f.Prime-1)) (M:=tabl a fun a=>tabl q fun b=>mulA f a b) (by rw [ZA];omega) (by rw [ZA];omega) (by rw [ZA];omega);simp (disch:=omega) only [pz,Zf4,ZaF,this,Zcy]
 have o:((0:Int),([]:List (List Int)),([]:List (List Int)),([]:List (List Int)),List.replicate q.toNat (0:Int))=(fun a=>(a,tabl a fun a=>tabl q fun b=>sumA f a b 1,tabl a fun a=>tabl q fun b=>sumA f a b (f.Prime-1),tabl a fun a=>tabl q fun b=>mulA f a b,iv q u a 0)) 0:=by
  rw [ei];rfl
 rw [o,x];refine Ze ?_;have r:iv q u q 0=tabl q fun i=>if 1<=i then ix u i else 0:=by
  refine Z2 fun j k l=>?_;by_cases h:1<=j
  ·rw [if_pos ω,if_pos h]
  ·rw [if_neg ω,if_neg h]
 simp (disch:=omega) only [pz,Zf4,r];rfl
structure Mat (q w:Int) (xs:List (List Int)):Prop where
 len:∀ i,0<=i->i<(xs.length:Int)->((ix xs i).length:Int)=w
 rng:∀ i,0<=i->i<(xs.length:Int)->In q (ix xs i)
 n:(xs.length:Int)<=64
 w1:w<=64
def scl (f:Zb) (row:List Int) (c:Int):List Int:=tabl row.length fun t=>mulA f (ix row t) c
def less (f:Zb) (v w:List Int) (c:Int):List Int:=tabl v.length fun t=>sumA f (ix v t) (mulA f (ix w t) c) (f.Prime-1)
def elim (f:Zb) (c r:Int) (row:List Int) (a:List (List Int)):List (List Int):=tabl a.length fun j=>if j=r then row else less f (ix a j) row (ix (ix a j) c)
theorem Zw9 {f:Zb} {q:Int} {w:List Int} (x:Ff f q w) {e:Int} (j:1<=e) (h1:e<q):ZkB f e=some (ix w e):=by
 have k:=x.q64;obtain ⟨l,o⟩:=x.inv1 e j h1;unfold ZkB;have a4:=ZG (B:=ZjD f e) (fun b=>b) (i:=1) (n:=ix w e) ω fun b r s=>by
  have hM:=Zfz x.fd (a:=e) (b:=b) ω ω ω ω;have hI:=x.inv2 e b ω h1 ω ω;have u:¬ mulA f e b=1:=fun h=>by have:=hI.1 h;omega
  simp (disch:=omega) only [pz,ZjD,hM]
 rw [a4];refine Ze ?_;have hM:=Zfz x.fd (a:=e) (b:=ix w e) ω ω ω ω;have hI:=(x.inv2 e (ix w e) ω h1 ω ω).2 rfl;simp (disch:=omega) only [pz,ZjD,hM]
theorem ZFX {f:Zb} {q:Int} {w:List Int} (hF:Ff f q w) {row:List Int} {c:Int} (hr:In q row) (u:(row.length:Int)<=64) (k:0<=c) (c1:c<q):ZiR f row c=some (scl f row c):=by
 have l:=hF.q64;unfold ZiR;have x:=ZG (B:=Zig f row c) (fun t=>(tabl t fun t=>mulA f (ix row t) c,t)) (i:=0) (n:=row.length) ω fun t e h=>by
  obtain ⟨o,r⟩:=hr t e h;have hM:=Zfz hF.fd (a:=ix row t) (b:=c) ω ω ω ω;have u:(tabl t fun t=>mulA f (ix row t) c).length=t.toNat:=ZA;simp (disch:=omega) only [pz,Zig,hM,gApp1,u,Zcy]
 have j:(([]:List Int),(0:Int))=(fun t=>(tabl t fun t=>mulA f (ix row t) c,t)) 0:=rfl;rw [j,x];refine Ze ?_;simp (disch:=omega) only [pz,Zig];rfl
theorem Ztk {f:Zb} {q:Int} {a4:List Int} (hF:Ff f q a4) {v w:List Int} {c:Int} (h:In q v) (hw:In q w) (hl:(v.length:Int)<=64) (he:w.length=v.length) (o:0<=c) (c1:c<q):ZgV f v w c=some (less f v w c):=by
 have r:=hF.q64;have hp:=hF.fd.p2;have j:=hF.fd.p64;unfold ZgV;have a5:=ZG (B:=Zj5 f v w c) (fun t=>(tabl t fun t=>sumA f (ix v t) (mulA f (ix w t) c) (f.Prime-1),t)) (i:=0) (n:=v.length) ω fun t e k=>by
  obtain ⟨s,u⟩:=h t e k;obtain ⟨x,y⟩:=hw t e ω;have hM:=Zfz hF.fd (a:=ix w t) (b:=c) ω ω ω ω;obtain ⟨g5,g6⟩:=ZcO hF.fd hF.pw (ix w t) c;have hS:=Zqv hF.fd (a:=ix v t) (b:=mulA f (ix w t) c) (c:=f.Prime-1) ω ω ω ω ω ω;have hl:(tabl t fun t=>sumA f (ix v t) (mulA f (ix w t) c) (f.Prime-1)).length=t.toNat:=ZA;simp (disch:=omega) only [pz,Zj5,hM,hS,gApp1,hl,Zcy]
 have l:(([]:List Int),(0:Int))=(fun t=>(tabl t fun t=>sumA f (ix v t) (mulA f (ix w t) c) (f.Prime-1),t)) 0:=rfl;rw [l,a5];refine Ze ?_;simp (disch:=omega) only [pz,Zj5];rfl
theorem Zjh {f:Zb} {row:List Int} {c:Int}:(scl f row c).length=row.length:=by unfold scl;rw [ZA];omega
theorem Zou {f:Zb} {v w:List Int} {c:Int}:(less f v w c).length=v.length:=by unfold less;rw [ZA];omega
theorem Zmf {f:Zb} {q:Int} {h:List Int} (e:Ff f q h) {row:List Int} {c:Int}:In q (scl f row c):=fun i a h1=>by
 rw [Zjh] at h1;unfold scl;rw [ZJ a h1];exact ZcO e.fd e.pw _ _
theorem ZqC {f:Zb} {q:Int} {h:List Int} (e:Ff f q h) {v w:List Int} {c:Int}:In q (less f v w c):=fun i a h1=>by
 rw [Zou] at h1;unfold less;rw [ZJ a h1];exact Zip e.fd e.pw _ _ _
theorem ZeQ {f:Zb} {c r:Int} {row:List Int} {a:List (List Int)}:(elim f c r row a).length=a.length:=by unfold elim;rw [ZA];omega
theorem Mat.elim {f:Zb} {q w:Int} {j:List Int} (l:Ff f q j) {c r:Int} {row:List Int} {h:List (List Int)} (e:Mat q w h) (o:In q row) (k:(row.length:Int)=w):Mat q w (elim f c r row h):=by
 refine ⟨fun i a h1=>?_,fun i a h1=>?_,by rw [ZeQ];exact e.n,e.w1⟩
 ·rw [ZeQ] at h1;unfold Proofs.YtahnjnfpjcfklaaGreatDoor.elim;rw [ZJ a h1];split
  ·exact k
  ·rw [Zou];exact e.len i a h1
 ·rw [ZeQ] at h1;unfold Proofs.YtahnjnfpjcfklaaGreatDoor.elim;rw [ZJ a h1];split
  ·exact o
  ·exact ZqC l
theorem Mat.set {q w:Int} {xs:List (List Int)} {i:Int} {row:List Int} (h:Mat q w xs) (k:0<=i) (o:In q row) (l:(row.length:Int)=w):Mat q w (xs.set i.toNat row):=by
 refine ⟨fun j f a=>?_,fun j f a=>?_,by rw [List.length_set];exact h.n,h.w1⟩<;>rw [List.length_set] at a
 ·by_cases e:i=j
  ·subst e;rw [ZaR k a];exact l
  ·rw [Zbu k f e];exact h.len j f a
 ·by_cases e:i=j
  ·subst e;rw [ZaR k a];exact o
  ·rw [Zbu k f e];exact h.rng j f a
theorem ZDl {f:Zb} {q w:Int} {a6:List Int} (hF:Ff f q a6) {piv:List Int} {c i:Int} {xs:List (List Int)} (a:Mat q w xs) (s:0<=c) (a7:c<w) (a8:(piv.length:Int)<=i) (u:i<xs.length) (hp:¬ ix (ix xs i) c=0):
  ZaE f piv c xs i=some (.inl (piv++[c],c+1,elim f c piv.length (scl f (ix xs i) (ix a6 (ix (ix xs i) c))) ((xs.set i.toNat (ix xs piv.length)).set piv.length (scl f (ix xs i) (ix a6 (ix (ix xs i) c)))))):=by
 have hq:=hF.q64;have hn:=a.n;have hw:=a.w1;have ah:=a.len i ω u;have ae:=a.rng i ω u;obtain ⟨y,k⟩:=ae c s ω;obtain ⟨v0,v1⟩:=hF.inv1 (ix (ix xs i) c) ω k;have hI:=Zw9 hF (e:=ix (ix xs i) c) ω k;have hS:=ZFX hF (row:=ix xs i) (c:=ix a6 (ix (ix xs i) c)) ae ω ω v1;have ax:(xs.set i.toNat (ix xs piv.length)).length=xs.length:=List.length_set;simp (disch:=omega) only [pz,ZaE,hI,hS];generalize aa:scl f (ix xs i) (ix a6 (ix (ix xs i) c))=row;have ak:(row.length:Int)=w:=by rw [<-aa,Zjh];exact ah
 have ab:In q row:=by rw [<-aa];exact Zmf hF
 have hy:Mat q w ((xs.set i.toNat (ix xs piv.length)).set piv.length row):=(a.set ω (a.rng _ ω ω) (a.len _ ω ω)).set (i:=(piv.length:Int)) ω ab ak;have ac:ix ((xs.set i.toNat (ix xs piv.length)).set piv.length row) (piv.length:Int)=row:=ZaR (i:=(piv.length:Int)) ω (by rw [List.length_set];omega);have ai:((xs.set i.toNat (ix xs piv.length)).set piv.length row).length=xs.length:=by rw [List.length_set,List.length_set]
 generalize ((xs.set i.toNat (ix xs piv.length)).set piv.length row)=ys at hy ac ai ⊢;have aj:=ZG (B:=ZhB f piv c row) (fun j=>(j,tabl ys.length fun t=>if t<j then (if t=piv.length then row else less f (ix ys t) row (ix (ix ys t) c)) else ix ys t)) (i:=0) (n:=ys.length) ω fun j l o=>by
  have a2:(tabl ys.length fun t=>if t<j then (if t=piv.length then row else less f (ix ys t) row (ix (ix ys t) c)) else ix ys t).length=ys.length:=by rw [ZA];omega
  have a3:ix (tabl ys.length fun t=>if t<j then (if t=piv.length then row else less f (ix ys t) row (ix (ix ys t) c)) else ix ys t) j=ix ys j:=by rw [ZJ l o,if_neg ω]
  by_cases hj:j=piv.length
  ·have hs:(tabl ys.length fun t=>if t<j then (if t=piv.length then row else less f (ix ys t) row (ix (ix ys t) c)) else ix ys t)=tabl ys.length fun t=>if t<j+1 then (if t=piv.length then row else less f (ix ys t) row (ix (ix ys t) c)) else ix ys t:=by
    refine Z2 fun t x r=>?_;by_cases h:t<j
    ·rw [if_pos h,if_pos (show t<j+1 by omega)]
    ·by_cases h':t=j
     ·rw [if_neg h,if_pos (show t<j+1 by omega),if_pos ω,h',hj,ac]
     ·rw [if_neg h,if_neg (show ¬ t<j+1 by omega)]
   have a4:(tabl ys.length fun t=>if t<j+1 then (if t=piv.length then row else less f (ix ys t) row (ix (ix ys t) c)) else ix ys t).length=ys.length:=by rw [ZA];omega
   simp only [hs];simp (disch:=omega) only [pz,ZhB,a4]
  ·have ay:=hy.len j l o;have ad:=hy.rng j l o;obtain ⟨d0,d1⟩:=ad c s ω;have hL:=Ztk hF (v:=ix ys j) (w:=row) (c:=ix (ix ys j) c) ad ab ω ω d0 d1;have hs:(tabl ys.length fun t=>if t<j then (if t=piv.length then row else less f (ix ys t) row (ix (ix ys t) c)) else ix ys t).set j.toNat (less f (ix ys j) row (ix (ix ys j) c))=tabl ys.length fun t=>if t<j+1 then (if t=piv.length then row else less f (ix ys t) row (ix (ix ys t) c)) else ix ys t:=by
    apply Zav l o
    ·intro t x r t2;by_cases h:t<j
     ·rw [if_pos h,if_pos (show t<j+1 by omega)]
     ·rw [if_neg h,if_neg (show ¬ t<j+1 by omega)]
    ·rw [if_pos ω,if_neg hj]
   simp (disch:=omega) only [pz,ZhB,a2,a3,hL,hs]
 have y:((0:Int),ys)=(fun j=>(j,tabl ys.length fun t=>if t<j then (if t=piv.length then row else less f (ix ys t) row (ix (ix ys t) c)) else ix ys t)) 0:=by
  show _=((0:Int),_);congr 1;refine (Zch ys).symm.trans (Z2 fun t x r=>?_);rw [if_neg ω]
 rw [y,aj];refine Ze ?_;have k:(tabl ys.length fun t=>if t<(ys.length:Int) then (if t=piv.length then row else less f (ix ys t) row (ix (ix ys t) c)) else ix ys t)=elim f c piv.length row ys:=Z2 fun t x r=>by rw [if_pos r]
 simp (disch:=omega) only [pz,ZhB,k,ZeQ,gApp1]
theorem ZaU {α:Type} [Inhabited α] {n:Int} {f:Int->α} {i:Int} (a:0<=i) (h1:i<n):gIdx (tabl n f) i=some (f i):=by
 rw [ZaZ a (by rw [ZA];omega),ZJ a h1]
theorem ZBR {f:Zb} {q:Int} {e:List Int}:(tabs f q e).qadd=tabl q fun a=>tabl q fun b=>sumA f a b 1:=rfl
theorem Zr3 {f:Zb} {q:Int} {e:List Int}:(tabs f q e).qsub=tabl q fun a=>tabl q fun b=>sumA f a b (f.Prime-1):=rfl
theorem ZpI {f:Zb} {q:Int} {e:List Int}:(tabs f q e).qmul=tabl q fun a=>tabl q fun b=>mulA f a b:=rfl
theorem Zv6 {f:Zb} {q:Int} {a:List Int}:(tabs f q a).qinv=tabl q fun i=>if 1<=i then ix a i else 0:=rfl
theorem ZH5 {f:Zb} {q:Int} {k:List Int} (j:Ff f q k) {v w c:Int} (v0:0<=v) (v1:v<q) (w0:0<=w) (w1:w<q) (a:0<=c) (c1:c<q):sumA f v (mulA f (sumA f 0 c (f.Prime-1)) w) 1=sumA f v (mulA f w c) (f.Prime-1):=by
 obtain ⟨e,h⟩:=ZcO j.fd j.pw w c;rw [j.neg c w a c1 w0 w1,j.comm c w a c1 w0 w1,j.sub v _ v0 v1 e h]
theorem ZC1 {f:Zb} {q:Int} {a2:List Int} (hF:Ff f q a2) {v w:List Int} {c:Int} (s:In q v) (hw:In q w) (hl:(v.length:Int)<=64) (he:w.length=v.length) (x:0<=c) (c1:c<q):
  ZeU (tabs f q a2) v w (sumA f 0 c (f.Prime-1))=some (less f v w c):=by
 have hq:=hF.q64;obtain ⟨n0,n1⟩:=Zip hF.fd hF.pw 0 c (f.Prime-1);unfold ZeU;have a4:=ZG (B:=ZdN (tabs f q a2) w (sumA f 0 c (f.Prime-1))) (fun t=>(t,tabl v.length fun u=>if u<t then sumA f (ix v u) (mulA f (ix w u) c) (f.Prime-1) else ix v u)) (i:=0) (n:=v.length) ω fun t a e=>by
  obtain ⟨k,l⟩:=s t a e;obtain ⟨o,r⟩:=hw t a ω;have a9:(tabl v.length fun u=>if u<t then sumA f (ix v u) (mulA f (ix w u) c) (f.Prime-1) else ix v u).length=v.length:=by rw [ZA];omega
  have j:ix (tabl v.length fun u=>if u<t then sumA f (ix v u) (mulA f (ix w u) c) (f.Prime-1) else ix v u) t=ix v t:=by rw [ZJ a e,if_neg ω]
  obtain ⟨y,m1⟩:=ZcO hF.fd hF.pw (sumA f 0 c (f.Prime-1)) (ix w t);have hs:(tabl v.length fun u=>if u<t then sumA f (ix v u) (mulA f (ix w u) c) (f.Prime-1) else ix v u).set t.toNat (sumA f (ix v t) (mulA f (sumA f 0 c (f.Prime-1)) (ix w t)) 1)=tabl v.length fun u=>if u<t+1 then sumA f (ix v u) (mulA f (ix w u) c) (f.Prime-1) else ix v u:=by
   apply Zav a e
   ·intro u u0 u1 u2;by_cases h:u<t
    ·rw [if_pos h,if_pos (show u<t+1 by omega)]
    ·rw [if_neg h,if_neg (show ¬ u<t+1 by omega)]
   ·rw [if_pos ω,ZH5 hF k l o r x c1]
  have i1:gIdx (tabl v.length fun u=>if u<t then sumA f (ix v u) (mulA f (ix w u) c) (f.Prime-1) else ix v u) t=some (ix v t):=by rw [ZaZ a ω,j]
  have i2:gIdx (tabs f q a2).qadd (ix v t)=some (tabl q fun b=>sumA f (ix v t) b 1):=by rw [ZBR,ZaU k l]
  have i3:gIdx (tabs f q a2).qmul (sumA f 0 c (f.Prime-1))=some (tabl q fun b=>mulA f (sumA f 0 c (f.Prime-1)) b):=by rw [ZpI,ZaU n0 n1]
  have i4:gIdx (tabl q fun b=>mulA f (sumA f 0 c (f.Prime-1)) b) (ix w t)=some (mulA f (sumA f 0 c (f.Prime-1)) (ix w t)):=ZaU o r;have i5:gIdx (tabl q fun b=>sumA f (ix v t) b 1) (mulA f (sumA f 0 c (f.Prime-1)) (ix w t))=some (sumA f (ix v t) (mulA f (sumA f 0 c (f.Prime-1)) (ix w t)) 1):=ZaU y m1;simp (disch:=omega) only [pz,ZdN,j,i2,i3,i4,i5,hs]
 have e0:((0:Int),v)=(fun t=>(t,tabl v.length fun u=>if u<t then sumA f (ix v u) (mulA f (ix w u) c) (f.Prime-1) else ix v u)) 0:=by
  show _=((0:Int),_);congr 1;refine (Zch v).symm.trans (Z2 fun t a e=>?_);rw [if_neg ω]
 rw [e0,a4];refine Ze ?_;have e1:(tabl v.length fun u=>if u<(v.length:Int) then sumA f (ix v u) (mulA f (ix w u) c) (f.Prime-1) else ix v u)=less f v w c:=Z2 fun t a e=>by rw [if_pos e]
 simp (disch:=omega) only [pz,ZdN,e1]
theorem ZxL {f:Zb} {q:Int} {u:List Int} (r:Ff f q u) {v w:List Int} (i:In q v) (x:In q w) (he:w.length=v.length):less f v w 0=v:=by
 refine Eq.trans (Z2 fun t a j=>?_) (Zch v);obtain ⟨k,l⟩:=i t a j;obtain ⟨e,h⟩:=x t a ω;have o:=r.q2;rw [r.comm _ 0 e h ω ω,r.z1 _ e h,r.z2 _ k l]
theorem ZBa {f:Zb} {q w:Int} {a3:List Int} (hF:Ff f q a3) {piv:List Int} {c d:Int} {row:List Int} {ys:List (List Int)} (hy:Mat q w ys) (s:0<=c) (a7:c<w) (hr:(piv.length:Int)<ys.length) (aq:(row.length:Int)=w) (aa:In q row) (ab:ix ys piv.length=row):
  loop (Zco (tabs f q a3) piv c d ys) (0,ys)=some (if (piv.length:Int)+1=ys.length then .inr (.inr ((elim f c piv.length row ys).take (piv.length+1),piv++[c],d)) else .inr (.inl (piv++[c],d,c+1,elim f c piv.length row ys))):=by
 have hn:=hy.n;have hw:=hy.w1;have hq:=hF.q64;have a8:=hF.q2;have af:=ZG (B:=Zco (tabs f q a3) piv c d ys) (fun j=>(j,tabl ys.length fun t=>if t<j then (if t=piv.length then row else less f (ix ys t) row (ix (ix ys t) c)) else ix ys t)) (i:=0) (n:=ys.length) ω fun j a k=>by
  have a9:(tabl ys.length fun t=>if t<j then (if t=piv.length then row else less f (ix ys t) row (ix (ix ys t) c)) else ix ys t).length=ys.length:=by rw [ZA];omega
  have r:ix (tabl ys.length fun t=>if t<j then (if t=piv.length then row else less f (ix ys t) row (ix (ix ys t) c)) else ix ys t) j=ix ys j:=by rw [ZJ a k,if_neg ω]
  have l:gIdx (tabl ys.length fun t=>if t<j then (if t=piv.length then row else less f (ix ys t) row (ix (ix ys t) c)) else ix ys t) j=some (ix ys j):=by rw [ZaZ a ω,r]
  by_cases hj:j=piv.length
  ·have hs:(tabl ys.length fun t=>if t<j then (if t=piv.length then row else less f (ix ys t) row (ix (ix ys t) c)) else ix ys t)=tabl ys.length fun t=>if t<j+1 then (if t=piv.length then row else less f (ix ys t) row (ix (ix ys t) c)) else ix ys t:=by
    refine Z2 fun t o e=>?_;by_cases h:t<j
    ·rw [if_pos h,if_pos (show t<j+1 by omega)]
    ·by_cases h':t=j
     ·rw [if_neg h,if_pos (show t<j+1 by omega),if_pos ω,h',hj,ab]
     ·rw [if_neg h,if_neg (show ¬ t<j+1 by omega)]
   simp only [hs] at l ⊢;simp (disch:=omega) only [pz,Zco,ZdM,l]
  ·have ar:=hy.len j a k;have a4:=hy.rng j a k;obtain ⟨u,x⟩:=a4 c s ω;by_cases hz:ix (ix ys j) c=0
   ·have hs:(tabl ys.length fun t=>if t<j then (if t=piv.length then row else less f (ix ys t) row (ix (ix ys t) c)) else ix ys t)=tabl ys.length fun t=>if t<j+1 then (if t=piv.length then row else less f (ix ys t) row (ix (ix ys t) c)) else ix ys t:=by
     refine Z2 fun t o e=>?_;by_cases h:t<j
     ·rw [if_pos h,if_pos (show t<j+1 by omega)]
     ·by_cases h':t=j
      ·rw [if_neg h,if_pos (show t<j+1 by omega),if_neg ω,h',hz,ZxL hF a4 aa ω]
      ·rw [if_neg h,if_neg (show ¬ t<j+1 by omega)]
    simp only [hs] at l ⊢;simp (disch:=omega) only [pz,Zco,ZdM,l]
   ·have hL:=ZC1 hF (v:=ix ys j) (w:=row) (c:=ix (ix ys j) c) a4 aa ω ω u x;have hs:(tabl ys.length fun t=>if t<j then (if t=piv.length then row else less f (ix ys t) row (ix (ix ys t) c)) else ix ys t).set j.toNat (less f (ix ys j) row (ix (ix ys j) c))=tabl ys.length fun t=>if t<j+1 then (if t=piv.length then row else less f (ix ys t) row (ix (ix ys t) c)) else ix ys t:=by
     apply Zav a k
     ·intro t o e t2;by_cases h:t<j
      ·rw [if_pos h,if_pos (show t<j+1 by omega)]
      ·rw [if_neg h,if_neg (show ¬ t<j+1 by omega)]
     ·rw [if_pos ω,if_neg hj]
    have y:ix (tabl ys.length fun t=>if t<j then (if t=piv.length then row else less f (ix ys t) row (ix (ix ys t) c)) else ix ys t) (piv.length:Int)=row:=by
     rw [ZJ ω hr];by_cases h:(piv.length:Int)<j
     ·rw [if_pos h,if_pos rfl]
     ·rw [if_neg h,ab]
    have i3:gIdx (tabs f q a3).qsub 0=some (tabl q fun b=>sumA f 0 b (f.Prime-1)):=by rw [Zr3,ZaU ω ω]
    have i4:gIdx (tabl q fun b=>sumA f 0 b (f.Prime-1)) (ix (ix ys j) c)=some (sumA f 0 (ix (ix ys j) c) (f.Prime-1)):=ZaU u x;have i5:gNe j (piv.length:Int)=some ():=by unfold gNe;rw [if_pos hj]
    have he:Z7.mk (tabs f q a3).qq (tabs f q a3).qadd (tabs f q a3).qsub (tabs f q a3).qmul (tabs f q a3).qinv=tabs f q a3:=rfl;simp (disch:=omega) only [pz,Zco,ZdM,r,y,i3,i4,i5,he,hL,hs]
 have e0:((0:Int),ys)=(fun j=>(j,tabl ys.length fun t=>if t<j then (if t=piv.length then row else less f (ix ys t) row (ix (ix ys t) c)) else ix ys t)) 0:=by
  show _=((0:Int),_);congr 1;refine (Zch ys).symm.trans (Z2 fun t o e=>?_);rw [if_neg ω]
 rw [e0,af];refine Ze ?_;have e1:(tabl ys.length fun t=>if t<(ys.length:Int) then (if t=piv.length then row else less f (ix ys t) row (ix (ix ys t) c)) else ix ys t)=elim f c piv.length row ys:=Z2 fun t o e=>by rw [if_pos e]
 have ap:(elim f c piv.length row ys).length=ys.length:=ZeQ;have ae:(piv++[c]).length=piv.length+1:=by simp
 simp only [e1];by_cases h:(piv.length:Int)+1=ys.length
 ·rw [if_pos h];have g:gSl (elim f c piv.length row ys) 0 ((piv++[c]).length:Int)=some ((elim f c piv.length row ys).take (piv.length+1)):=by
   rw [Zbk ω ω ω,ae];rfl
  simp (disch:=omega) only [pz,Zco,gApp1,Zet,g]
 ·rw [if_neg h];simp (disch:=omega) only [pz,Zco,gApp1,Zhr]
theorem ZqZ {α:Type} [Inhabited α] {xs:List α} {k:Nat}:xs.set k (ix xs (k:Int))=xs:=by
 apply Zar
 ·exact List.length_set
 ·intro i a e;rw [List.length_set] at e;by_cases h:(k:Int)=i
  ·subst h;exact ZaR (i:=(k:Int)) a e
  ·exact Zbu (i:=(k:Int)) ω a h
theorem Zus {f:Zb} {q w:Int} {a3:List Int} (hF:Ff f q a3) {piv:List Int} {c d:Int} {xs:List (List Int)} (j:Mat q w xs) (r:0<=c) (v:c<w) (hr:(piv.length:Int)<xs.length) (hp:¬ ix (ix xs piv.length) c=0) (d0:0<=d) (d1:d<q):
  Zhb (tabs f q a3) piv c d xs=some (if (piv.length:Int)+1=xs.length
   then .inr ((elim f c piv.length (scl f (ix xs piv.length) (ix a3 (ix (ix xs piv.length) c))) (xs.set piv.length (scl f (ix xs piv.length) (ix a3 (ix (ix xs piv.length) c))))).take (piv.length+1),piv++[c],mulA f d (ix (ix xs piv.length) c))
   else .inl (piv++[c],mulA f d (ix (ix xs piv.length) c),c+1,elim f c piv.length (scl f (ix xs piv.length) (ix a3 (ix (ix xs piv.length) c))) (xs.set piv.length (scl f (ix xs piv.length) (ix a3 (ix (ix xs piv.length) c)))))):=by
 have hq:=hF.q64;have hn:=j.n;have hw:=j.w1;have ad:=j.len piv.length ω hr;have a8:=j.rng piv.length ω hr;obtain ⟨o,k⟩:=a8 c r ω;obtain ⟨v0,v1⟩:=hF.inv1 (ix (ix xs piv.length) c) ω k;have i1:gIdx (tabs f q a3).qmul d=some (tabl q fun b=>mulA f d b):=by rw [ZpI,ZaU d0 d1]
 have i2:gIdx (tabl q fun b=>mulA f d b) (ix (ix xs piv.length) c)=some (mulA f d (ix (ix xs piv.length) c)):=ZaU o k;simp (disch:=omega) only [pz,Zhb,i1,i2];generalize hR:ix xs piv.length=R at *;generalize hE:ix R c=e at *;have ac:=ZG (B:=Zjb (tabs f q a3) piv c e (mulA f d e) R) (fun t=>(t,xs.set piv.length (tabl R.length fun u=>if u<t then mulA f (ix R u) (ix a3 e) else ix R u))) (i:=0) (n:=R.length) ω fun t l a=>by
  obtain ⟨x,y⟩:=a8 t l a;have a2:(tabl R.length fun u=>if u<t then mulA f (ix R u) (ix a3 e) else ix R u).length=R.length:=by rw [ZA];omega
  have s:ix (tabl R.length fun u=>if u<t then mulA f (ix R u) (ix a3 e) else ix R u) t=ix R t:=by rw [ZJ l a,if_neg ω]
  have hs:(tabl R.length fun u=>if u<t then mulA f (ix R u) (ix a3 e) else ix R u).set t.toNat (mulA f (ix a3 e) (ix R t))=tabl R.length fun u=>if u<t+1 then mulA f (ix R u) (ix a3 e) else ix R u:=by
   apply Zav l a
   ·intro u u0 u1 u2;by_cases h:u<t
    ·rw [if_pos h,if_pos (show u<t+1 by omega)]
    ·rw [if_neg h,if_neg (show ¬ u<t+1 by omega)]
   ·rw [if_pos ω,hF.comm _ _ ω v1 x y]
  generalize (tabl R.length fun u=>if u<t then mulA f (ix R u) (ix a3 e) else ix R u)=A at a2 s hs ⊢;have hA:ix (xs.set piv.length A) piv.length=A:=ZaR (i:=(piv.length:Int)) ω hr;have aq:(xs.set piv.length A).length=xs.length:=List.length_set;have i3:gIdx (tabs f q a3).qinv e=some (ix a3 e):=by rw [Zv6,ZaU o k,if_pos ω]
  have i4:gIdx (tabs f q a3).qmul (ix a3 e)=some (tabl q fun b=>mulA f (ix a3 e) b):=by rw [ZpI,ZaU ω v1]
  have i5:gIdx (tabl q fun b=>mulA f (ix a3 e) b) (ix R t)=some (mulA f (ix a3 e) (ix R t)):=ZaU x y;simp (disch:=omega) only [pz,Zjb,hA,s,i3,i4,i5,hs,List.set_set]
 have o:((0:Int),xs)=(fun t=>(t,xs.set piv.length (tabl R.length fun u=>if u<t then mulA f (ix R u) (ix a3 e) else ix R u))) 0:=by
  show _=((0:Int),xs.set piv.length _);congr 1;have:(tabl R.length fun u=>if u<0 then mulA f (ix R u) (ix a3 e) else ix R u)=R:=by
   refine Eq.trans (Z2 fun t l a=>?_) (Zch R);rw [if_neg ω]
  rw [this,<-hR,ZqZ]
 rw [o,ac];refine Ze ?_;have k:(tabl R.length fun u=>if u<(R.length:Int) then mulA f (ix R u) (ix a3 e) else ix R u)=scl f R (ix a3 e):=Z2 fun t l a=>by rw [if_pos a]
 simp only [k];have a5:((scl f R (ix a3 e)).length:Int)=w:=by rw [Zjh];exact ad
 have a4:In q (scl f R (ix a3 e)):=Zmf hF;generalize scl f R (ix a3 e)=row at a5 a4 ⊢;have hy:Mat q w (xs.set piv.length row):=j.set (i:=(piv.length:Int)) ω a4 a5;have a9:ix (xs.set piv.length row) piv.length=row:=ZaR (i:=(piv.length:Int)) ω hr;have aa:(xs.set piv.length row).length=xs.length:=List.length_set;have hL:=ZBa hF (d:=mulA f d e) hy r v ω a5 a4 a9;rw [aa] at hL;simp (disch:=omega) only [pz,Zjb];rw [hL];by_cases h:(piv.length:Int)+1=xs.length
 ·rw [if_pos h,if_pos h]
 ·rw [if_neg h,if_neg h]
theorem Zxr {f:Zb} {q w:Int} {piv:List Int} {c:Int} {xs:List (List Int)} (k:Mat q w xs) (a3:0<=c) (a4:c<w) (hr:(piv.length:Int)<=xs.length):
  ∃ i:Int,(piv.length:Int)<=i/\i<=xs.length/\(∀ j,(piv.length:Int)<=j->j<i->ix (ix xs j) c=0)/\(i<xs.length->¬ ix (ix xs i) c=0)/\ZhR f piv c xs=ZaE f piv c xs i:=by
 have hn:=k.n;have a8:∀ (d:Nat) (i:Int),i+d=xs.length->(piv.length:Int)<=i->(∀ j,(piv.length:Int)<=j->j<i->ix (ix xs j) c=0)->∃ i':Int,(piv.length:Int)<=i'/\i'<=xs.length/\(∀ j,(piv.length:Int)<=j->j<i'->ix (ix xs j) c=0)/\(i'<xs.length->¬ ix (ix xs i') c=0)/\loop (Zcw f piv c xs) i=ZaE f piv c xs i':=by
  intro d;induction d with
  | zero=>
   intro i hi a5 ha;refine ⟨i,a5,by omega,ha,fun h=>by omega,?_⟩;have hB:Zcw f piv c xs i=(ZaE f piv c xs i).map fun x=>.inr x:=by
    simp (disch:=omega) only [pz,Zcw]
   cases hk:ZaE f piv c xs i with
   | none=>
    exfalso;unfold ZaE at hk;obtain rfl:i=(xs.length:Int):=ω;have:((xs.length:Int)==(xs.length:Int))=true:=by simp
    rw [this] at hk;cases hk
   | some r=>rw [hk] at hB;exact Ze hB
  | succ d ih=>
   intro i hi a5 ha;have hl:=k.len i ω ω;by_cases h:ix (ix xs i) c=0
   ·obtain ⟨i',o,s,u,v,y⟩:=ih (i+1) ω ω fun j l j1=>by
     by_cases e:j=i
     ·rw [e];exact h
     ·exact ha j l ω
    refine ⟨i',o,s,u,v,?_⟩;rw [<-y];refine ZO ?_;simp (disch:=omega) only [pz,Zcw,h]
   ·refine ⟨i,a5,by omega,ha,fun _=>h,?_⟩;have hB:Zcw f piv c xs i=(ZaE f piv c xs i).map fun x=>.inr x:=by
     simp (disch:=omega) only [pz,Zcw,h]
    cases hk:ZaE f piv c xs i with
    | none=>
     rw [hk] at hB;cases hl:loop (Zcw f piv c xs) i with
     | none=>rfl
     | some r=>
      obtain ⟨m,hm⟩:=ZN hl;obtain ⟨_,a,_,h1,_⟩:=ZM hm;rw [hB] at h1;cases h1
    | some r=>rw [hk] at hB;exact Ze hB
 unfold ZhR;exact a8 (xs.length-piv.length) piv.length ω ω fun j l j1=>by omega
theorem ZFI {q w:Int} {piv:List Int} {c i:Int} {xs:List (List Int)} (a:Mat q w xs) (o:0<=c) (r:c<w) (hr:(piv.length:Int)<=xs.length) (s:(piv.length:Int)<=i) (u:i<=xs.length) (hz:∀ j,(piv.length:Int)<=j->j<i->ix (ix xs j) c=0) (hp:i<xs.length->¬ ix (ix xs i) c=0):
  Zhp (xs.drop piv.length) (fun f=>Zd7 f c)=some (if i<xs.length then i-piv.length else -1):=by
 have v:=a.n;unfold Zhp;have a6:((xs.drop piv.length).length:Int)=(xs.length:Int)-piv.length:=by rw [List.length_drop];omega
 have x:∀ k,0<=k->ix (xs.drop piv.length) k=ix xs (piv.length+k):=fun k l=>ZoX (i:=(piv.length:Int)) ω l;have a3:=ZG (B:=ZcC (xs.drop piv.length) (fun f=>Zd7 f c)) (fun k=>k) (i:=0) (n:=i-piv.length) ω fun k l k1=>by
  have hl:=a.len (piv.length+k) ω ω;have a2:=hz (piv.length+k) ω ω;simp (disch:=omega) only [pz,ZcC,Zd7,x,a2]
 rw [a3];refine Ze ?_;by_cases h:i<xs.length
 ·rw [if_pos h];have hl:=a.len i ω h;have a5:=hp h;have e:(piv.length:Int)+(i-piv.length)=i:=ω;simp (disch:=omega) only [pz,ZcC,Zd7,x,e]
 ·rw [if_neg h];simp (disch:=omega) only [pz,ZcC]
theorem ZsR {xs:List (List Int)} {k:Nat} (h:k<=xs.length):gSl xs 0 (k:Int)=some (xs.take k):=by
 rw [Zbk ω ω ω];simp
theorem ZCq {f:Zb} {q w:Int} {a2:List Int} (hF:Ff f q a2):∀ (n:Nat) (c:Int) (piv:List Int) (xs:List (List Int)) (d:Int),c+n=w->0<=c->(piv.length:Int)<xs.length->Mat q w xs->0<=d->d<q ->
  ∃ R a3 d',loop (Zdy f w) (piv,c,xs)=some (R,a3)/\a3.length<=R.length/\R.length=xs.length/\Mat q w R/\loop (ZbY (tabs f q a2)) (piv,d,c,xs)=some (R.take a3.length,a3,d'):=by
 intro n;induction n with
 | zero=>
  intro c piv xs d hc j hp a o r;have hn:=a.n;have hw:=a.w1;have y:=a.len 0 ω ω;refine ⟨xs,piv,d,Ze ?_,by omega,rfl,a,Ze ?_⟩
  ·simp (disch:=omega) only [pz,Zdy]
  ·simp (disch:=omega) only [pz,ZbY,Zet,ZsR]
 | succ n ih=>
  intro c piv xs d hc j hp a o r;have hn:=a.n;have hw:=a.w1;have aa:=hF.q2;have y:=a.len 0 ω ω;obtain ⟨i,i0,i1,iz,ip,hs⟩:=Zxr (f:=f) (piv:=piv) a j ω ω;have hi:=ZFI (piv:=piv) a j ω ω i0 i1 iz ip;have ae:gSl xs (piv.length:Int) (xs.length:Int)=some (xs.drop piv.length):=ZhN (lo:=(piv.length:Int)) ω ω;have hB:Zdy f w (piv,c,xs)=ZaE f piv c xs i:=by
   rw [<-hs];simp (disch:=omega) only [pz,Zdy]
  by_cases h:i<xs.length
  ·rw [if_pos h] at hi;have ad:=ip h;have ab:=ZDl hF (piv:=piv) a j (by omega:c<w) i0 h ad;rw [ab] at hB;rw [ZO hB];have al:=a.len i ω h;have ap:=a.rng i ω h;have am:=a.len piv.length ω hp;have ao:=a.rng piv.length ω hp;have ac:In q (scl f (ix xs i) (ix a2 (ix (ix xs i) c))):=Zmf hF;have a9:((scl f (ix xs i) (ix a2 (ix (ix xs i) c))).length:Int)=w:=by rw [Zjh];exact al
   obtain ⟨m0,m1⟩:=ap c j ω;have hI:∃ d',0<=d'/\d'<q/\ZbY (tabs f q a2) (piv,d,c,xs)=some (if (piv.length:Int)+1=xs.length
     then .inr ((elim f c piv.length (scl f (ix xs i) (ix a2 (ix (ix xs i) c))) ((xs.set i.toNat (ix xs piv.length)).set piv.length (scl f (ix xs i) (ix a2 (ix (ix xs i) c))))).take (piv.length+1),piv++[c],d')
     else .inl (piv++[c],d',c+1,elim f c piv.length (scl f (ix xs i) (ix a2 (ix (ix xs i) c))) ((xs.set i.toNat (ix xs piv.length)).set piv.length (scl f (ix xs i) (ix a2 (ix (ix xs i) c)))))):=by
    by_cases ah:i=piv.length
    ·subst ah;have hk:=Zus hF (piv:=piv) a j (by omega:c<w) hp ad o r;obtain ⟨k,l⟩:=ZcO hF.fd hF.pw d (ix (ix xs piv.length) c);refine ⟨_,k,l,?_⟩;rw [Int.toNat_natCast,ZqZ];rw [Int.sub_self] at hi;rw [<-hk];simp (disch:=omega) only [pz,ZbY,Zhf,ae,hi]
    ·have b0:Mat q w ((xs.set piv.length (ix xs i)).set i.toNat (ix xs piv.length)):=(a.set (i:=(piv.length:Int)) ω ap al).set ω ao am;have au:((xs.set piv.length (ix xs i)).set i.toNat (ix xs piv.length)).length=xs.length:=by rw [List.length_set,List.length_set]
     have a7:(xs.set piv.length (ix xs i)).length=xs.length:=List.length_set;have ak:ix ((xs.set piv.length (ix xs i)).set i.toNat (ix xs piv.length)) piv.length=ix xs i:=by
      rw [Zbu ω ω ah];exact ZaR (i:=(piv.length:Int)) ω hp
     have av:∀ row,((xs.set piv.length (ix xs i)).set i.toNat (ix xs piv.length)).set piv.length row=(xs.set i.toNat (ix xs piv.length)).set piv.length row:=fun row=>by
      rw [List.set_comm (ix xs i) (ix xs piv.length) (by omega:piv.length≠i.toNat),List.set_set]
     obtain ⟨n0,n1⟩:=Zip hF.fd hF.pw 0 d (f.Prime-1);have hk:=Zus hF (piv:=piv) (d:=sumA f 0 d (f.Prime-1)) b0 j (by omega:c<w) ω (by rw [ak];exact ad) n0 n1;rw [ak,au,av] at hk;obtain ⟨k,l⟩:=ZcO hF.fd hF.pw (sumA f 0 d (f.Prime-1)) (ix (ix xs i) c);refine ⟨_,k,l,?_⟩;rw [<-hk];have j1:gIdx (tabs f q a2).qsub 0=some (tabl q fun b=>sumA f 0 b (f.Prime-1)):=by rw [Zr3,ZaU ω ω]
     have j2:gIdx (tabl q fun b=>sumA f 0 b (f.Prime-1)) d=some (sumA f 0 d (f.Prime-1)):=ZaU o r;have e:(piv.length:Int)+(i-piv.length)=i:=ω;simp (disch:=omega) only [pz,ZbY,Zhf,ae,hi,e,j1,j2]
   obtain ⟨d',k,l,hI⟩:=hI;have ar:((xs.set i.toNat (ix xs piv.length)).set piv.length (scl f (ix xs i) (ix a2 (ix (ix xs i) c)))).length=xs.length:=by rw [List.length_set,List.length_set]
   have az:Mat q w ((xs.set i.toNat (ix xs piv.length)).set piv.length (scl f (ix xs i) (ix a2 (ix (ix xs i) c)))):=(a.set ω ao am).set (i:=(piv.length:Int)) ω ac a9;have ag:Mat q w (elim f c piv.length (scl f (ix xs i) (ix a2 (ix (ix xs i) c))) ((xs.set i.toNat (ix xs piv.length)).set piv.length (scl f (ix xs i) (ix a2 (ix (ix xs i) c))))):=Mat.elim hF az ac a9;have aj:(elim f c piv.length (scl f (ix xs i) (ix a2 (ix (ix xs i) c))) ((xs.set i.toNat (ix xs piv.length)).set piv.length (scl f (ix xs i) (ix a2 (ix (ix xs i) c))))).length=xs.length:=by rw [ZeQ,ar]
   generalize elim f c piv.length (scl f (ix xs i) (ix a2 (ix (ix xs i) c))) ((xs.set i.toNat (ix xs piv.length)).set piv.length (scl f (ix xs i) (ix a2 (ix (ix xs i) c))))=E at hI ag aj ⊢;have b1:(piv++[c]).length=piv.length+1:=by simp
   by_cases a8:(piv.length:Int)+1=xs.length
   ·rw [if_pos a8] at hI;refine ⟨E,piv++[c],d',Ze ?_,by omega,aj,ag,?_⟩
    ·by_cases b9:c+1<w
     ·simp (disch:=omega) only [pz,Zdy]
     ·simp (disch:=omega) only [pz,Zdy]
    ·rw [b1];exact Ze hI
   ·rw [if_neg a8] at hI;rw [ZO hI];obtain ⟨R,a3,af,s,u,g3,v,x⟩:=ih (c+1) (piv++[c]) E d' ω ω ω ag k l;exact ⟨R,a3,af,s,u,by omega,v,x⟩
  ·rw [if_neg h] at hi;have ab:ZaE f piv c xs i=some (.inl (piv,c+1,xs)):=by
    obtain rfl:i=(xs.length:Int):=ω;simp (disch:=omega) only [pz,ZaE]
   rw [ab] at hB;rw [ZO hB];have hI:ZbY (tabs f q a2) (piv,d,c,xs)=some (.inl (piv,0,c+1,xs)):=by
    simp (disch:=omega) only [pz,ZbY,Zhf,Zhr,ae,hi]
   rw [ZO hI];obtain ⟨R,a3,af,s,u,g3,v,x⟩:=ih (c+1) piv xs 0 ω ω hp a ω ω;exact ⟨R,a3,af,s,u,g3,v,x⟩
theorem Zu7 {m:List (List Int)} (hs:Sz2 m):Zfx m=some m:=by
 unfold Zfx;have h1:=hs.1;have h:=ZG (B:=Zjj m) (fun k=>(m.take k.toNat,k)) (i:=0) (n:=m.length) ω fun k a h1=>by
  have l:=Zfu (hs.2 (ix m k) (Zj a h1));have j:(m.take k.toNat).length=k.toNat:=by rw [List.length_take];omega
  simp (disch:=omega) only [pz,Zjj,l,gApp1,j,ZaC]
 have e:(([]:List (List Int)),(0:Int))=(fun k:Int=>(m.take k.toNat,k)) 0:=by simp
 rw [e,h];refine Ze ?_;have f:m.take (m.length:Int).toNat=m:=by simp
 simp (disch:=omega) only [pz,Zjj,f]
theorem ZqU {f:Zb} {q w:Int} {u:List Int} (hF:Ff f q u) {m:List (List Int)} (hs:Sz2 m) (hm:Mat q w m) (hw:0<=w) (h1:1<=(m.length:Int)):
  ∃ R piv d,Zhz f m=some R/\ZhK (tabs f q u) m=some (R,piv,d)/\R.length<=m.length/\∀ x∈R,(x.length:Int)<=1048576:=by
 have o:=hF.q2;obtain ⟨R,piv,d,h,r,s,j,k⟩:=ZCq hF w.toNat 0 [] m 1 ω ω (by simp;omega) hm ω ω;have e:=hm.len 0 ω ω;refine ⟨R.take piv.length,piv,d,?_,?_,by rw [List.length_take];omega,fun x l=>?_⟩
 ·unfold Zhz Zn8;rw [Zu7 hs];simp (disch:=omega) only [pz,e,h,ZsR]
 ·unfold ZhK;rw [Zan hs];exact k
 ·obtain ⟨i,a,b,rfl⟩:=ZL (List.mem_of_mem_take l);have:=j.len i a b;have:=hm.w1;omega
theorem Zgi {α:Type} {R:α->α->Prop} (asym:∀ x y,R x y->¬ R y x):∀ {a b:List α},a.Pairwise R->b.Pairwise R->(∀ x,x∈a↔x∈b)->a=b
 | [],[],_,_,_=>rfl
 | [],y::b,_,_,h=>by have:=(h y).2 (List.mem_cons_self ..);simp at this
 | x::a,[],_,_,h=>by have:=(h x).1 (List.mem_cons_self ..);simp at this
 | x::a,y::b,ha,f,h=>by
  rw [List.pairwise_cons] at ha f;have j:∀ x,¬ R x x:=fun x i=>asym x x i i;have e:x=y:=by
   rcases List.mem_cons.1 ((h x).1 (List.mem_cons_self ..)) with e|i
   ·exact e
   ·rcases List.mem_cons.1 ((h y).2 (List.mem_cons_self ..)) with e|hy
    ·exact e.symm
    ·exact absurd (ha.1 y hy) (asym _ _ (f.1 x i))
  subst e;rw [Zgi asym ha.2 f.2 fun z=>?_];constructor
  ·intro hz;rcases List.mem_cons.1 ((h z).1 (List.mem_cons_of_mem _ hz)) with e|hz'
   ·subst e;exact absurd (ha.1 z hz) (j z)
   ·exact hz'
  ·intro hz;rcases List.mem_cons.1 ((h z).2 (List.mem_cons_of_mem _ hz)) with e|hz'
   ·subst e;exact absurd (f.1 z hz) (j z)
   ·exact hz'
def insL {α:Type} (c:α->Int) (y:α):List α->List α
 | []=>[y]
 | x::r=>if c x<0 then x::insL c y r else if c x=0 then x::r else y::x::r
theorem Zec {α:Type} {c:α->Int} {y:α} (e:∀ x,c x=0->x=y):∀ {l:List α} {z:α},z∈insL c y l↔z=y\/z∈l
 | [],z=>by simp [insL]
 | x::r,z=>by
  rw [insL];by_cases h1:c x<0
  ·rw [if_pos h1,List.mem_cons,Zec e,List.mem_cons];constructor
   ·rintro (h|h|h)
    ·exact .inr (.inl h)
    ·exact .inl h
    ·exact .inr (.inr h)
   ·rintro (h|h|h)
    ·exact .inr (.inl h)
    ·exact .inl h
    ·exact .inr (.inr h)
  ·rw [if_neg h1];by_cases a:c x=0
   ·rw [if_pos a];have:=e x a;subst this;constructor
    ·exact .inr
    ·rintro (h|h)
     ·rw [h];exact List.mem_cons_self ..
     ·exact h
   ·rw [if_neg a,List.mem_cons]
theorem ZgA {α:Type} {R:α->α->Prop} {c:α->Int} {y:α} (i:∀ x,c x=0->x=y) (h1:∀ x,c x<0->R x y) (a:∀ x,0<c x->R y x) (k:∀ x y z,R x y->R y z->R x z):∀ {l:List α},l.Pairwise R->(insL c y l).Pairwise R
 | [],_=>by simp [insL]
 | x::r,h=>by
  rw [List.pairwise_cons] at h;rw [insL];by_cases f:c x<0
  ·rw [if_pos f,List.pairwise_cons];refine ⟨fun z hz=>?_,ZgA i h1 a k h.2⟩;rcases (Zec i).1 hz with e|hz
   ·rw [e];exact h1 x f
   ·exact h.1 z hz
  ·rw [if_neg f];by_cases j:c x=0
   ·rw [if_pos j,List.pairwise_cons];exact h
   ·rw [if_neg j,List.pairwise_cons,List.pairwise_cons];refine ⟨fun z hz=>?_,h⟩;rcases List.mem_cons.1 hz with e|hz
    ·rw [e];exact a x ω
    ·exact k _ _ _ (a x ω) (h.1 z hz)
theorem ZgD {α:Type} (c:α->Int) (y:α):∀ (l:List α),(insL c y l).length<=l.length+1
 | []=>by simp [insL]
 | x::r=>by
  have:=ZgD c y r;rw [insL];split
  ·simp only [List.length_cons];omega
  ·split
   ·simp
   ·simp
theorem ZsE {l:List Int} {n:Int} (x:(l.length:Int)<=1000000):∀ (t:List Int) (i:Int) (r:List Int),0<=i->l.drop i.toNat=t->i<=(l.length:Int)->(r.length:Int)<=i+1->loop (ZaD l n) (r,true,i)=some (r++t):=by
 intro t;induction t with
 | nil=>
  intro i r f e o w;have hi:i=(l.length:Int):=by have:=congrArg List.length e;simp at this;omega
  rw [List.append_nil];refine Ze ?_;simp (disch:=omega) only [pz,ZaD]
 | cons a t u=>
  intro i r f e o w;have h:i<(l.length:Int):=by have:=congrArg List.length e;simp at this;omega
  have j:=Za7 (xs:=l) f h;rw [e] at j;obtain ⟨rfl,k⟩:=List.cons.inj j;have hB:ZaD l n (r,true,i)=some (.inl (r++[ix l i],true,i+1)):=by
   simp (disch:=omega) only [pz,ZaD,Zcl,Zby]
  rw [ZO hB,u (i+1) _ ω k.symm ω (by rw [List.length_append,List.length_singleton];omega),List.append_assoc];rfl
theorem Zys {l:List Int} {n:Int} (w:(l.length:Int)<=1000000):∀ (t:List Int) (i:Int) (u:List Int),0<=i->l.drop i.toNat=t->i<=(l.length:Int)->(u.length:Int)<=i->loop (ZaD l n) (u,false,i)=some (u++insL (fun x=>x-n) n t):=by
 intro t;induction t with
 | nil=>
  intro i u h f r ho;have hi:i=(l.length:Int):=by have:=congrArg List.length f;simp at this;omega
  refine Ze ?_;simp (disch:=omega) only [pz,ZaD,insL]
 | cons a t ih=>
  intro i u h f r ho;have j:i<(l.length:Int):=by have:=congrArg List.length f;simp at this;omega
  have k:=Za7 (xs:=l) h j;rw [f] at k;obtain ⟨rfl,e⟩:=List.cons.inj k;rw [insL];by_cases h1:ix l i-n<0
  ·rw [if_pos h1];have hB:ZaD l n (u,false,i)=some (.inl (u++[ix l i],false,i+1)):=by
    simp (disch:=omega) only [pz,ZaD,Zcl,Zby]
   rw [ZO hB,ih (i+1) _ ω e.symm ω (by rw [List.length_append,List.length_singleton];omega),List.append_assoc];rfl
  ·rw [if_neg h1];by_cases o:ix l i-n=0
   ·rw [if_pos o];have hB:ZaD l n (u,false,i)=some (.inl (u++[ix l i],true,i+1)):=by
     simp (disch:=omega) only [pz,ZaD,Zcl,Zby]
    rw [ZO hB,ZsE w t (i+1) _ ω e.symm ω (by rw [List.length_append,List.length_singleton];omega),List.append_assoc];rfl
   ·rw [if_neg o];have hB:ZaD l n (u,false,i)=some (.inl (u++[n]++[ix l i],true,i+1)):=by
     have s:(u++[n]).length=u.length+1:=by simp
     simp (disch:=omega) only [pz,ZaD,Zcl,Zby]
    rw [ZO hB,ZsE w t (i+1) _ ω e.symm ω (by rw [List.length_append,List.length_append,List.length_singleton,List.length_singleton];omega),List.append_assoc,List.append_assoc];rfl
theorem Zqb {l:List Int} {n:Int} (a:(l.length:Int)<=1000000):Za5 l n=some (insL (fun x=>x-n) n l):=Zys a l 0 [] (Int.le_refl 0) rfl ω (by simp)
def imgS (p s:List Int):List Int:=sortI (s.map fun x=>ix p x)
theorem Zlj {p s:List Int} {z:Int}:z∈imgS p s↔∃ x∈s,ix p x=z:=by
 unfold imgS;rw [(ZaV _).mem_iff,List.mem_map]
theorem ZfC (p s:List Int):(imgS p s).length=s.length:=by
 unfold imgS;rw [(ZaV _).length_eq,List.length_map]
structure SetIn (s:List Int) (n:Int):Prop where
 srt:s.Pairwise (·<·)
 rng:∀ x∈s,0<=x/\x<n
theorem ZAd {p s:List Int} {n:Int} (hp:Vc.Perm p n) (hs:SetIn s n):(s.map fun x=>ix p x).Nodup:=by
 refine List.pairwise_map.2 (hs.srt.imp_of_mem fun {a b} j f l e=>?_);have r:=hs.rng a j;have u:=hs.rng b f;have o:=hp.len;have h:=ZY (xs:=p) (i:=a) ω ω;have k:=ZY (xs:=p) (i:=b) ω ω;rw [e] at h;have:=(List.getElem?_inj ω hp.nd).1 (h.trans k.symm);omega
theorem Zro {p s:List Int} {n:Int} (hp:Vc.Perm p n) (hs:SetIn s n):SetIn (imgS p s) n:=by
 refine ⟨?_,fun z hz=>?_⟩
 ·have h1:=ZdV (s.map fun x=>ix p x);have e:(imgS p s).Nodup:=(ZaV _).nodup_iff.2 (ZAd hp hs);exact (h1.and e).imp fun {a b} h=>by have:=h.1;have:=h.2;omega
 ·obtain ⟨x,f,rfl⟩:=Zlj.1 hz;have:=hs.rng x f;have j:=hp.len;exact hp.rng _ (Zj ω ω)
theorem ZGx {p s:List Int} {n:Int} (hp:Vc.Perm p n) (hs:SetIn s n) (hl:(s.length:Int)<=1000):ZhO p s=some (imgS p s):=by
 unfold ZhO;have a8:=hp.len;obtain ⟨s',⟨h1,f,o,h4⟩,h5⟩:=Zr8 (B:=ZkC p s) (fun i q=>q.2=i/\q.1.Pairwise (·<·)/\(∀ z,z∈q.1↔∃ x∈s.take i.toNat,ix p x=z)/\(q.1.length:Int)<=i) (i:=0) (n:=s.length) ω (s:=(([]:List Int),(0:Int))) ⟨rfl,by simp,by simp,by simp⟩ fun i q r u ⟨v,w,g3,g4⟩=>by
  obtain ⟨a2,j⟩:=q;dsimp only at v w g3 g4;subst v;have hr:=hs.rng _ (Zj r u);have a3:=Zqb (l:=a2) (n:=ix p (ix s j)) ω;refine ⟨(insL (fun x=>x-ix p (ix s j)) (ix p (ix s j)) a2,j+1),by simp (disch:=omega) only [pz,ZkC,a3],rfl,?_,fun z=>?_,?_⟩
  ·exact ZgA (fun x h=>by omega) (fun x h=>by omega) (fun x h=>by omega) (fun x y z h k=>by omega) w
  ·rw [Zec (fun x h=>by omega),g3,ZaC r u];simp only [List.mem_append,List.mem_singleton];constructor
   ·rintro (h|⟨x,a,h⟩)
    ·exact ⟨_,.inr rfl,h.symm⟩
    ·exact ⟨x,.inl a,h⟩
   ·rintro ⟨x,a|a,h⟩
    ·exact .inr ⟨x,a,h⟩
    ·subst a;exact .inl h.symm
  ·have:=ZgD (fun x=>x-ix p (ix s j)) (ix p (ix s j)) a2;dsimp only;omega
 obtain ⟨a2,j⟩:=s';dsimp only at h1 f o h4;subst h1;rw [h5];have hset:=Zro hp hs;have e:a2=imgS p s:=Zgi (R:=(·<·)) (fun x y h k=>by omega) f hset.srt fun z=>by
  rw [o,Zlj,Int.toNat_natCast,List.take_length]
 refine Ze ?_;simp (disch:=omega) only [pz,ZkC,e]
def LtR (a b:List Int):Prop:=cmpL a b<0
theorem LtR.asym (x y:List Int) (h:LtR x y):¬ LtR y x:=fun k=>by
 unfold LtR at h k;have:=Za6 x y;omega
theorem Zrb {f:List Int->List Int->Option Bool} (hf:∀ a b,(a.length:Int)<=1000->f a b=some (decide (a=b))):∀ (l:List (List Int)) (p:List Int),(∀ x∈l,(x.length:Int)<=1000)->(p::l).Pairwise (fun a b=>lexC a b<=0) ->
  ∃ q,cpt f p l=some q/\(p::q).Pairwise LtR/\(∀ z,z∈p::q↔z∈p::l)/\q.length<=l.length
 | [],p,_,_=>⟨[],rfl,by simp,by simp,Nat.le_refl _⟩
 | y::l,p,hl,hs=>by
  rw [List.pairwise_cons] at hs;obtain ⟨q,i,q2,j,o⟩:=Zrb hf l y (fun x k=>hl x (List.mem_cons_of_mem _ k)) hs.2;have r:=hf y p (hl y (List.mem_cons_self ..));have w:=hs.1 y (List.mem_cons_self ..);rw [Zaz] at w;by_cases e:y=p
  ·subst e;refine ⟨q,?_,q2,fun z=>?_,by simp;omega⟩
   ·rw [cpt,r,i];simp
   ·rw [j];simp
  ·refine ⟨y::q,?_,?_,fun z=>?_,by simp;omega⟩
   ·rw [cpt,r,i];simp [e]
   ·have u:LtR p y:=by
     unfold LtR;have:cmpL p y≠0:=fun h=>e ((Zaw _ _).1 h).symm;omega
    rw [List.pairwise_cons];refine ⟨fun z hz=>?_,q2⟩;rcases List.mem_cons.1 hz with rfl|hz
    ·exact u
    ·exact Zba _ _ _ u ((List.pairwise_cons.1 q2).1 z hz)
   ·rw [List.mem_cons,j];simp
theorem ZCG {f:List Int->List Int->Option Bool} (o:∀ a b,(a.length:Int)<=1000->f a b=some (decide (a=b))) {l:List (List Int)} (k:∀ x∈l,(x.length:Int)<=1000) (hs:l.Pairwise (fun a b=>lexC a b<=0)):
  ∃ q,cptL f l=some q/\q.Pairwise LtR/\(∀ z,z∈q↔z∈l)/\q.length<=l.length:=by
 cases l with
 | nil=>exact ⟨[],rfl,by simp,by simp,Nat.le_refl _⟩
 | cons p l=>
  obtain ⟨q,e,q2,h,j⟩:=Zrb o l p (fun x i=>k x (List.mem_cons_of_mem _ i)) hs;exact ⟨p::q,by rw [cptL,e];rfl,q2,h,by simp;omega⟩
def dis (xs:List Int):List Int:=xs.foldl (fun l y=>insL (fun x=>x-y) y l) []
def cnt (xs:List Int):Nat:=(dis xs).length
theorem Zmj:∀ (xs l:List Int),l.Pairwise (·<·)->(xs.foldl (fun l y=>insL (fun x=>x-y) y l) l).Pairwise (·<·)/\∀ z,z∈xs.foldl (fun l y=>insL (fun x=>x-y) y l) l↔z∈l\/z∈xs
 | [],l,h=>⟨h,by simp⟩
 | y::xs,l,h=>by
  have h1:=ZgA (R:=(·<· :Int->Int->Prop)) (c:=fun x=>x-y) (y:=y) (fun x h=>by omega) (fun x h=>by omega) (fun x h=>by omega) (fun x y z a b=>Int.lt_trans a b) h;obtain ⟨e,f⟩:=Zmj xs _ h1;refine ⟨e,fun z=>?_⟩;rw [List.foldl_cons,f,Zec (fun x h=>by omega),List.mem_cons];constructor
  ·rintro ((h|h)|h)
   ·exact .inr (.inl h)
   ·exact .inl h
   ·exact .inr (.inr h)
  ·rintro (h|h|h)
   ·exact .inl (.inr h)
   ·exact .inl (.inl h)
   ·exact .inr h
theorem ZgI (xs:List Int):(dis xs).Pairwise (·<·):=(Zmj xs [] (by simp)).1
theorem ZbS {xs:List Int} {z:Int}:z∈dis xs↔z∈xs:=by rw [dis,(Zmj xs [] (by simp)).2];simp
theorem Zyy (xs:List Int):(dis xs).Nodup:=(ZgI xs).imp fun h=>by omega
theorem ZsB {xs l:List Int} (hp:l.Pairwise (·<·)) (e:∀ z,z∈l↔z∈xs):l=dis xs:=Zgi (fun x y a b=>by omega) hp (ZgI xs) fun z=>by rw [e,ZbS]
theorem Zq6 {xs l:List Int} (h:∀ z∈xs,z∈l):cnt xs<=l.length:=ZcP (Zyy xs) fun z hz=>h z (ZbS.1 hz)
theorem ZeV (xs:List Int):cnt xs<=xs.length:=Zq6 fun _ h=>h
theorem ZAy {xs l:List Int} (a:l.Nodup) (h:∀ z∈l,z∈xs):l.length<=cnt xs:=ZcP a fun z hz=>ZbS.2 (h z hz)
theorem Zds {xs:List Int} {z:Int} (h:z∈xs):(xs.idxOf z:Int)<(xs.length:Int)/\ix xs (xs.idxOf z:Int)=z:=by
 have h1:=List.idxOf_lt_length_of_mem h;refine ⟨by omega,ZX ?_⟩;rw [List.getElem?_eq_getElem h1,List.getElem_idxOf h1]
theorem ZHQ {xs k:List Int} (o:xs.length=k.length) (h:∀ i j:Int,0<=i->i<(xs.length:Int)->0<=j->j<(xs.length:Int)->ix k i=ix k j->ix xs i=ix xs j):cnt xs<=cnt k:=by
 have:cnt xs<=((dis k).map fun z=>ix xs (k.idxOf z:Int)).length:=Zq6 fun z hz=>by
  obtain ⟨i,a,e,rfl⟩:=ZL hz;have l:ix k i∈k:=Zj a ω;refine List.mem_map.2 ⟨ix k i,ZbS.2 l,?_⟩;obtain ⟨h1,f⟩:=Zds l;exact h _ _ ω ω a e f
 rwa [List.length_map] at this
def sgl (cells:List Int) (v:Int):List Int:=tabl cells.length fun w=>if w=v then 2*ix cells w else 2*ix cells w+1
theorem Zdt (cells:List Int) (v:Int):(sgl cells v).length=cells.length:=by unfold sgl;rw [ZA];omega
theorem Zgy {cells:List Int} {v w:Int} (a:0<=w) (h1:w<(cells.length:Int)):ix (sgl cells v) w=if w=v then 2*ix cells w else 2*ix cells w+1:=ZJ a h1
theorem Zui {cells:List Int} {u v:Int} (e:0<=u) (f:u<(cells.length:Int)) (v0:0<=v) (v1:v<(cells.length:Int)) (a2:u≠v) (h:ix cells u=ix cells v):cnt cells+1<=cnt (sgl cells v):=by
 have r:∀ w:Int,0<=w->w<(cells.length:Int)->ix (sgl cells v) w∈sgl cells v:=fun w a b=>Zj a (by rw [Zdt];exact b);have:=ZAy (xs:=sgl cells v) (l:=(2*ix cells v)::(dis cells).map fun x=>2*x+1) (by
  rw [List.nodup_cons];refine ⟨fun hm=>?_,?_⟩
  ·obtain ⟨x,_,j⟩:=List.mem_map.1 hm;omega
  ·have:=(ZgI cells).map (fun x=>2*x+1) (S:=(·≠· :Int->Int->Prop)) (fun a b a4=>by omega);exact this) (by
  intro z hz;rcases List.mem_cons.1 hz with rfl|hz
  ·have:=r v v0 v1;rwa [Zgy v0 v1,if_pos rfl] at this
  ·obtain ⟨x,j,rfl⟩:=List.mem_map.1 hz;obtain ⟨i,k,o,rfl⟩:=ZL (ZbS.1 j);by_cases hi:i=v
   ·have:=r u e f;rw [Zgy e f,if_neg a2,h] at this;rw [hi];exact this
   ·have:=r i k o;rwa [Zgy k o,if_neg hi] at this)
 simpa [cnt] using this
def keyAt (near:List (List Int)) (cells:List Int) (v:Int):List Int:=ix cells v::sortI ((ix near v).map fun w=>ix cells w)
def rkeys (near:List (List Int)) (cells:List Int):List (List Int):=tabl near.length (keyAt near cells)
def kindsOf (keys:List (List Int)):List (List Int):=keys.foldl (fun l y=>insL (fun x=>cmpL x y) y l) []
theorem Ziv:∀ (xs l:List (List Int)),l.Pairwise LtR->(xs.foldl (fun l y=>insL (fun x=>cmpL x y) y l) l).Pairwise LtR/\(∀ z,z∈xs.foldl (fun l y=>insL (fun x=>cmpL x y) y l) l↔z∈l\/z∈xs)/\(xs.foldl (fun l y=>insL (fun x=>cmpL x y) y l) l).length<=l.length+xs.length
 | [],l,h=>⟨h,by simp,by simp⟩
 | y::xs,l,h=>by
  have h1:=ZgA (R:=LtR) (c:=fun x=>cmpL x y) (y:=y) (fun x h=>(Zaw _ _).1 h) (fun x h=>h) (fun x h=>by
   have:=Za6 x y;show cmpL y x<0;omega) (fun x y z a b=>Zba _ _ _ a b) h
  obtain ⟨e,f,i⟩:=Ziv xs _ h1;have j:=ZgD (fun x=>cmpL x y) y l;refine ⟨e,fun z=>?_,by rw [List.foldl_cons,List.length_cons];omega⟩;rw [List.foldl_cons,f,Zec (fun x h=>(Zaw _ _).1 h),List.mem_cons];constructor
  ·rintro ((h|h)|h)
   ·exact .inr (.inl h)
   ·exact .inl h
   ·exact .inr (.inr h)
  ·rintro (h|h|h)
   ·exact .inl (.inr h)
   ·exact .inl (.inl h)
   ·exact .inr h
theorem ZlB (keys:List (List Int)):(kindsOf keys).Pairwise LtR:=(Ziv keys [] (by simp)).1
theorem ZeO {keys:List (List Int)} {z:List Int}:z∈kindsOf keys↔z∈keys:=by rw [kindsOf,(Ziv keys [] (by simp)).2.1];simp
theorem Zu2 (keys:List (List Int)):(kindsOf keys).length<=keys.length:=by have:=(Ziv keys [] (by simp)).2.2;simpa [kindsOf] using this
theorem ZAw (x y:List Int) (h:LtR x y):¬ LtR y x:=fun k=>by
 have h:cmpL x y<0:=h;have k:cmpL y x<0:=k;have:=Za6 x y;omega
theorem Zta {keys l:List (List Int)} (hp:l.Pairwise LtR) (a:∀ z,z∈l↔z∈keys):l=kindsOf keys:=Zgi ZAw hp (ZlB keys) fun z=>by rw [a,ZeO]
def rnd (near:List (List Int)) (cells:List Int):List Int:=(rkeys near cells).map fun x=>((kindsOf (rkeys near cells)).idxOf x:Int)
theorem ZbO (near:List (List Int)) (cells:List Int):(rkeys near cells).length=near.length:=by unfold rkeys;rw [ZA];omega
theorem Zdv (near:List (List Int)) (cells:List Int):(rnd near cells).length=near.length:=by unfold rnd;rw [List.length_map,ZbO]
theorem ZcX {near:List (List Int)} {cells:List Int} {v:Int} (a:0<=v) (h1:v<(near.length:Int)):ix (rkeys near cells) v=keyAt near cells v:=ZJ a h1
theorem ZfP {near:List (List Int)} {cells:List Int} {v:Int} (a:0<=v) (h1:v<(near.length:Int)):ix (rnd near cells) v=((kindsOf (rkeys near cells)).idxOf (keyAt near cells v):Int):=by
 unfold rnd;rw [ZaX a (by rw [ZbO];exact h1),ZcX a h1]
theorem Zrm {near:List (List Int)} {cells:List Int} {v:Int} (a:0<=v) (h1:v<(near.length:Int)):keyAt near cells v∈kindsOf (rkeys near cells):=by
 rw [ZeO,<-ZcX a h1];exact Zj a (by rw [ZbO];exact h1)
theorem ZwR {near:List (List Int)} {cells:List Int}:∀ x∈rnd near cells,0<=x/\x<(near.length:Int):=by
 intro x a;obtain ⟨y,h,rfl⟩:=List.mem_map.1 a;have h1:=List.idxOf_lt_length_of_mem (ZeO.2 h);have e:=Zu2 (rkeys near cells);rw [ZbO] at e;omega
theorem Zxm {near:List (List Int)} {cells:List Int} {u v:Int} (a:0<=u) (e:u<(near.length:Int)) (v0:0<=v) (v1:v<(near.length:Int)) (h:ix (rnd near cells) u=ix (rnd near cells) v):keyAt near cells u=keyAt near cells v:=by
 rw [ZfP a e,ZfP v0 v1] at h;have h1:=List.idxOf_lt_length_of_mem (Zrm (cells:=cells) a e);have f:=List.idxOf_lt_length_of_mem (Zrm (cells:=cells) v0 v1);rw [<-List.getElem_idxOf h1,<-List.getElem_idxOf f];congr 1;omega
theorem ZpA {near:List (List Int)} {cells:List Int} (l:cells.length=near.length):cnt cells<=cnt (rnd near cells):=by
 refine ZHQ (by rw [Zdv,l]) fun i j a f e k h=>?_;have:=Zxm a ω e ω h;unfold keyAt at this;exact (List.cons.inj this).1
def refM (near:List (List Int)):Nat->List Int->List Int
 | 0,cells=>cells
 | f+1,cells=>if cnt (rnd near cells)=cnt cells then rnd near cells else refM near f (rnd near cells)
def refN (near:List (List Int)) (cells:List Int):List Int:=refM near (near.length+1) cells
theorem Zra (near:List (List Int)):∀ (f:Nat) (cells:List Int),cells.length=near.length->near.length<f+cnt cells->(refM near f cells).length=near.length/\cnt cells<=cnt (refM near f cells)/\∀ x∈refM near f cells,0<=x/\x<(near.length:Int)
 | 0,cells,hl,hf=>by have:=ZeV cells;omega
 | f+1,cells,hl,hf=>by
  have h1:=ZpA hl;have a:=Zdv near cells;rw [refM];by_cases h:cnt (rnd near cells)=cnt cells
  ·rw [if_pos h];exact ⟨a,h1,ZwR⟩
  ·rw [if_neg h];obtain ⟨e,j,i⟩:=Zra near f (rnd near cells) a ω;exact ⟨e,by omega,i⟩
theorem Zp1 {near:List (List Int)} {cells:List Int} (a:cells.length=near.length):(refN near cells).length=near.length/\cnt cells<=cnt (refN near cells)/\∀ x∈refN near cells,0<=x/\x<(near.length:Int):=Zra near _ cells a ω
def eC (a b:Zd):Int:=if cmpI a.A b.A=0 then cmpI a.B b.B else cmpI a.A b.A
theorem Zem {x y:Int}:cmpI x y=0↔x=y:=by
 unfold cmpI;split
 ·omega
 ·split<;>omega
theorem ZtS {x y:Int}:cmpI x y<0↔x<y:=by
 unfold cmpI;split
 ·omega
 ·split<;>omega
theorem Zr2 {x y:Int}:0<cmpI x y↔y<x:=by
 unfold cmpI;split
 ·omega
 ·split<;>omega
theorem eC_lt {a b:Zd}:eC a b<0↔eLess a b:=by
 unfold eC eLess;by_cases h:cmpI a.A b.A=0
 ·rw [if_pos h,ZtS];rw [Zem] at h;omega
 ·rw [if_neg h,ZtS];rw [Zem] at h;omega
theorem eC_gt {a b:Zd}:0<eC a b↔eLess b a:=by
 unfold eC eLess;by_cases h:cmpI a.A b.A=0
 ·rw [if_pos h,Zr2];rw [Zem] at h;omega
 ·rw [if_neg h,Zr2];rw [Zem] at h;omega
theorem Zq1 {a b:Zd}:eC a b=0↔a=b:=by
 cases a;cases b;unfold eC;simp only [Zd.mk.injEq];split
 ·rename_i h;rw [Zem] at h ⊢;simp [h]
 ·rename_i h;rw [Zem] at h ⊢;simp [h]
theorem Zz6 (x y:Zd) (h:eLess x y):¬ eLess y x:=fun k=>by unfold eLess at *;omega
theorem Zk4 (x y z:Zd) (h:eLess x y) (k:eLess y z):eLess x z:=by unfold eLess at *;omega
def srtE (l:List Zd):List Zd:=l.foldl (fun l y=>insL (fun x=>eC x y) y l) []
theorem ZjR:∀ (xs l:List Zd),l.Pairwise eLess->(xs.foldl (fun l y=>insL (fun x=>eC x y) y l) l).Pairwise eLess/\(∀ z,z∈xs.foldl (fun l y=>insL (fun x=>eC x y) y l) l↔z∈l\/z∈xs)/\(xs.foldl (fun l y=>insL (fun x=>eC x y) y l) l).length<=l.length+xs.length
 | [],l,h=>⟨h,by simp,by simp⟩
 | y::xs,l,h=>by
  have h1:=ZgA (R:=eLess) (c:=fun x=>eC x y) (y:=y) (fun x h=>Zq1.1 h) (fun x h=>eC_lt.1 h) (fun x h=>eC_gt.1 h) Zk4 h;obtain ⟨a,e,f⟩:=ZjR xs _ h1;have j:=ZgD (fun x=>eC x y) y l;refine ⟨a,fun z=>?_,by rw [List.foldl_cons,List.length_cons];omega⟩;rw [List.foldl_cons,e,Zec (fun x h=>Zq1.1 h),List.mem_cons];constructor
  ·rintro ((h|h)|h)
   ·exact .inr (.inl h)
   ·exact .inl h
   ·exact .inr (.inr h)
  ·rintro (h|h|h)
   ·exact .inl (.inr h)
   ·exact .inl (.inl h)
   ·exact .inr h
theorem Zl3 (l:List Zd):(srtE l).Pairwise eLess:=(ZjR l [] (by simp)).1
theorem Zdg {l:List Zd} {z:Zd}:z∈srtE l↔z∈l:=by rw [srtE,(ZjR l [] (by simp)).2.1];simp
theorem ZE8 (l:List Zd):(srtE l).length<=l.length:=by have:=(ZjR l [] (by simp)).2.2;simpa [srtE] using this
theorem Zif {l q:List Zd} (hp:q.Pairwise eLess) (a:∀ z,z∈q↔z∈l):q=srtE l:=Zgi Zz6 hp (Zl3 l) fun z=>by rw [a,Zdg]
def mapE (p:List Int) (e:Zd):Zd:=⟨min (ix p e.A) (ix p e.B),max (ix p e.A) (ix p e.B)⟩
def colM (g:Zc) (p:List Int):List Int:=tabl p.length fun i=>ix g.Colors (p.idxOf i:Int)
def relab (g:Zc) (p:List Int):Zc:=⟨colM g p,srtE (g.Edges.map (mapE p))⟩
theorem Ze1 {p:List Int} {n:Int} (hp:Vc.Perm p n) {i:Int} (a:0<=i) (h1:i<n):i∈p:=by
 have h:=hp.len;have hs:=ZgM hp.nd (l':=idP n) (fun x e=>Zap.2 (hp.rng x e)) (by rw [Zaf];omega);exact hs.mem_iff.2 (Zap.2 ⟨a,h1⟩)
theorem ZbE {p:List Int} (hp:p.Nodup) {i j:Int} (f:0<=i) (h1:i<(p.length:Int)) (k:0<=j) (k1:j<(p.length:Int)) (h:ix p i=ix p j):i=j:=by
 have a:=ZY f h1;have e:=ZY k k1;have l1:i.toNat<p.length:=ω;have l2:j.toNat<p.length:=ω;rw [List.getElem?_eq_getElem l1] at a;rw [List.getElem?_eq_getElem l2] at e;have:p[i.toNat]=p[j.toNat]:=by rw [Option.some.inj a,Option.some.inj e,h]
 have:=(List.getElem_inj hp).1 this;omega
theorem ZtP {p:List Int} (hp:p.Nodup) {i:Int} (e:0<=i) (h1:i<(p.length:Int)):(p.idxOf (ix p i):Int)=i:=by
 obtain ⟨a,b⟩:=Zds (Zj e h1);exact ZbE hp ω a e h1 b
theorem Zb0 {g:Zc} (hg:ValidG g) {e:Zd} (h:e∈g.Edges):0<=e.A/\e.A<e.B/\e.B<(g.Colors.length:Int):=by
 obtain ⟨k,a,k1,rfl⟩:=ZL h;exact (hg.edg k a k1).1
theorem ZDZ {g:Zc} (hg:ValidG g):g.Edges.Pairwise eLess:=by
 have h:∀ (d:Nat) (i j:Int),(j-i).toNat=d+1->0<=i->i<j->j<(g.Edges.length:Int)->eLess (ix g.Edges i) (ix g.Edges j):=by
  intro d;induction d with
  | zero=>
   intro i j f e h1 a;obtain rfl:i=j-1:=ω;exact (hg.edg j ω a).2 ω
  | succ d k=>
   intro i j f e h1 a;exact Zk4 _ _ _ (k i (j-1) ω e ω ω) ((hg.edg j ω a).2 ω)
 rw [List.pairwise_iff_getElem];intro i j hi l o;have:=h (j-i-1) (i:Int) (j:Int) ω ω ω ω;rwa [ZX (List.getElem?_eq_getElem hi),ZX (List.getElem?_eq_getElem l)] at this
theorem ZqR {g:Zc} (cl:(g.Colors.length:Int)<=64) (col:∀ x∈g.Colors,0<=x/\x<=63) (el:(g.Edges.length:Int)<=512) (pw:g.Edges.Pairwise eLess) (edg:∀ e∈g.Edges,0<=e.A/\e.A<e.B/\e.B<(g.Colors.length:Int)):ValidG g:=by
 refine ⟨cl,fun k a b=>col _ (Zj a b),el,fun k a b=>⟨edg _ (Zj a b),fun h=>?_⟩⟩;have:=List.pairwise_iff_getElem.1 pw (k-1).toNat k.toNat ω ω ω;have f:=ZY (xs:=g.Edges) (i:=k-1) ω ω;have j:=ZY (xs:=g.Edges) (i:=k) ω ω;rw [List.getElem?_eq_getElem ω] at f j;rwa [Option.some.inj f,Option.some.inj j] at this
theorem ZgH (g:Zc) (p:List Int):(colM g p).length=p.length:=by unfold colM;rw [ZA];omega
theorem ZiO {g:Zc} (hg:ValidG g) {p:List Int} (hp:Vc.Perm p g.Colors.length):ValidG (relab g p):=by
 have hl:=hp.len;have a3:(colM g p).length=p.length:=ZgH g p;refine ZqR (by show ((colM g p).length:Int)<=64;have:=hg.cl;omega) (fun x j=>?_) ?_ (Zl3 _) fun e u=>?_
 ·obtain ⟨i,a,f,rfl⟩:=ZL j;have f:i<(colM g p).length:=f;have hi:ix (colM g p) i=ix g.Colors (p.idxOf i:Int):=ZJ a ω;show 0<=ix (colM g p) i/\ix (colM g p) i<=63;rw [hi];have w:=Ze1 hp a ω;have:=(Zds w).1;exact hg.col _ ω ω
 ·have:=ZE8 (g.Edges.map (mapE p));rw [List.length_map] at this;show ((srtE (g.Edges.map (mapE p))).length:Int)<=512;have:=hg.el;omega
 ·have u:e∈srtE (g.Edges.map (mapE p)):=u;rw [Zdg] at u;obtain ⟨d,k,rfl⟩:=List.mem_map.1 u;have l:=Zb0 hg k;have o:=hp.rng _ (Zj (xs:=p) (i:=d.A) ω ω);have r:=hp.rng _ (Zj (xs:=p) (i:=d.B) ω ω);have a2:ix p d.A≠ix p d.B:=fun h=>by have:=ZbE hp.nd ω ω ω ω h;omega
  show 0<=min _ _/\min _ _<max _ _/\max _ _<((colM g p).length:Int);omega
def adj (es:List Zd) (a b:Int):Bool:=es.any fun e=>(e.A==a&&e.B==b)||(e.A==b&&e.B==a)
theorem Zmy {es:List Zd} {a b:Int}:adj es a b=true↔∃ e∈es,(e.A=a/\e.B=b)\/(e.A=b/\e.B=a):=by
 unfold adj;simp only [List.any_eq_true,Bool.or_eq_true,Bool.and_eq_true,beq_iff_eq]
def nearM (g:Zc):List (List Int):=tabl g.Colors.length fun a=>(idP g.Colors.length).filter fun b=>adj g.Edges a b
theorem Za3 (g:Zc):(nearM g).length=g.Colors.length:=by unfold nearM;rw [ZA];omega
theorem ZiH {g:Zc} {a:Int} (e:0<=a) (h1:a<(g.Colors.length:Int)):ix (nearM g) a=(idP g.Colors.length).filter fun b=>adj g.Edges a b:=ZJ e h1
theorem Zdq {g:Zc} {a x:Int} (e:0<=a) (h1:a<(g.Colors.length:Int)):x∈ix (nearM g) a↔(0<=x/\x<(g.Colors.length:Int))/\adj g.Edges a x=true:=by
 rw [ZiH e h1,List.mem_filter,Zap]
theorem Zya {g:Zc} {a:Int} (e:0<=a) (h1:a<(g.Colors.length:Int)):(ix (nearM g) a).length<=g.Colors.length:=by
 rw [ZiH e h1];have:=List.length_filter_le (fun b=>adj g.Edges a b) (idP g.Colors.length);rw [Zaf] at this;omega
def flatE (l:List Zd):List Int:=l.flatMap fun e=>[e.A,e.B]
def cmpG (g h:Zc):Int:=if cmpL g.Colors h.Colors=0 then cmpL (flatE g.Edges) (flatE h.Edges) else cmpL g.Colors h.Colors
def tgt (cells:List Int):Int:=((dis cells).find? fun t=>decide (2<=cells.count t)).getD (-1)
def vts (cells:List Int) (t:Int):List Int:=(idP cells.length).filter fun v=>ix cells v==t
structure CSt where
 best:Zc
 perms:List (List Int)
 nodes:Int
 leaves:Int
 full:Bool
def leafM (g:Zc) (p:List Int) (s:CSt):CSt:=
 let c:=if s.perms=[] then -1 else cmpG (relab g p) s.best
 ⟨if c<0 then relab g p else s.best,if c<0 then [p] else if c=0 then s.perms++[p] else s.perms,s.nodes,s.leaves+1,s.full⟩
def srch (g:Zc) (near:List (List Int)) (B:Int):Nat->List Int->CSt->CSt
 | 0,_,s=>s
 | d+1,cells,s=>if tgt cells<0 then leafM g cells s else (vts cells (tgt cells)).foldl (fun s v=>if s.full=true then s else if s.nodes=B then { s with full:=true } else srch g near B d (refN near (sgl cells v)) { s with nodes:=s.nodes+1 }) s
def stepM (g:Zc) (near:List (List Int)) (B:Int) (d:Nat) (cells:List Int) (s:CSt) (v:Int):CSt:=if s.full=true then s else if s.nodes=B then { s with full:=true } else srch g near B d (refN near (sgl cells v)) { s with nodes:=s.nodes+1 }
theorem Zk7 {g:Zc} {near:List (List Int)} {B:Int} {d:Nat} {cells:List Int} {s:CSt}:srch g near B (d+1) cells s=if tgt cells<0 then leafM g cells s else (vts cells (tgt cells)).foldl (stepM g near B d cells) s:=rfl
theorem Zb3 {cells:List Int} {t v:Int}:v∈vts cells t↔(0<=v/\v<(cells.length:Int))/\ix cells v=t:=by
 unfold vts;rw [List.mem_filter,Zap,beq_iff_eq]
theorem Ztc {cells:List Int} {t:Int}:2<=cells.count t↔∃ i j:Int,0<=i/\i<j/\j<(cells.length:Int)/\ix cells i=t/\ix cells j=t:=by
 rw [<-List.replicate_sublist_iff];constructor
 ·intro h;obtain ⟨is,h1,k⟩:=List.sublist_eq_map_getElem h;have x:is.length=2:=by have:=congrArg List.length h1;simp at this;exact this.symm
  obtain ⟨a,b,rfl⟩:∃ a b,is=[a,b]:=by
   match is,x with
   | [a,b],_=>exact ⟨a,b,rfl⟩
  simp only [List.map_cons,List.map_nil,List.replicate,List.cons.injEq,and_true] at h1;have w:a<b:=by simpa using k
  refine ⟨(a.val:Int),(b.val:Int),by omega,by have:a.val<b.val:=w;omega,by have:=b.isLt;omega,?_,?_⟩
  ·rw [ZX (List.getElem?_eq_getElem a.isLt)];exact h1.1.symm
  ·rw [ZX (List.getElem?_eq_getElem b.isLt)];exact h1.2.symm
 ·rintro ⟨i,j,o,a3,r,hi,hj⟩;have e:=ZY (xs:=cells) (i:=i) o ω;have f:=ZY (xs:=cells) (i:=j) ω r;have:=List.map_getElem_sublist (l:=cells) (is:=[⟨i.toNat,by omega⟩,⟨j.toNat,by omega⟩]) (by simp;omega);rw [List.getElem?_eq_getElem ω] at e f;simp only [List.map_cons,List.map_nil] at this;have s:cells[i.toNat]=t:=by rw [Option.some.inj e,hi]
  have u:cells[j.toNat]=t:=by rw [Option.some.inj f,hj]
  simpa [List.replicate,s,u] using this
theorem ZdD {cells:List Int} (f:∀ x∈cells,0<=x):(tgt cells=-1/\cells.Nodup)\/(0<=tgt cells/\2<=cells.count (tgt cells)/\∀ t,2<=cells.count t->tgt cells<=t):=by
 unfold tgt;cases hf:(dis cells).find? fun t=>decide (2<=cells.count t) with
 | none=>
  left;refine ⟨rfl,List.nodup_iff_count.2 fun a=>?_⟩;rw [List.find?_eq_none] at hf;rcases Nat.lt_or_ge (cells.count a) 2 with h|h
  ·omega
  ·have j:a∈cells:=List.count_pos_iff.1 ω;have:=hf a (ZbS.2 j);simp at this;omega
 | some t=>
  right;have h1:=List.find?_some hf;have i:=List.mem_of_find?_eq_some hf;have h1:2<=cells.count t:=by simpa using h1
  refine ⟨f t (ZbS.1 i),h1,fun u l=>?_⟩;have j:u∈dis cells:=ZbS.2 (List.count_pos_iff.1 ω);obtain ⟨_,as,bs,e,k⟩:=List.find?_eq_some_iff_append.1 hf;have hp:=ZgI cells;rw [e] at j hp;show t<=u;rcases List.mem_append.1 j with h|h
  ·have:=k u h;simp at this;omega
  ·rcases List.mem_cons.1 h with h|h
   ·omega
   ·have:=(List.pairwise_cons.1 (List.pairwise_append.1 hp).2.1).1 u h;omega
structure Cel (n:Nat) (cells:List Int):Prop where
 len:cells.length=n
 rng:∀ x∈cells,0<=x/\x<(n:Int)
theorem Cel.ref {near:List (List Int)} {cells:List Int} (a:cells.length=near.length):Cel near.length (refN near cells):=⟨(Zp1 a).1,(Zp1 a).2.2⟩
theorem Cel.perm {n:Nat} {cells:List Int} (h:Cel n cells) (a:cells.Nodup):Vc.Perm cells n:=⟨by rw [h.len],h.rng,a⟩
theorem Cel.more {near:List (List Int)} {cells:List Int} (h:Cel near.length cells) (ht:¬ tgt cells<0) {v:Int} (e:v∈vts cells (tgt cells)):cnt cells+1<=cnt (refN near (sgl cells v)):=by
 obtain ⟨⟨v0,v1⟩,a⟩:=Zb3.1 e;rcases ZdD (cells:=cells) (fun x f=>(h.rng x f).1) with ⟨h1,_⟩|⟨h1,k,_⟩
 ·omega
 obtain ⟨i,j,l,a2,o,hi,w⟩:=Ztc.1 k;have hg:=(Zp1 (near:=near) (cells:=sgl cells v) (by rw [Zdt,h.len])).2.1;by_cases r:i=v
 ·have:=Zui (u:=j) (v:=v) ω o v0 v1 ω (by rw [w,a]);omega
 ·have:=Zui (u:=i) (v:=v) l ω v0 v1 r (by rw [hi,a]);omega
theorem Zqu {cells:List Int} (a:∀ x∈cells,0<=x) (o:¬ tgt cells<0):vts cells (tgt cells)≠[]:=by
 rcases ZdD a with ⟨h1,_⟩|⟨h1,e,_⟩
 ·omega
 obtain ⟨i,j,f,k,h,hi,l⟩:=Ztc.1 e;exact List.ne_nil_of_mem (Zb3.2 ⟨⟨f,by omega⟩,hi⟩)
structure CInv (B K:Int) (s:CSt):Prop where
 le:s.leaves<=s.nodes+K
 pl:(s.perms.length:Int)<=s.leaves
 n0:0<=s.nodes
 nB:s.nodes<=B
theorem Ztg (g:Zc) (near:List (List Int)) (B:Int):∀ (d:Nat) (cells:List Int) (s:CSt) (K:Int),CInv B K s->CInv B (K+1) (srch g near B d cells s)
 | 0,cells,s,K,h=>⟨by have:=h.le;show s.leaves<=s.nodes+(K+1);omega,h.pl,h.n0,h.nB⟩
 | d+1,cells,s,K,h=>by
  rw [Zk7];by_cases k:tgt cells<0
  ·rw [if_pos k];have h1:=h.le;have e:=h.pl;refine ⟨by show s.leaves+1<=s.nodes+(K+1);omega,?_,h.n0,h.nB⟩;unfold leafM;dsimp only;generalize (if s.perms=[] then (-1:Int) else cmpG (relab g cells) s.best)=c;by_cases c1:c<0
   ·rw [if_pos c1,List.length_singleton];omega
   ·rw [if_neg c1];by_cases c2:c=0
    ·rw [if_pos c2,List.length_append,List.length_singleton];omega
    ·rw [if_neg c2];omega
  ·rw [if_neg k];have j:∀ (vs:List Int) (s:CSt),CInv B K s->CInv B K (vs.foldl (stepM g near B d cells) s):=by
    intro vs;induction vs with
    | nil=>intro s h;exact h
    | cons v vs o=>
     intro s h;rw [List.foldl_cons];refine o _ ?_;unfold stepM;by_cases l:s.full=true
     ·rw [if_pos l];exact h
     ·rw [if_neg l];by_cases a:s.nodes=B
      ·rw [if_pos a];exact ⟨h.le,h.pl,h.n0,h.nB⟩
      ·rw [if_neg a];have h1:=h.le;have f:=h.n0;have i:=h.nB;have:=Ztg g near B d (refN near (sgl cells v)) { s with nodes:=s.nodes+1 } (K-1) ⟨by show s.leaves<=s.nodes+1+(K-1);omega,h.pl,by show 0<=s.nodes+1;omega,by show s.nodes+1<=B;omega⟩;rwa [show K-1+1=K by omega] at this
   have:=j (vts cells (tgt cells)) s h;exact ⟨by have:=this.le;omega,this.pl,this.n0,this.nB⟩
def Bst (g:Zc) (s:CSt):Prop:=s.perms≠[]->∃ p,Vc.Perm p g.Colors.length/\s.best=relab g p
theorem ZoF {g:Zc} {near:List (List Int)} (j:near.length=g.Colors.length) (B:Int):∀ (d:Nat) (cells:List Int) (s:CSt),Cel near.length cells->near.length<d+cnt cells->Bst g s->Bst g (srch g near B d cells s)/\((srch g near B d cells s).full=false->(srch g near B d cells s).perms≠[])
 | 0,cells,s,a,o,h=>by have:=ZeV cells;have:=a.len;omega
 | d+1,cells,s,a,o,h=>by
  rw [Zk7];rcases ZdD (cells:=cells) (fun x i=>(a.rng x i).1) with ⟨h1,k⟩|⟨h1,k,_⟩
  ·rw [if_pos ω];have hp:Vc.Perm cells g.Colors.length:=by rw [<-j];exact a.perm k
   unfold leafM Bst;dsimp only;generalize a6:(if s.perms=[] then -1 else cmpG (relab g cells) s.best)=c;by_cases f:c<0
   ·rw [if_pos f,if_pos f];exact ⟨fun _=>⟨cells,hp,rfl⟩,fun _=>by simp⟩
   ·have a2:s.perms≠[]:=fun e=>by rw [if_pos e] at a6;omega
    rw [if_neg f,if_neg f];refine ⟨fun _=>h a2,fun _=>?_⟩;split
    ·simp
    ·exact a2
  ·rw [if_neg ω];have a5:∀ (vs:List Int) (s:CSt),(∀ v∈vs,v∈vts cells (tgt cells))->Bst g s->(vs=[]->s.full=false->s.perms≠[])->Bst g (vs.foldl (stepM g near B d cells) s)/\((vs.foldl (stepM g near B d cells) s).full=false->(vs.foldl (stepM g near B d cells) s).perms≠[]):=by
    intro vs;induction vs with
    | nil=>intro s _ h h';exact ⟨h,h' rfl⟩
    | cons v vs ih=>
     intro s hm h _;rw [List.foldl_cons];have w:Bst g (stepM g near B d cells s v)/\((stepM g near B d cells s v).full=false->(stepM g near B d cells s v).perms≠[]):=by
      unfold stepM;by_cases hf:s.full=true
      ·rw [if_pos hf];exact ⟨h,fun e=>by rw [hf] at e;cases e⟩
      ·rw [if_neg hf];by_cases l:s.nodes=B
       ·rw [if_pos l];exact ⟨h,fun e=>by cases e⟩
       ·rw [if_neg l];have a7:=a.more (near:=near) ω (hm v (List.mem_cons_self ..));exact ZoF j B d _ _ (Cel.ref (by rw [Zdt,a.len])) ω h
     exact ih _ (fun u hu=>hm u (List.mem_cons_of_mem _ hu)) w.1 fun _=>w.2
   exact a5 _ s (fun v r=>r) h fun e=>absurd e (Zqu (fun x i=>(a.rng x i).1) ω)
theorem cptG {α:Type} {eqb:α->α->Bool} {Le R:α->α->Prop} (r:∀ a b,eqb a b=true↔a=b) (h1:∀ a b,Le a b->a≠b->R a b) (w:∀ a b c,R a b->R b c->R a c):∀ (l:List α) (p:α),(p::l).Pairwise Le ->
  ∃ q,cpt (fun a b=>some (eqb a b)) p l=some q/\(p::q).Pairwise R/\(∀ z,z∈p::q↔z∈p::l)/\q.length<=l.length
 | [],p,_=>⟨[],rfl,by simp,by simp,Nat.le_refl _⟩
 | y::l,p,hs=>by
  rw [List.pairwise_cons] at hs;obtain ⟨q,i,q2,j,k⟩:=cptG r h1 w l y hs.2;have u:=hs.1 y (List.mem_cons_self ..);by_cases e:y=p
  ·subst e;have f:=(r y y).2 rfl;refine ⟨q,?_,q2,fun z=>?_,by simp;omega⟩
   ·rw [cpt,i,f];simp
   ·rw [j];simp
  ·have f:eqb y p=false:=by
    cases h:eqb y p with
    | true=>exact absurd ((r y p).1 h) e
    | false=>rfl
   refine ⟨y::q,?_,?_,fun z=>?_,by simp;omega⟩
   ·rw [cpt,i,f];simp
   ·have o:R p y:=h1 p y u fun h=>e h.symm;rw [List.pairwise_cons];refine ⟨fun z hz=>?_,q2⟩;rcases List.mem_cons.1 hz with rfl|hz
    ·exact o
    ·exact w _ _ _ o ((List.pairwise_cons.1 q2).1 z hz)
   ·rw [List.mem_cons,j];simp
theorem cptGL {α:Type} {eqb:α->α->Bool} {Le R:α->α->Prop} (j:∀ a b,eqb a b=true↔a=b) (h1:∀ a b,Le a b->a≠b->R a b) (k:∀ a b c,R a b->R b c->R a c) {l:List α} (hs:l.Pairwise Le):
  ∃ q,cptL (fun a b=>some (eqb a b)) l=some q/\q.Pairwise R/\∀ z,z∈q↔z∈l:=by
 cases l with
 | nil=>exact ⟨[],rfl,by simp,by simp⟩
 | cons p l=>
  obtain ⟨q,e,q2,f,h⟩:=cptG j h1 k l p hs;exact ⟨p::q,by rw [cptL,e];rfl,q2,f⟩
theorem ZiA {xs:List Int} (l:(xs.length:Int)<=1000000):Zgv xs=some (cnt xs:Int):=by
 unfold Zgv Zjq;have j:(sortI xs).length=xs.length:=(ZaV xs).length_eq;obtain ⟨q,f,q2,i⟩:=cptGL (eqb:=fun a b:Int=>a==b) (Le:=(·<=·)) (R:=(·<·)) (fun a b=>by simp) (fun a b h k=>by omega) (fun a b c h k=>by omega) (ZdV xs);have e:q=dis xs:=ZsB q2 fun z=>by rw [i];exact (ZaV xs).mem_iff
 rw [Zju ω,Option.bind_some,ZjU ω,Option.bind_some,if_pos ω,f,e];rfl
theorem ZmJ (cells:List Int) (t:Int):(vts cells t).length=cells.count t:=by
 have e:cells=(idP (cells.length:Int)).map fun j=>ix cells j:=by
  refine Zar (by rw [List.length_map,Zaf];omega) fun i a f=>?_;rw [ZaX a (by rw [Zaf];omega),ZcU a ω]
 have:((idP (cells.length:Int)).map fun j=>ix cells j).count t=(vts cells t).length:=by
  rw [List.count,List.countP_map,List.countP_eq_length_filter];rfl
 rw [<-this,<-e]
theorem ZCV {cells:List Int} {t k:Int} (h:0<=k):(idP (k+1)).filter (fun v=>ix cells v==t)=(idP k).filter (fun v=>ix cells v==t)++(if ix cells k=t then [k] else []):=by
 unfold idP;rw [Zcy h,List.filter_append];by_cases e:ix cells k=t
 ·rw [if_pos e];simp [e]
 ·rw [if_neg e];simp [e]
theorem Zwo {cells:List Int} (hl:(cells.length:Int)<=1000000) (hr:∀ x∈cells,0<=x/\x<(cells.length:Int)):Zik cells=some (if tgt cells<0 then [] else vts cells (tgt cells)):=by
 unfold Zik;have a2:∀ c:Int,0<=c->c<(cells.length:Int)->loop (ZcN cells c) (([]:List Int),0)=some (if 1<((vts cells c).length:Int) then .inr (vts cells c) else .inl (c+1)):=fun c f c1=>by
  have a7:=ZG (B:=ZcN cells c) (fun k=>((idP k).filter (fun v=>ix cells v==c),k)) (i:=0) (n:=cells.length) ω fun k r k1=>by
   have a6:=List.length_filter_le (fun v=>ix cells v==c) (idP k);rw [Zaf] at a6;have w:=ZCV (cells:=cells) (t:=c) r;by_cases e:ix cells k=c
   ·rw [if_pos e] at w;simp (disch:=omega) only [pz,ZcN,w]
   ·rw [if_neg e,List.append_nil] at w;simp (disch:=omega) only [pz,ZcN,w]
  have s:(([]:List Int),(0:Int))=(fun k:Int=>((idP k).filter (fun v=>ix cells v==c),k)) 0:=rfl;rw [s,a7];refine Ze ?_;show ZcN cells c (vts cells c,(cells.length:Int))=_;by_cases h:1<((vts cells c).length:Int)
  ·rw [if_pos h];simp (disch:=omega) only [pz,ZcN]
  ·rw [if_neg h];simp (disch:=omega) only [pz,ZcN]
 rcases ZcR (B:=Zgm cells) (fun k=>k) (fun c=>1<((vts cells c).length:Int)) (i:=0) (n:=cells.length) ω (fun c f c1 u=>by
   have:=a2 c f c1;rw [if_neg u] at this;simp (disch:=omega) only [pz,Zgm,this]) with ⟨c,f,c1,hP,hmin,he⟩|⟨hall,he⟩
 ·rw [he];have a5:2<=cells.count c:=by rw [<-ZmJ];omega
  have ht:tgt cells=c:=by
   rcases ZdD (fun x l=>(hr x l).1) with ⟨a,j⟩|⟨a,j,o⟩
   ·have:=List.nodup_iff_count.1 j c;omega
   ·have h1:=o c a5;rcases Int.lt_or_le (tgt cells) c with k|k
    ·have:=hmin (tgt cells) a k;rw [ZmJ] at this;omega
    ·omega
  rw [if_neg ω,ht];have:=a2 c f c1;rw [if_pos hP] at this;exact Ze (by simp (disch:=omega) only [pz,Zgm,this])
 ·rw [he];have ht:tgt cells<0:=by
   rcases ZdD (fun x l=>(hr x l).1) with ⟨a,j⟩|⟨a,j,o⟩
   ·omega
   ·have hm:tgt cells∈cells:=List.count_pos_iff.1 ω;have:=hall (tgt cells) a (hr _ hm).2;rw [ZmJ] at this;omega
  rw [if_pos ht];exact Ze (by simp (disch:=omega) only [pz,Zgm])
theorem ZCg {l:List (List Int)} (h:l.Pairwise LtR):StrictL l:=fun i j f o k=>by
 have:=List.pairwise_iff_getElem.1 h i.toNat j.toNat ω ω ω;have a:=ZY (xs:=l) (i:=i) f ω;have e:=ZY (xs:=l) (i:=j) ω k;rw [List.getElem?_eq_getElem ω] at a e;rwa [Option.some.inj a,Option.some.inj e] at this
theorem ZGI {xs:List (List Int)} {z:List Int} (h:z∈xs):(xs.idxOf z:Int)<(xs.length:Int)/\ix xs (xs.idxOf z:Int)=z:=by
 have h1:=List.idxOf_lt_length_of_mem h;refine ⟨by omega,ZX ?_⟩;rw [List.getElem?_eq_getElem h1,List.getElem_idxOf h1]
theorem ZHq {l:List (List Int)} {p:List Int} (hs:StrictL l) (hl:(l.length:Int)<=1048576) (hr:∀ x∈l,(x.length:Int)<=1048576) (hm:p∈l):
  Zc6 l p (fun r s=>Zam r s)=some ((l.idxOf p:Int),true):=by
 unfold Zc6;generalize a3:Zbx l p (fun r s=>Zam r s)=B;obtain ⟨a,hi⟩:=ZGI hm;generalize hI:(l.idxOf p:Int)=I at a hi ⊢;have b:0<=I:=ω;have eI:cmpL (ix l I) p=0:=(Zaw _ _).2 hi;have a9:∀ (d:Nat) (lo hi:Int),(hi-lo).toNat<=d->0<=lo->lo<=hi->hi<=(l.length:Int)->(∀ j,0<=j->j<lo->cmpL (ix l j) p<0)->(∀ j,hi<=j->j<(l.length:Int)->0<=cmpL (ix l j) p)->loop B (lo,hi)=some (I,true):=by
  intro d;induction d with
  | zero=>
   intro lo a2 w f h1 u h i;obtain rfl:lo=a2:=ω;have ac:lo<=I:=by
    rcases Int.lt_or_le I lo with c|c
    ·have:=h I b c;omega
    ·exact c
   have a5:I=lo:=by
    rcases Int.lt_or_le lo I with c|c
    ·have v:=hs lo I f c a;rw [hi] at v;have:=i lo ω ω;omega
    ·omega
   subst a5;have a8:=hr (ix l I) (Zj f a);have k:=Zbi (a:=ix l I) (b:=p) ω;refine Ze ?_;rw [<-a3];simp (disch:=omega) only [pz,Zbx,k]
  | succ d ih=>
   intro lo a2 w f h1 u h i;by_cases ad:lo<a2
   ·have hm:=ZtM f h1 (show a2<=1048576 by omega);have ab:lo<=(lo+a2)/2/\(lo+a2)/2<a2:=ω;have a8:=hr (ix l ((lo+a2)/2)) (Zj ω ω);have k:=Zbi (a:=ix l ((lo+a2)/2)) (b:=p) ω;have o:gNn 1=some ():=rfl;by_cases e:cmpL (ix l ((lo+a2)/2)) p<0
    ·have hB:B (lo,a2)=some (.inl ((lo+a2)/2+1,a2)):=by
      rw [<-a3];simp only [Zbx,hm,o];simp (disch:=omega) only [pz,k]
     rw [ZO hB];refine ih _ _ ω ω ω u (fun j a b=>?_) i;by_cases hj:j=(lo+a2)/2
     ·rw [hj];exact e
     ·have:=hs j ((lo+a2)/2) a ω ω;exact Zba _ _ _ this e
    ·have hB:B (lo,a2)=some (.inl (lo,(lo+a2)/2)):=by
      rw [<-a3];simp only [Zbx,hm,o];simp (disch:=omega) only [pz,k]
     rw [ZO hB];refine ih _ _ ω f ω ω h fun j a b=>?_;by_cases hj:j=(lo+a2)/2
     ·rw [hj];omega
     ·have v:=hs ((lo+a2)/2) j ω ω b;rcases Int.lt_or_le (cmpL (ix l j) p) 0 with c|c
      ·exact absurd (Zba _ _ _ v c) e
      ·exact c
   ·exact ih lo a2 ω f h1 u h i
 exact a9 _ 0 l.length (Nat.le_refl _) ω ω ω (fun j a b=>by omega) fun j a b=>by omega
structure Nr (near:List (List Int)):Prop where
 n:near.length<=64
 row:∀ a∈near,a.length<=64/\∀ w∈a,0<=w/\w<(near.length:Int)
theorem Nr.ix {near:List (List Int)} (h:Nr near) {v:Int} (e:0<=v) (h1:v<(near.length:Int)):(Vc.ix near v).length<=64/\∀ j,0<=j->j<((Vc.ix near v).length:Int)->0<=Vc.ix (Vc.ix near v) j/\Vc.ix (Vc.ix near v) j<(near.length:Int):=by
 obtain ⟨a,b⟩:=h.row _ (Zj e h1);exact ⟨a,fun j f i=>b _ (Zj f i)⟩
theorem Zx2 {near:List (List Int)} {cells:List Int} {v:Int}:(keyAt near cells v).length=(Vc.ix near v).length+1:=by
 unfold keyAt;rw [List.length_cons,(ZaV _).length_eq,List.length_map]
theorem Nr.keys {near:List (List Int)} (h:Nr near) {cells:List Int}:∀ x∈rkeys near cells,x.length<=65:=fun x f=>by
 obtain ⟨i,e,a,rfl⟩:=ZL f;rw [ZbO] at a;rw [ZcX e a,Zx2];have:=(h.ix e a).1;omega
theorem ZfW {α e:Type} [Inhabited α] {xs:List α} {f:α->e} {k:Int} (a:0<=k) (h1:k<(xs.length:Int)):(xs.take (k+1).toNat).map f=(xs.take k.toNat).map f++[f (Vc.ix xs k)]:=by
 rw [ZaC a h1,List.map_append];rfl
theorem around {near:List (List Int)} {cells:List Int} {v k:Int} (a:0<=k) (k1:k<((Vc.ix near v).length:Int)):((Vc.ix near v).take (k+1).toNat).map (fun w=>ix cells w)=((Vc.ix near v).take k.toNat).map (fun w=>ix cells w)++[ix cells (ix (Vc.ix near v) k)]:=ZfW a k1
theorem ZEy {a b:List Int} (h:(a.length:Int)<=1000):ZcD a b=some (decide (a=b)):=by
 by_cases e:a=b
 ·rw [(Zo5 ω).eq e,decide_eq_true e]
 ·rw [(Zo5 ω).ne e,decide_eq_false e]
theorem Zsy {near:List (List Int)} {cells:List Int} (hN:Nr near) (hl:cells.length=near.length):ZkN near cells=some (rnd near cells):=by
 unfold ZkN;have hn:=hN.n;have ab:gMake 24 ([]:List Int) (cells.length:Int) (cells.length:Int)=some (tabl near.length fun i=>if i<0 then keyAt near cells i else []):=by
  rw [ZaF ω ω ω,Int.toNat_natCast];congr 1;refine Zar (by rw [List.length_replicate,ZA];omega) fun i e h=>?_;rw [List.length_replicate] at h;rw [Za0 e ω,ZJ e ω,if_neg ω]
 rw [ab,Option.bind_some];have h1:=ZG (B:=Zkk near cells) (fun k=>(k,tabl near.length fun i=>if i<k then keyAt near cells i else [])) (i:=0) (n:=near.length) ω fun k o k1=>by
  obtain ⟨a,b⟩:=hN.ix o k1;generalize hX:(tabl near.length fun i=>if i<k then keyAt near cells i else [])=X;have ai:X.length=near.length:=by rw [<-hX,ZA];omega
  have aa:=ZG (B:=Zf5 cells k X (ix cells k) (Vc.ix near k)) (fun j=>(((Vc.ix near k).take j.toNat).map (fun w=>ix cells w),j)) (i:=0) (n:=(Vc.ix near k).length) ω fun j j0 j1=>by
   have s:=b j j0 j1;have az:(((Vc.ix near k).take j.toNat).map (fun w=>ix cells w)).length<=64:=by rw [List.length_map,List.length_take];omega
   simp (disch:=omega) only [pz,Zf5,around j0 j1]
  have e0:(([]:List Int),(0:Int))=(fun j:Int=>(((Vc.ix near k).take j.toNat).map (fun w=>ix cells w),j)) 0:=by simp
  have a4:=ZjU (p:=(Vc.ix near k).map (fun w=>ix cells w)) (by rw [List.length_map];omega);have ae:(sortI ((Vc.ix near k).map (fun w=>ix cells w))).length<=64:=by rw [(ZaV _).length_eq,List.length_map];omega
  have ad:gApp 8 [ix cells k] (sortI ((Vc.ix near k).map (fun w=>ix cells w)))=some (keyAt near cells k):=by
   rw [Za1 (by simp;omega) (by simp;omega)];rfl
  have hset:X.set k.toNat (keyAt near cells k)=tabl near.length fun i=>if i<k+1 then keyAt near cells i else []:=by
   rw [<-hX];refine Zav o k1 (fun i e h i2=>?_) ?_
   ·by_cases c:i<k
    ·rw [if_pos c,if_pos ω]
    ·rw [if_neg c,if_neg ω]
   ·rw [if_pos ω]
  have a6:loop (Zf5 cells k X (ix cells k) (Vc.ix near k)) (([]:List Int),0)=some (.inl (k+1,tabl near.length fun i=>if i<k+1 then keyAt near cells i else [])):=by
   rw [e0,aa];refine Ze ?_;rw [<-hset];simp (disch:=omega) only [pz,Zf5,a4,ad]
  simp (disch:=omega) only [pz,Zkk,a6]
 rw [h1];have e1:(tabl near.length fun i=>if i<(near.length:Int) then keyAt near cells i else [])=rkeys near cells:=Z2 fun i e h=>by rw [if_pos h]
 rw [e1];generalize hK:rkeys near cells=keys;have b0:keys.length=near.length:=by rw [<-hK,ZbO]
 have a3:∀ x∈keys,x.length<=65:=by rw [<-hK];exact hN.keys
 have af:ZhS keys=some keys:=by
  unfold ZhS;rw [Za1 (by simp;omega) (by simp;omega)];rfl
 have a4:=Zr7 (q:=keys) ω (fun x r=>by have:=a3 x r;omega);have ae:=Zau keys;obtain ⟨q,q1,q2,q3,q4⟩:=ZCG (f:=fun u v=>ZcD u v) (fun a b ha=>ZEy ha) (l:=sortRows keys) (fun x r=>by have:=a3 x (Zal.1 r);omega) (Zd4 keys);have hq:q=kindsOf keys:=Zta q2 fun z=>by rw [q3,Zal]
 have ag:Zf9 (sortRows keys) (fun u v=>ZcD u v)=some (kindsOf keys):=by
  unfold Zf9;rw [if_pos ω,q1,hq]
 have b1:(kindsOf keys).length<=64:=by have:=Zu2 keys;omega
 have y:∀ x∈kindsOf keys,x.length<=65:=fun x r=>a3 x (ZeO.1 r);have a9:=ZCg (ZlB keys);have a2:gMake 8 (0:Int) (cells.length:Int) (cells.length:Int)=some (tabl near.length fun i=>if i<0 then ix (rnd near cells) i else 0):=by
  rw [ZaF ω ω ω,Int.toNat_natCast];congr 1;refine Zar (by rw [List.length_replicate,ZA];omega) fun i e h=>?_;rw [List.length_replicate] at h;rw [Za0 e ω,ZJ e ω,if_neg ω]
 have h3:=ZG (B:=Zhy near cells keys (kindsOf keys)) (fun k=>(k,tabl near.length fun i=>if i<k then ix (rnd near cells) i else 0)) (i:=0) (n:=near.length) ω fun k o k1=>by
  have hm:ix keys k∈kindsOf keys:=ZeO.2 (Zj o ω);have s:=ZHq a9 ω (fun x r=>by have:=y x r;omega) hm;have ac:ix (rnd near cells) k=((kindsOf keys).idxOf (ix keys k):Int):=by
   rw [ZfP o k1,hK,<-hK,ZcX o k1]
  rw [<-ac] at s;have hset:(tabl near.length fun i=>if i<k then ix (rnd near cells) i else 0).set k.toNat (ix (rnd near cells) k)=tabl near.length fun i=>if i<k+1 then ix (rnd near cells) i else 0:=by
   refine Zav o k1 (fun i e h i2=>?_) ?_
   ·by_cases c:i<k
    ·rw [if_pos c,if_pos ω]
    ·rw [if_neg c,if_neg ω]
   ·rw [if_pos ω]
  generalize (tabl near.length fun i=>if i<k then ix (rnd near cells) i else 0)=X at hset ⊢;have ai:X.length=near.length:=by
   have:=congrArg List.length hset;rw [List.length_set,ZA] at this;omega
  simp (disch:=omega) only [pz,Zhy,s,hset]
 have e3:(tabl near.length fun i=>if i<(near.length:Int) then ix (rnd near cells) i else 0)=rnd near cells:=by
  have:=Zch (rnd near cells);rw [Zdv] at this;refine Eq.trans (Z2 fun i e h=>?_) this;rw [if_pos h]
 have h4:loop (Zhy near cells keys (kindsOf keys)) (0,tabl near.length fun i=>if i<0 then ix (rnd near cells) i else 0)=some (.inr (rnd near cells)):=by
  rw [h3,e3];exact Ze (by simp (disch:=omega) only [pz,Zhy])
 exact Ze (by simp (disch:=omega) only [pz,Zkk,af,a4,ag,a2,h4])
theorem Zsz {near:List (List Int)} (l:Nr near):∀ (f:Nat) (c:List Int),c.length=near.length->near.length<f+1+cnt c->loop (Ze3 near) c=some (refM near (f+1) c)
 | 0,c,e,hf=>by
  have h1:=ZpA e;have k:=ZeV (rnd near c);have i:=Zdv near c;have j:=l.n;have r:=ZiA (xs:=rnd near c) ω;have a:=ZiA (xs:=c) ω;have o:=Zsy l e;rw [refM,if_pos ω];exact Ze (by simp (disch:=omega) only [pz,Ze3,r,a,o])
 | f+1,c,e,hf=>by
  have h1:=ZpA e;have i:=Zdv near c;have j:=l.n;have r:=ZiA (xs:=rnd near c) ω;have a:=ZiA (xs:=c) ω;have o:=Zsy l e;rw [refM];by_cases h:cnt (rnd near c)=cnt c
  ·rw [if_pos h];exact Ze (by simp (disch:=omega) only [pz,Ze3,r,a,o])
  ·rw [if_neg h];have hB:Ze3 near c=some (.inl (rnd near c)):=by simp (disch:=omega) only [pz,Ze3,r,a,o]
   rw [ZO hB];exact Zsz l f (rnd near c) i ω
theorem ZuX {near:List (List Int)} {c:List Int} (e:Nr near) (a:c.length=near.length):ZjN near c=some (refN near c):=Zsz e near.length c a ω
def tb (n:Int) (F:Int->Int->Bool):List (List Bool):=tabl n fun a=>tabl n fun b=>F a b
theorem Zug {g:Zc} (hg:ValidG g):Nr (nearM g):=by
 have k:=hg.cl;have e:=Za3 g;refine ⟨by omega,fun a j=>?_⟩;obtain ⟨v,v0,v1,rfl⟩:=ZL j;rw [e] at v1;have:=Zya v0 v1;exact ⟨by omega,fun w h=>by rw [e];exact ((Zdq v0 v1).1 h).1⟩
def nb (es:List Zd) (v:Int):List Int:=es.filterMap fun e=>if e.A=v then some e.B else if e.B=v then some e.A else none
theorem Zvo {es:List Zd} {k:Int} (a:0<=k) (k1:k<(es.length:Int)) (v:Int):nb (es.take (k+1).toNat) v=nb (es.take k.toNat) v++(if (ix es k).A=v then [(ix es k).B] else if (ix es k).B=v then [(ix es k).A] else []):=by
 unfold nb;rw [ZaC a k1,List.filterMap_append];congr 1;by_cases c:(ix es k).A=v
 ·simp [c]
 ·by_cases d:(ix es k).B=v
  ·simp [c,d]
  ·simp [c,d]
theorem Zm2 (es:List Zd) (v:Int):(nb es v).length<=es.length:=List.length_filterMap_le _ _
theorem Zw8 {g:Zc} (hg:ValidG g) {v:Int} (v0:0<=v) (v1:v<(g.Colors.length:Int)):sortI (nb g.Edges v)=(idP g.Colors.length).filter fun b=>adj g.Edges v b:=by
 refine Zi7 ((ZaV _).trans ?_) (ZdV _) (((ZnX _).filter _));rw [List.perm_ext_iff_of_nodup]
 ·intro x;unfold nb;rw [List.mem_filterMap,List.mem_filter,Zap,Zmy];constructor
  ·rintro ⟨e,r,h⟩;have k:=Zb0 hg r;by_cases c:e.A=v
   ·rw [if_pos c] at h;obtain rfl:=Option.some.inj h;exact ⟨⟨by omega,by omega⟩,e,r,.inl ⟨c,rfl⟩⟩
   ·rw [if_neg c] at h;by_cases d:e.B=v
    ·rw [if_pos d] at h;obtain rfl:=Option.some.inj h;exact ⟨⟨by omega,by omega⟩,e,r,.inr ⟨rfl,d⟩⟩
    ·rw [if_neg d] at h;cases h
  ·rintro ⟨_,e,r,⟨c,d⟩|⟨c,d⟩⟩
   ·exact ⟨e,r,by rw [if_pos c,d]⟩
   ·have k:=Zb0 hg r;exact ⟨e,r,by rw [if_neg ω,if_pos d,c]⟩
 ·unfold nb List.Nodup;rw [List.pairwise_filterMap];refine (ZDZ hg).imp_of_mem fun {a b} ha l w x i y o u=>?_;have va:=Zb0 hg ha;have vb:=Zb0 hg l;subst u;unfold eLess at w;by_cases c:a.A=v
  ·rw [if_pos c] at i;obtain rfl:=Option.some.inj i;by_cases d:b.A=v
   ·rw [if_pos d] at o;have:=Option.some.inj o;omega
   ·rw [if_neg d] at o;by_cases f:b.B=v
    ·rw [if_pos f] at o;have:=Option.some.inj o;omega
    ·rw [if_neg f] at o;cases o
  ·rw [if_neg c] at i;by_cases f:a.B=v
   ·rw [if_pos f] at i;obtain rfl:=Option.some.inj i;by_cases d:b.A=v
    ·rw [if_pos d] at o;have:=Option.some.inj o;omega
    ·rw [if_neg d] at o;by_cases j:b.B=v
     ·rw [if_pos j] at o;have:=Option.some.inj o;omega
     ·rw [if_neg j] at o;cases o
   ·rw [if_neg f] at i;cases i
 ·exact (Zcg _).filter _
theorem ZHj {g:Zc} (hg:ValidG g):Zku g=some (nearM g):=by
 unfold Zku;have a6:=hg.cl;have a5:=hg.el;have a4:gMake 24 ([]:List Int) (g.Colors.length:Int) (g.Colors.length:Int)=some (tabl g.Colors.length fun v=>nb (g.Edges.take (0:Int).toNat) v):=by
  rw [ZaF ω ω ω,Int.toNat_natCast];congr 1;refine Zar (by rw [List.length_replicate,ZA];omega) fun i a f=>?_;rw [List.length_replicate] at f;rw [Za0 a ω,ZJ a ω];rfl
 rw [a4,Option.bind_some];have h1:=ZG (B:=ZkG g) (fun k=>(k,tabl g.Colors.length fun v=>nb (g.Edges.take k.toNat) v)) (i:=0) (n:=g.Edges.length) ω fun k h k1=>by
  obtain ⟨a0,ab,o⟩:=Zb0 hg (Zj h k1);have j:(tabl g.Colors.length fun v=>nb (g.Edges.take k.toNat) v).set (ix g.Edges k).A.toNat (nb (g.Edges.take k.toNat) (ix g.Edges k).A++[(ix g.Edges k).B])=tabl g.Colors.length fun v=>if v=(ix g.Edges k).A then nb (g.Edges.take k.toNat) v++[(ix g.Edges k).B] else nb (g.Edges.take k.toNat) v:=
   Zav a0 ω (fun i a f hi=>by rw [if_neg hi]) (by rw [if_pos rfl])
  have r:(tabl g.Colors.length fun v=>if v=(ix g.Edges k).A then nb (g.Edges.take k.toNat) v++[(ix g.Edges k).B] else nb (g.Edges.take k.toNat) v).set (ix g.Edges k).B.toNat (nb (g.Edges.take k.toNat) (ix g.Edges k).B++[(ix g.Edges k).A])=tabl g.Colors.length fun v=>nb (g.Edges.take (k+1).toNat) v:=by
   refine Zav ω o (fun i a f hi=>?_) ?_
   ·rw [Zvo h k1];by_cases c:i=(ix g.Edges k).A
    ·rw [if_pos c,if_pos c.symm]
    ·rw [if_neg c,if_neg fun e=>c e.symm,if_neg fun e=>hi e.symm,List.append_nil]
   ·rw [Zvo h k1,if_neg ω,if_pos rfl]
  have l:ix (tabl (g.Colors.length:Int) fun v=>nb (g.Edges.take k.toNat) v) (ix g.Edges k).A=nb (g.Edges.take k.toNat) (ix g.Edges k).A:=ZJ a0 ω;have s:ix (tabl (g.Colors.length:Int) fun v=>if v=(ix g.Edges k).A then nb (g.Edges.take k.toNat) v++[(ix g.Edges k).B] else nb (g.Edges.take k.toNat) v) (ix g.Edges k).B=nb (g.Edges.take k.toNat) (ix g.Edges k).B:=by rw [ZJ ω o,if_neg ω]
  have n1:=Zm2 (g.Edges.take k.toNat) (ix g.Edges k).A;have n2:=Zm2 (g.Edges.take k.toNat) (ix g.Edges k).B;rw [List.length_take] at n1 n2;have l1:(tabl (g.Colors.length:Int) fun v=>nb (g.Edges.take k.toNat) v).length=g.Colors.length:=by rw [ZA];omega
  have l2:(tabl (g.Colors.length:Int) fun v=>if v=(ix g.Edges k).A then nb (g.Edges.take k.toNat) v++[(ix g.Edges k).B] else nb (g.Edges.take k.toNat) v).length=g.Colors.length:=by rw [ZA];omega
  generalize (tabl (g.Colors.length:Int) fun v=>nb (g.Edges.take k.toNat) v)=X at j l l1 ⊢;generalize (tabl (g.Colors.length:Int) fun v=>if v=(ix g.Edges k).A then nb (g.Edges.take k.toNat) v++[(ix g.Edges k).B] else nb (g.Edges.take k.toNat) v)=Y at j r s l2;simp (disch:=omega) only [pz,ZkG,l,j,s,r]
 rw [h1,Int.toNat_natCast,List.take_length];have l0:(tabl (g.Colors.length:Int) fun v=>nb g.Edges v).length=g.Colors.length:=by rw [ZA];omega
 have u:=ZG (B:=Zfv (tabl g.Colors.length fun v=>nb g.Edges v)) (fun k=>(k,tabl g.Colors.length fun v=>if v<k then (idP g.Colors.length).filter (fun b=>adj g.Edges v b) else nb g.Edges v)) (i:=0) (n:=g.Colors.length) ω fun k h k1=>by
  have j:(tabl g.Colors.length fun v=>if v<k then (idP g.Colors.length).filter (fun b=>adj g.Edges v b) else nb g.Edges v).set k.toNat ((idP g.Colors.length).filter fun b=>adj g.Edges k b)=tabl g.Colors.length fun v=>if v<k+1 then (idP g.Colors.length).filter (fun b=>adj g.Edges v b) else nb g.Edges v:=by
   refine Zav h k1 (fun i a f hi=>?_) ?_
   ·by_cases c:i<k
    ·rw [if_pos c,if_pos ω]
    ·rw [if_neg c,if_neg ω]
   ·rw [if_pos ω]
  have l:ix (tabl (g.Colors.length:Int) fun v=>if v<k then (idP g.Colors.length).filter (fun b=>adj g.Edges v b) else nb g.Edges v) k=nb g.Edges k:=by rw [ZJ h k1,if_neg ω]
  have hn:=Zm2 g.Edges k;have a3:=ZjU (p:=nb g.Edges k) ω;rw [Zw8 hg h k1] at a3;have l1:(tabl (g.Colors.length:Int) fun v=>if v<k then (idP g.Colors.length).filter (fun b=>adj g.Edges v b) else nb g.Edges v).length=g.Colors.length:=by rw [ZA];omega
  generalize (tabl (g.Colors.length:Int) fun v=>if v<k then (idP g.Colors.length).filter (fun b=>adj g.Edges v b) else nb g.Edges v)=X at j l l1 ⊢;generalize (tabl (g.Colors.length:Int) fun v=>nb g.Edges v)=Y at l0 ⊢;simp (disch:=omega) only [pz,Zfv,l,a3,j]
 have w:(tabl (g.Colors.length:Int) fun v=>nb g.Edges v)=tabl g.Colors.length fun v=>if v<0 then (idP g.Colors.length).filter (fun b=>adj g.Edges v b) else nb g.Edges v:=Z2 fun i a f=>by rw [if_neg ω]
 have x:(tabl (g.Colors.length:Int) fun v=>if v<(g.Colors.length:Int) then (idP g.Colors.length).filter (fun b=>adj g.Edges v b) else nb g.Edges v)=nearM g:=Z2 fun i a f=>by rw [if_pos f]
 have y:loop (Zfv (tabl g.Colors.length fun v=>nb g.Edges v)) (0,tabl g.Colors.length fun v=>nb g.Edges v)=some (.inr (nearM g)):=by
  have a2:=u;rw [<-w,x] at a2;rw [a2];generalize (tabl (g.Colors.length:Int) fun v=>nb g.Edges v)=Y at l0 ⊢;exact Ze (by simp (disch:=omega) only [pz,Zfv])
 refine Ze ?_;simp (disch:=omega) only [pz,ZkG,y]
theorem compareE (a b:Zd):Zbj a b=some (eC a b):=by
 unfold Zbj;simp only [ZsT,or_ok,Option.bind_some];rfl
theorem eC_ok:CmpOk eC where
 swo:=by
  have t:∀ x y,ltC eC x y=true↔eLess x y:=fun x y=>by unfold ltC;rw [decide_eq_true_eq,eC_lt]
  have f:∀ x y,ltC eC x y=false↔¬ eLess x y:=fun x y=>by rw [<-t,Bool.not_eq_true]
  exact ⟨fun x=>(f x x).2 (by unfold eLess;omega),fun x y z h k=>(t x z).2 (Zk4 _ _ _ ((t _ _).1 h) ((t _ _).1 k)),fun x y z h k=>(f x z).2 (by
   have h:=(f _ _).1 h;have k:=(f _ _).1 k;unfold eLess at *;omega)⟩
 tot:=fun x y h k=>by
  unfold ltC at h k;simp only [decide_eq_false_iff_not] at h k;rw [eC_lt] at h k;unfold eLess at h k;cases x;cases y;simp only [Zd.mk.injEq] at *;omega
def mkE (e:Zd):Zd:=⟨min e.A e.B,max e.A e.B⟩
theorem ZrK {es:List Zd} (hl:es.length<=1000000):Zgh es=some (srtE (es.map mkE)):=by
 unfold Zgh;have h1:=ZG (B:=Zkd es) (fun k=>((es.take k.toNat).map mkE,k)) (i:=0) (n:=es.length) ω fun k e k1=>by
  have a4:((es.take k.toNat).map mkE).length<=1000000:=by rw [List.length_map,List.length_take];omega
  have hm:((es.take (k+1).toNat).map mkE)=(es.take k.toNat).map mkE++[mkE (ix es k)]:=ZfW e k1;have f:Zd.mk (if (ix es k).B<(ix es k).A then (ix es k).B else (ix es k).A) (if (ix es k).B>(ix es k).A then (ix es k).B else (ix es k).A)=mkE (ix es k):=by
   unfold mkE;congr 1
   ·by_cases c:(ix es k).B<(ix es k).A
    ·rw [if_pos c];omega
    ·rw [if_neg c];omega
   ·by_cases c:(ix es k).B>(ix es k).A
    ·rw [if_pos c];omega
    ·rw [if_neg c];omega
  rw [hm,<-f];simp (disch:=omega) only [pz,Zkd]
 have j:(([]:List Zd),(0:Int))=(fun k:Int=>((es.take k.toNat).map mkE,k)) 0:=rfl;rw [j,h1,Int.toNat_natCast,List.take_length];have hf:(fun a c=>(Zbj a c).getD 0)=eC:=by funext a c;rw [compareE];rfl
 have hs:ZgG (es.map mkE) (fun l o=>Zbj l o)=some (sortC eC (es.map mkE)):=by
  unfold ZgG;rw [if_pos ⟨⟨eC,compareE,eC_ok⟩,by rw [List.length_map];omega⟩,hf]
 have w:(sortC eC (es.map mkE)).Perm (es.map mkE):=List.mergeSort_perm _ _;have a2:(sortC eC (es.map mkE)).Pairwise fun a b=>¬ eLess b a:=by
  have:=List.pairwise_mergeSort (le:=fun x y=>!ltC eC y x) (fun a b c h k=>by
   simp only [Bool.not_eq_true',ltC,decide_eq_false_iff_not,eC_lt] at *;unfold eLess at *;omega) (fun a b=>by
   simp only [Bool.or_eq_true,Bool.not_eq_true',ltC,decide_eq_false_iff_not,eC_lt];unfold eLess;omega) (es.map mkE)
  refine List.Pairwise.imp (fun {a b} h=>?_) this;simpa [ltC,eC_lt] using h
 obtain ⟨q,r,q2,s⟩:=cptGL (eqb:=fun (a b:Zd)=>a.A==b.A&&a.B==b.B) (Le:=fun a b=>¬ eLess b a) (R:=eLess) (fun a b=>by
   cases a;cases b;simp) (fun a b h k=>by
   cases a;cases b;unfold eLess at *;simp only [Zd.mk.injEq,ne_eq] at *;omega) Zk4 a2
 have u:Zgb (sortC eC (es.map mkE))=some (srtE (es.map mkE)):=by
  have v:q=srtE (es.map mkE):=Zif q2 fun z=>by rw [s,w.mem_iff]
  unfold Zgb;rw [if_pos (by rw [w.length_eq,List.length_map];omega),r,v]
 exact Ze (by simp (disch:=omega) only [pz,Zkd,hs,u])
theorem Zzs {g:Zc} {p:List Int} (hp:Vc.Perm p g.Colors.length) {k:Int} (a:0<=k) (k1:k<(g.Colors.length:Int)):
  (tabl g.Colors.length fun i=>if (p.idxOf i:Int)<k then ix g.Colors (p.idxOf i:Int) else 0).set (ix p k).toNat (ix g.Colors k)=tabl g.Colors.length fun i=>if (p.idxOf i:Int)<k+1 then ix g.Colors (p.idxOf i:Int) else 0:=by
 have o:=hp.len;have j:=hp.rng _ (Zj (xs:=p) a ω);refine Zav j.1 j.2 (fun i f h hi=>?_) ?_
 ·have l:(p.idxOf i:Int)≠k:=fun e=>hi (by
   have:=(Zds (Ze1 hp f h)).2;rw [e] at this;exact this.symm)
  by_cases c:(p.idxOf i:Int)<k
  ·rw [if_pos c,if_pos ω]
  ·rw [if_neg c,if_neg ω]
 ·rw [ZtP hp.nd a ω,if_pos ω]
theorem ZIa {g:Zc} {p:List Int}:(tabl g.Colors.length fun i=>if (p.idxOf i:Int)<0 then ix g.Colors (p.idxOf i:Int) else 0)=List.replicate g.Colors.length 0:=by
 refine Zar (by rw [List.length_replicate,ZA];omega) fun i a e=>?_;rw [ZA] at e;rw [Za0 a ω,ZJ a ω,if_neg ω]
theorem ZDU {g:Zc} {p:List Int} (hp:Vc.Perm p g.Colors.length):(tabl g.Colors.length fun i=>if (p.idxOf i:Int)<(g.Colors.length:Int) then ix g.Colors (p.idxOf i:Int) else 0)=colM g p:=by
 have h:=hp.len;unfold colM;rw [h];refine Z2 fun i a e=>?_;have:=(Zds (Ze1 hp a e)).1;rw [if_pos ω]
def mvE (p:List Int) (e:Zd):Zd:=⟨ix p e.A,ix p e.B⟩
theorem mv_mk (p:List Int) (es:List Zd):(es.map (mvE p)).map mkE=es.map (mapE p):=by rw [List.map_map];rfl
theorem ZCp {g:Zc} (hg:ValidG g) {p:List Int} (hp:Vc.Perm p g.Colors.length):Zhe g p=some (relab g p):=by
 unfold Zhe;have a2:=hg.cl;have x:=hg.el;have hl:=hp.len;have o:gMake 8 (0:Int) (g.Colors.length:Int) (g.Colors.length:Int)=some (tabl g.Colors.length fun i=>if (p.idxOf i:Int)<0 then ix g.Colors (p.idxOf i:Int) else 0):=by
  rw [ZaF ω ω ω,Int.toNat_natCast,ZIa]
 rw [o,Option.bind_some];have h1:=ZG (B:=ZhQ g p) (fun k=>(k,tabl g.Colors.length fun i=>if (p.idxOf i:Int)<k then ix g.Colors (p.idxOf i:Int) else 0)) (i:=0) (n:=g.Colors.length) ω fun k a k1=>by
  have hs:=Zzs hp a k1;have hr:=hp.rng _ (Zj (xs:=p) a ω);have u:(tabl (g.Colors.length:Int) fun i=>if (p.idxOf i:Int)<k then ix g.Colors (p.idxOf i:Int) else 0).length=g.Colors.length:=by rw [ZA];omega
  generalize (tabl (g.Colors.length:Int) fun i=>if (p.idxOf i:Int)<k then ix g.Colors (p.idxOf i:Int) else 0)=X at hs u ⊢;simp (disch:=omega) only [pz,ZhQ,hs]
 rw [h1,ZDU hp];have e:=ZG (B:=ZfH g p (colM g p)) (fun k=>(k,(g.Edges.take k.toNat).map (mvE p))) (i:=0) (n:=g.Edges.length) ω fun k a k1=>by
  have j:=Zb0 hg (Zj a k1);have w:((g.Edges.take k.toNat).map (mvE p)).length<=512:=by rw [List.length_map,List.length_take];omega
  have r:((g.Edges.take (k+1).toNat).map (mvE p))=(g.Edges.take k.toNat).map (mvE p)++[Zd.mk (ix p (ix g.Edges k).A) (ix p (ix g.Edges k).B)]:=ZfW a k1;simp (disch:=omega) only [pz,ZfH,r]
 have f:((0:Int),([]:List Zd))=(fun k:Int=>(k,(g.Edges.take k.toNat).map (mvE p))) 0:=rfl;have l:=ZrK (es:=g.Edges.map (mvE p)) (by rw [List.length_map];omega);rw [mv_mk] at l;have h:loop (ZfH g p (colM g p)) (0,([]:List Zd))=some (.inr (relab g p)):=by
  rw [f,e,Int.toNat_natCast,List.take_length];exact Ze (by simp (disch:=omega) only [pz,ZfH,l];rfl)
 exact Ze (by simp (disch:=omega) only [pz,ZhQ,h])
theorem ZmR (n:Int):(idP n).Pairwise (·<·):=by
 have h:=List.Pairwise.and (ZnX n) (Zcg n);exact h.imp fun ⟨a,b⟩=>by omega
theorem ZBx {es:List Zd} {k:Int} (a:0<=k) (k1:k<(es.length:Int)):flatE (es.take (k+1).toNat)=flatE (es.take k.toNat)++[(ix es k).A,(ix es k).B]:=by
 unfold flatE;rw [ZaC a k1,List.flatMap_append];simp
theorem ZjA (es:List Zd):(flatE es).length=2*es.length:=by
 induction es with
 | nil=>rfl
 | cons e es a=>unfold flatE at *;rw [List.flatMap_cons,List.length_append,a];simp;omega
theorem Zvl {es:List Zd} (l:es.length<=1000000):Zhd es=some (flatE es):=by
 unfold Zhd;have h1:=ZG (B:=Zh2 es) (fun k=>(flatE (es.take k.toNat),k)) (i:=0) (n:=es.length) ω fun k a k1=>by
  have j:=ZjA (es.take k.toNat);rw [List.length_take] at j;have h:gApp 8 (flatE (es.take k.toNat)) [(ix es k).A,(ix es k).B]=some (flatE (es.take (k+1).toNat)):=by
   rw [Za1 (by simp;omega) (by simp;omega),ZBx a k1]
  simp (disch:=omega) only [pz,Zh2,h]
 have e:(([]:List Int),(0:Int))=(fun k:Int=>(flatE (es.take k.toNat),k)) 0:=rfl;rw [e,h1,Int.toNat_natCast,List.take_length];exact Ze (by simp (disch:=omega) only [pz,Zh2])
theorem ZF9 {g h:Zc} (i:g.Colors.length<=1000000) (h1:g.Edges.length<=1000000) (e:h.Edges.length<=1000000):Zfq g h=some (cmpG g h):=by
 unfold Zfq cmpG;have c1:=Zbi (a:=g.Colors) (b:=h.Colors) ω;have j:=ZjA g.Edges;have c2:=Zbi (a:=flatE g.Edges) (b:=flatE h.Edges) ω;have k1:=Zvl (es:=g.Edges) h1;have f:=Zvl (es:=h.Edges) e;by_cases c:cmpL g.Colors h.Colors=0
 ·rw [if_pos c];simp (disch:=omega) only [pz,c1,k1,f,c2]
 ·rw [if_neg c];simp (disch:=omega) only [pz,c1]
def ipS (g:Zc) (near:List (List Int)) (B:Int) (s:CSt):ZE:=⟨⟨B-s.nodes,s.full⟩,g,near,s.nodes,s.leaves,s.best,s.perms⟩
theorem ZqD {g:Zc} {p:List Int} {s:CSt} (h:s.perms=[]\/cmpG (relab g p) s.best<0):leafM g p s=⟨relab g p,[p],s.nodes,s.leaves+1,s.full⟩:=by
 unfold leafM;dsimp only;have a:(if s.perms=[] then (-1:Int) else cmpG (relab g p) s.best)<0:=by
  by_cases c:s.perms=[]
  ·rw [if_pos c];omega
  ·rw [if_neg c];exact h.resolve_left c
 rw [if_pos a,if_pos a]
theorem ZBM {g:Zc} {p:List Int} {s:CSt} (h:s.perms≠[]) (a:cmpG (relab g p) s.best=0):leafM g p s=⟨s.best,s.perms++[p],s.nodes,s.leaves+1,s.full⟩:=by
 unfold leafM;dsimp only;rw [if_neg h,a];simp
theorem ZDd {g:Zc} {p:List Int} {s:CSt} (h:s.perms≠[]) (a:0<cmpG (relab g p) s.best):leafM g p s=⟨s.best,s.perms,s.nodes,s.leaves+1,s.full⟩:=by
 unfold leafM;dsimp only;rw [if_neg h,if_neg ω,if_neg ω,if_neg ω]
theorem ZEM {g:Zc} (hg:ValidG g) {s:CSt} (a:Bst g s) (h:s.perms≠[]):s.best.Edges.length<=512:=by
 obtain ⟨p,hp,e⟩:=a h;rw [e];have:=(ZiO hg hp).el;omega
section
variable {g:Zc} {B:Int} (hg:ValidG g) (hB:B<=20000)
include hg hB
theorem Zxb {cells:List Int} {s:CSt} {K:Int} (hp:Vc.Perm cells g.Colors.length) (hK:K<=1000) (hi:CInv B K s) (i:Bst g s):
  ZeJ (ipS g (nearM g) B s) cells=some (ipS g (nearM g) B (leafM g cells s)):=by
 have a5:=hg.cl;have a3:=hg.el;have hl:=hp.len;have j:=hi.le;have k:=hi.pl;have l:=hi.nB;have o:=hi.n0;have w:Zhe (Zc.mk g.Colors g.Edges) cells=some (relab g cells):=ZCp hg hp;have e:=ZiO hg hp;have a4:=e.cl;have x:=e.el;unfold ZeJ ipS;dsimp only;by_cases r:s.perms=[]
 ·rw [ZqD (.inl r)];have f:(s.perms.length:Int)=0:=by rw [r];rfl
  have u:gApp 24 ([]:List (List Int)) [cells]=some [cells]:=rfl;simp (disch:=omega) only [pz,w,Zc8,ZdC,u]
 ·have f:0<s.perms.length:=List.length_pos_iff.2 r;have a2:=ZEM hg i r;have a:Zfq (Zc.mk (relab g cells).Colors (relab g cells).Edges) (Zc.mk s.best.Colors s.best.Edges)=some (cmpG (relab g cells) s.best):=ZF9 (g:=relab g cells) (h:=s.best) ω ω ω;have u:gApp 24 ([]:List (List Int)) [cells]=some [cells]:=rfl;rcases Int.lt_trichotomy (cmpG (relab g cells) s.best) 0 with c|c|c
  ·rw [ZqD (.inr c)];simp (disch:=omega) only [pz,w,Zc8,ZdC,a,u]
  ·rw [ZBM r c];simp (disch:=omega) only [pz,w,Zc8,ZdC,a,c]
  ·rw [ZDd r c];simp (disch:=omega) only [pz,w,Zc8,ZdC,a]
end
theorem Zly {g:Zc} {near:List (List Int)} {B:Int} {d:Nat} {cells:List Int}:∀ (vs:List Int) {s:CSt},s.full=true->vs.foldl (stepM g near B d cells) s=s
 | [],s,_=>rfl
 | v::vs,s,h=>by
  rw [List.foldl_cons];have:stepM g near B d cells s v=s:=by unfold stepM;rw [if_pos h]
  rw [this,Zly vs h]
theorem ZDq {g:Zc} {near:List (List Int)} {B:Int} {d:Nat} {cells:List Int} {s:CSt} {v:Int} (h:s.nodes=B):stepM g near B d cells s v={ s with full:=true }:=by
 unfold stepM;by_cases a:s.full=true
 ·rw [if_pos a];cases s;dsimp only at a;rw [a]
 ·rw [if_neg a,if_pos h]
theorem ZyF {g:Zc} {near:List (List Int)} {B:Int} {d:Nat} {cells:List Int} {s:CSt} {v:Int} (h:¬ s.nodes=B) (a:s.full=false):stepM g near B d cells s v=srch g near B d (refN near (sgl cells v)) { s with nodes:=s.nodes+1 }:=by
 unfold stepM;rw [if_neg (by rw [a];simp),if_neg h]
section
variable {g:Zc} {B:Int} (hg:ValidG g) (hB:B<=20000)
include hg hB
theorem Zvx:∀ (d m:Nat) (cells:List Int) (s:CSt) (K:Int),d<=m->Cel (nearM g).length cells->(nearM g).length<d+cnt cells->K<=1000->CInv B K s->Bst g s ->
  pn_impl_explorer_search m (ipS g (nearM g) B s) cells=some (ipS g (nearM g) B (srch g (nearM g) B d cells s))
 | 0,m,cells,s,K,hm,u,hd,hK,hi,y=>by have:=ZeV cells;have:=u.len;omega
 | d+1,m,cells,s,K,hm,u,hd,hK,hi,y=>by
  obtain ⟨m',rfl⟩:∃ m',m=m'+1:=⟨m-1,by omega⟩
  have hN:=Zug hg;have hn:=hN.n;have ak:=Za3 g;have aq:=u.len;show q_impl_explorer_search (pn_impl_explorer_search m') _ _=_;rw [Zk7];have a5:∀ x∈cells,0<=x:=fun x hx=>(u.rng x hx).1;have a3:=Zwo (cells:=cells) ω (fun x hx=>by have:=u.rng x hx;omega);by_cases ht:tgt cells<0
  ·rw [if_pos ht] at a3 ⊢;have b8:cells.Nodup:=by
    rcases ZdD a5 with ⟨_,h⟩|⟨h,_⟩
    ·exact h
    ·omega
   have hp:Vc.Perm cells g.Colors.length:=by rw [<-ak];exact u.perm b8
   have bd:=Zxb hg hB hp hK hi y;have ar:ZeJ (ZE.mk (Zad.mk (B-s.nodes) s.full) (Zc.mk g.Colors g.Edges) (nearM g) s.nodes s.leaves (Zc.mk s.best.Colors s.best.Edges) s.perms) cells=some (ipS g (nearM g) B (leafM g cells s)):=bd;unfold q_impl_explorer_search;rw [a3];show (ZeJ _ cells).bind _=_;unfold ipS;dsimp only;rw [ar];rfl
  ·rw [if_neg ht] at a3 ⊢;have ao:∀ j,0<=j->j<(cells.length:Int)->0<=ix cells j/\ix cells j<64:=fun j a b=>by
    have:=u.rng _ (Zj a b);omega
   have b7:(vts cells (tgt cells)).length<=64:=by
    have:=List.length_filter_le (fun v=>ix cells v==tgt cells) (idP (cells.length:Int));rw [Zaf] at this;unfold vts;omega
   have az:(vts cells (tgt cells)).length≠0:=fun e=>Zqu a5 ht (List.length_eq_zero_iff.1 e);have a8:∀ v∈vts cells (tgt cells),v∈vts cells (tgt cells):=fun v h=>h;generalize hV:vts cells (tgt cells)=V at a3 b7 az a8 ⊢;have a8:∀ v∈V,v∈vts cells (tgt cells):=by rw [hV];exact a8
   have b9:∀ (m2:Nat) (k:Int) (s:CSt),k+m2=(V.length:Int)->0<=k->CInv B K s->Bst g s->∀ (r:ZE),r.qgraph=g->r.qlists=nearM g ->
     loop (Zcz (pn_impl_explorer_search m') r cells V) (k,B-s.nodes,s.full,s.nodes,s.leaves,s.best.Colors,s.best.Edges,s.perms)=some (ipS g (nearM g) B ((V.drop k.toNat).foldl (stepM g (nearM g) B d cells) s)):=by
    intro m2;induction m2 with
    | zero=>
     intro k s hk k0 hi y r l o;obtain rfl:k=(V.length:Int):=ω;have e:V.drop ((V.length:Int)).toNat=[]:=List.drop_eq_nil_of_le ω;rw [e];refine Ze ?_;unfold Zcz;dsimp only;rw [l,o];simp (disch:=omega) only [pz,];rfl
    | succ m2 ih=>
     intro k s hk k0 hi y r l o;have a6:k<(V.length:Int):=ω;have i1:=hi.le;have i2:=hi.pl;have i3:=hi.nB;have i4:=hi.n0;rw [Za7 k0 a6,List.foldl_cons];have ac:=a8 _ (Zj k0 a6);generalize hv:ix V k=v at ac ⊢;obtain ⟨⟨v0,v1⟩,_⟩:=Zb3.1 ac;cases hf:s.full with
     | true=>
      have b3:stepM g (nearM g) B d cells s v=s:=by unfold stepM;rw [if_pos hf]
      rw [b3,Zly _ hf];refine Ze ?_;unfold Zcz;dsimp only;rw [l,o];simp (disch:=omega) only [pz,];unfold ipS;rw [hf]
     | false=>
      by_cases ap:s.nodes=B
      ·rw [ZDq ap,Zly _ rfl];refine Ze ?_;unfold Zcz Zj0;dsimp only;rw [l,o];simp (disch:=omega) only [pz,];rfl
      ·rw [ZyF ap hf];have bf:=u.more ht ac;have al:=Zdt cells v;have ab:Cel (nearM g).length (refN (nearM g) (sgl cells v)):=Cel.ref (by rw [al,aq]);have a7:CInv B (K-1) { s with nodes:=s.nodes+1 }:=⟨by show s.leaves<=s.nodes+1+(K-1);omega,i2,by show 0<=s.nodes+1;omega,by show s.nodes+1<=B;omega⟩
       have aa:=Zvx d m' (refN (nearM g) (sgl cells v)) { s with nodes:=s.nodes+1 } (K-1) ω ab ω ω a7 y;have a4:=Ztg g (nearM g) B d (refN (nearM g) (sgl cells v)) _ _ a7;rw [show K-1+1=K by omega] at a4;have ad:=(ZoF ak B d (refN (nearM g) (sgl cells v)) { s with nodes:=s.nodes+1 } ab ω y).1;generalize srch g (nearM g) B d (refN (nearM g) (sgl cells v)) { s with nodes:=s.nodes+1 }=f at aa a4 ad ⊢;have bc:=ZG (B:=Zez (pn_impl_explorer_search m') r cells k s.nodes s.leaves s.best.Colors s.best.Edges s.perms v (B-s.nodes-1) false) (fun j=>(j,tabl cells.length fun w=>if w<j then 2*ix cells w+1 else 0)) (i:=0) (n:=cells.length) ω fun j j0 j1=>by
        obtain ⟨x0,x1⟩:=ao j j0 j1;have hset:(tabl cells.length fun w=>if w<j then 2*ix cells w+1 else 0).set j.toNat (2*ix cells j+1)=tabl cells.length fun w=>if w<j+1 then 2*ix cells w+1 else 0:=by
         refine Zav j0 j1 (fun i i0 i1 hi=>?_) ?_
         ·by_cases c:i<j
          ·rw [if_pos c,if_pos ω]
          ·rw [if_neg c,if_neg ω]
         ·rw [if_pos ω]
        have hX:(tabl (cells.length:Int) fun w=>if w<j then 2*ix cells w+1 else 0).length=cells.length:=by rw [ZA];omega
        generalize (tabl (cells.length:Int) fun w=>if w<j then 2*ix cells w+1 else 0)=X at hset hX ⊢;simp (disch:=omega) only [pz,Zez,hset]
       have b6:gMake 8 (0:Int) (cells.length:Int) (cells.length:Int)=some (tabl cells.length fun w=>if w<0 then 2*ix cells w+1 else 0):=by
        rw [ZaF ω ω ω,Int.toNat_natCast];congr 1;refine Zar (by rw [List.length_replicate,ZA];omega) fun i i0 i1=>?_;rw [List.length_replicate] at i1;rw [Za0 i0 ω,ZJ i0 ω,if_neg ω]
       have hS:(tabl cells.length fun w=>if w<(cells.length:Int) then 2*ix cells w+1 else 0).set v.toNat (2*ix cells v+1-1)=sgl cells v:=by
        unfold sgl;refine Zav v0 v1 (fun i i0 i1 hi=>?_) ?_
        ·rw [if_neg hi,if_pos i1]
        ·rw [if_pos rfl];omega
       have am:ix (tabl cells.length fun w=>if w<(cells.length:Int) then 2*ix cells w+1 else 0) v=2*ix cells v+1:=by rw [ZJ v0 v1,if_pos v1]
       have hX:(tabl (cells.length:Int) fun w=>if w<(cells.length:Int) then 2*ix cells w+1 else 0).length=cells.length:=by rw [ZA];omega
       obtain ⟨af,ag⟩:=ao v v0 v1;have b0:=ZuX (c:=sgl cells v) hN (by rw [al,aq]);have aw:loop (Zez (pn_impl_explorer_search m') r cells k s.nodes s.leaves s.best.Colors s.best.Edges s.perms v (B-s.nodes-1) false) (0,tabl cells.length fun w=>if w<0 then 2*ix cells w+1 else 0)=some (.inl (k+1,B-f.nodes,f.full,f.nodes,f.leaves,f.best.Colors,f.best.Edges,f.perms)):=by
        rw [bc];refine Ze ?_;have aj:pn_impl_explorer_search m' (ZE.mk (Zad.mk (B-s.nodes-1) false) (Zc.mk g.Colors g.Edges) (nearM g) (s.nodes+1) s.leaves (Zc.mk s.best.Colors s.best.Edges) s.perms) (refN (nearM g) (sgl cells v))=some (ipS g (nearM g) B f):=by
         rw [<-aa];unfold ipS;rw [<-hf,show B-s.nodes-1=B-(s.nodes+1) by omega]
        generalize (tabl (cells.length:Int) fun w=>if w<(cells.length:Int) then 2*ix cells w+1 else 0)=X at hS am hX ⊢;unfold Zez;dsimp only;rw [l,o];simp (disch:=omega) only [pz,am,hS,b0,aj];rfl
       have b4:Zcz (pn_impl_explorer_search m') r cells V (k,B-s.nodes,false,s.nodes,s.leaves,s.best.Colors,s.best.Edges,s.perms)=some (.inl (k+1,B-f.nodes,f.full,f.nodes,f.leaves,f.best.Colors,f.best.Edges,f.perms)):=by
        unfold Zcz Zj0 Zoi;dsimp only;simp (disch:=omega) only [pz,hv,b6,aw]
       rw [ZO b4];exact ih (k+1) f ω ω a4 ad r l o
   have:=b9 V.length 0 s ω ω hi y (ipS g (nearM g) B s) rfl rfl;unfold q_impl_explorer_search;rw [a3,Option.bind_some,beq_f ω];exact this
end
end Go.Proofs.YtahnjnfpjcfklaaGreatDoor
