import Derived.Test.YtdmledeildfidaaGreatDoorPuJa
import Derived.Test.YtdmledeildfidaaGreatDoorPuEv
import Derived.Test.YtdmledeildfidaaGreatDoorCeFns
namespace Go.Proofs.YtdmledeildfidaaGreatDoor
open Go Go.Vc
set_option linter.unusedSimpArgs false
set_option linter.unusedVariables false
def qd (p a:Int):Nat->Int
 | 0=>a
 | i+1=>qd p a i/p
def pwN (p:Int):Nat->Int
 | 0=>1
 | i+1=>pwN p i*p
def dig (p:Int) (k:Int) (a:Int):List Int:=tabl k fun j=>qd p a j.toNat%p
def nmN (p:Int) (xs:List Int):Nat->Int
 | 0=>0
 | m+1=>nmN p xs m*p+ix xs ((xs.length:Int)-1-(m:Int))
def nm (p:Int) (xs:List Int):Int:=nmN p xs xs.length
def axAt (p c:Int) (ws:List Int) (off:Int) (xs:List Int):List Int:=tabl xs.length fun i=>if off<=i/\i<off+(ws.length:Int) then (ix xs i+c*ix ws (i-off))%p else ix xs i
def cnvN (p:Int) (as bs xs:List Int):Nat->List Int
 | 0=>xs
 | i+1=>axAt p (ix as (i:Int)) bs (i:Int) (cnvN p as bs xs i)
def rstN (p:Int) (poly:List Int) (xs:List Int):Nat->List Int
 | 0=>xs
 | m+1=>axAt p (p-ix (rstN p poly xs m) ((xs.length:Int)-1-(m:Int))) poly ((xs.length:Int)-1-(m:Int)-((poly.length:Int)-1)) (rstN p poly xs m)
def In (p:Int) (xs:List Int):Prop:=∀ i,0<=i->i<(xs.length:Int)->0<=ix xs i/\ix xs i<p
theorem ZeQ {p a:Int} (h:0<=a) (hp:2<=p):∀ i:Nat,0<=qd p a i/\qd p a i<=a
 | 0=>⟨h,Int.le_refl _⟩
 | i+1=>by
  obtain ⟨h1,c⟩:=ZeQ h hp i;have e:0<=qd p a i/p:=Int.ediv_nonneg h1 ω;have f:qd p a i/p<=qd p a i:=Int.ediv_le_self _ h1;exact ⟨e,Int.le_trans f c⟩
theorem Ztr {p a:Int} {i:Int} (h:0<=i):qd p a (i+1).toNat=qd p a i.toNat/p:=by
 rw [show (i+1).toNat=i.toNat+1 by omega];rfl
theorem ZaF {p k a:Int} (h:0<=k):((dig p k a).length:Int)=k:=by unfold dig;rw [Zj];omega
theorem ZbF {p k a:Int} (hp:2<=p):In p (dig p k a):=fun i c h1=>by
 unfold dig at h1 ⊢;rw [Zj] at h1;rw [ZG c ω];exact ⟨Int.emod_nonneg _ ω,Int.emod_lt_of_pos _ ω⟩
theorem Zli {p a k:Int} (ha:0<=a) (s:a<=4611686018427387904) (hp:2<=p) (u:p<=64) (hk:0<=k) (v:k<=64):Zbf a p k=some (dig p k a):=by
 unfold Zbf;have a0:=Zh (B:=Zer p) (fun i=>(qd p a i.toNat,k-i,tabl i fun j=>qd p a j.toNat%p)) (i:=0) (n:=k) hk fun i w h1=>by
  obtain ⟨c,x⟩:=ZeQ ha hp i.toNat;have f:=Int.tmod_eq_emod_of_nonneg (b:=p) c;have h:=Int.tdiv_eq_ediv_of_nonneg (b:=p) c;obtain ⟨l,o⟩:=ZeQ ha hp (i.toNat+1);have hl:(tabl i fun j=>qd p a j.toNat%p).length=i.toNat:=Zj;have e:k-(i+1)=k-i-1:=ω;have a5:0<=qd p a i.toNat/p:=l;have a4:qd p a i.toNat/p<=a:=o;simp (disch:=omega) only [pz,Zer,f,h,gApp1,hl,Ztr,ZU,e]
 have r:(a,k,([]:List Int))=(fun i:Int=>(qd p a i.toNat,k-i,tabl i fun j=>qd p a j.toNat%p)) 0:=by simp [qd,ZIX]
 rw [r,a0];refine Zc ?_;simp (disch:=omega) only [pz,Zer,Int.sub_self];rfl
theorem ZJ {a:Type} {n:Int} {f g:Int->a} (h:∀ i,0<=i->i<n->f i=g i):tabl n f=tabl n g:=by
 unfold tabl;apply List.map_congr_left;intro j e;rw [List.mem_range] at e;exact h j ω ω
theorem Zaj {j:Type} [Inhabited j] {n:Int} {f g:Int->j} {k:Int} (c:0<=k) (h1:k<n) (hg:∀ i,0<=i->i<n->i≠k->g i=f i) {y:j} (l:y=g k):(tabl n f).set k.toNat y=tabl n g:=by
 apply ZaC
 ·rw [List.length_set,Zj,Zj]
 ·intro i a e;rw [List.length_set,Zj] at e;by_cases h:k=i
  ·subst h;rw [Zc1 c (by rw [Zj];omega),ZG c h1,l]
  ·rw [ZhA c a h,ZG a ω,ZG a ω,hg i a ω ω]
theorem Zbk {e:Type} [Inhabited e] (xs:List e):tabl xs.length (fun i=>ix xs i)=xs:=by
 apply ZaC
 ·rw [Zj];omega
 ·intro i a c;rw [Zj] at c;rw [ZG a ω]
theorem Zd9 {e:Type} [Inhabited e] {n:Int} {z:e}:List.replicate n.toNat z=tabl n fun _=>z:=by
 apply ZaC
 ·rw [Zj,List.length_replicate]
 ·intro i a c;rw [List.length_replicate] at c;rw [ZG a ω,Zci a ω]
theorem Zg8 {p a k:Int} (ha:0<=a) (x:a<=4611686018427387904) (hp:2<=p) (y:p<=64) (hk:0<=k) (a0:k<=64):ZaW a p k=some (dig p k a):=by
 unfold ZaW;rw [Zas hk ω ω];show loop (ZdL p (List.replicate k.toNat 0)) (a,0,List.replicate k.toNat 0)=_;have a1:=Zh (B:=ZdL p (List.replicate k.toNat 0)) (fun i=>(qd p a i.toNat,i,tabl k fun j=>if j<i then qd p a j.toNat%p else 0)) (i:=0) (n:=k) hk fun i h h1=>by
  obtain ⟨e,g2⟩:=ZeQ ha hp i.toNat;have l:=Int.tmod_eq_emod_of_nonneg (b:=p) e;have o:=Int.tdiv_eq_ediv_of_nonneg (b:=p) e;obtain ⟨r,s⟩:=ZeQ ha hp (i.toNat+1);have hl:(tabl k fun j=>if j<i then qd p a j.toNat%p else 0).length=k.toNat:=Zj;have c:(List.replicate k.toNat (0:Int)).length=k.toNat:=List.length_replicate;have a7:0<=qd p a i.toNat/p:=r;have a6:qd p a i.toNat/p<=a:=s;have hset:(tabl k fun j=>if j<i then qd p a j.toNat%p else 0).set i.toNat (qd p a i.toNat%p)=tabl k fun j=>if j<i+1 then qd p a j.toNat%p else 0:=by
   apply Zaj h h1
   ·intro j u f j2;by_cases hj:j<i
    ·rw [if_pos hj,if_pos ω]
    ·rw [if_neg hj,if_neg ω]
   ·rw [if_pos ω]
  simp (disch:=omega) only [pz,ZdL,l,o,hl,c,Ztr,hset]
 have v:(a,(0:Int),List.replicate k.toNat (0:Int))=(fun i:Int=>(qd p a i.toNat,i,tabl k fun j=>if j<i then qd p a j.toNat%p else 0)) 0:=by
  show _=(a,(0:Int),_);rw [Zd9];congr 2
 rw [v,a1];refine Zc ?_;have c:(List.replicate k.toNat (0:Int)).length=k.toNat:=List.length_replicate;have w:(tabl k fun j=>if j<k then qd p a j.toNat%p else 0)=dig p k a:=by
  unfold dig;exact ZJ fun j u f=>by rw [if_pos f]
 simp (disch:=omega) only [pz,ZdL,c,w]
theorem Za6 {p:Int} (hp:2<=p):∀ m:Nat,1<=pwN p m
 | 0=>Int.le_refl _
 | m+1=>by
  have h:=Za6 hp m;have:1*2<=pwN p m*p:=Int.mul_le_mul h hp ω ω;show 1<=pwN p m*p;omega
theorem ZiP {p:Int} (hp:2<=p) {m:Nat}:∀ d:Nat,pwN p m<=pwN p (m+d)
 | 0=>Int.le_refl _
 | d+1=>by
  have h:=ZiP (m:=m) hp d;have h1:=Za6 hp (m+d);have:pwN p (m+d)*1<=pwN p (m+d)*p:=Int.mul_le_mul_of_nonneg_left ω ω;show _<=pwN p (m+d)*p;omega
theorem ZiR {p:Int} {xs:List Int} (hp:2<=p) (a:In p xs):∀ m:Nat,m<=xs.length->0<=nmN p xs m/\nmN p xs m<pwN p m
 | 0,_=>⟨Int.le_refl _,by show (0:Int)<1;omega⟩
 | m+1,hm=>by
  obtain ⟨h1,e⟩:=ZiR hp a m ω;obtain ⟨f,h⟩:=a ((xs.length:Int)-1-m) ω ω;have i:0<=nmN p xs m*p:=Int.mul_nonneg h1 ω;have c:(nmN p xs m+1)*p<=pwN p m*p:=Int.mul_le_mul_of_nonneg_right ω ω;rw [Int.add_mul,Int.one_mul] at c;refine ⟨?_,?_⟩
  ·show 0<=nmN p xs m*p+ix xs ((xs.length:Int)-1-(m:Int));omega
  ·show nmN p xs m*p+ix xs ((xs.length:Int)-1-(m:Int))<pwN p m*p;omega
theorem Zr8 {p:Int} {xs:List Int} (hp:2<=p) (k:p<=64) (a:In p xs) (hl:xs.length<=64) (hw:pwN p xs.length<=64):Zbs xs p=some (nm p xs):=by
 unfold Zbs;have x:=Zh (B:=Zd8 xs p) (fun m=>(nmN p xs m.toNat,(xs.length:Int)-1-m)) (i:=0) (n:=xs.length) ω fun m l h1=>by
  obtain ⟨e,o⟩:=ZiR hp a m.toNat ω;obtain ⟨r,s⟩:=ZiR hp a (m.toNat+1) ω;have f:=ZiP hp (m:=m.toNat+1) (xs.length-(m.toNat+1));rw [show m.toNat+1+(xs.length-(m.toNat+1))=xs.length by omega] at f;have em:nmN p xs (m.toNat+1)=nmN p xs m.toNat*p+ix xs ((xs.length:Int)-1-(m.toNat:Int)):=rfl;rw [show (m.toNat:Int)=m by omega] at em;have es:(m+1).toNat=m.toNat+1:=ω;have u:0<=nmN p xs m.toNat*p:=Int.mul_nonneg e ω;obtain ⟨v,w⟩:=a ((xs.length:Int)-1-m) ω ω;have c:(xs.length:Int)-1-(m+1)=(xs.length:Int)-1-m-1:=ω;simp (disch:=omega) only [pz,Zd8,es,em,c]
 have h:((0:Int),IntKind.i64.wrap ((xs.length:Int)-1))=(fun m:Int=>(nmN p xs m.toNat,(xs.length:Int)-1-m)) 0:=by
  show _=((0:Int),_);rw [wr64 ω ω];simp
 rw [h,x];refine Zc ?_;have j:(xs.length:Int)-1-(xs.length:Int)=-1:=ω;have c:(xs.length:Int).toNat=xs.length:=ω;simp (disch:=omega) only [pz,Zd8,j,c];rfl
theorem Zub (xs:List Int) (p:Int):Zkh xs p=Zbs xs p:=rfl
theorem Zba {p c off:Int} {ws xs:List Int}:(axAt p c ws off xs).length=xs.length:=by unfold axAt;rw [Zj];omega
theorem ZlL {p c off:Int} {ws xs:List Int} (hp:2<=p) (e:In p xs):In p (axAt p c ws off xs):=fun i a h1=>by
 rw [Zba] at h1;unfold axAt;rw [ZG a ω];split
 ·exact ⟨Int.emod_nonneg _ ω,Int.emod_lt_of_pos _ ω⟩
 ·exact e i a h1
theorem Ze2 {ρ:Type} {B:Int×List Int->Option ((Int×List Int) ⊕ ρ)} {p c off:Int} {ws xs:List Int} (o:0<=off) (h1:off+(ws.length:Int)<=xs.length)
  (hs:∀ j u,0<=j->j<(ws.length:Int)->u.length=xs.length->ix u (off+j)=ix xs (off+j)->B (j,u)=some (.inl (j+1,u.set (off+j).toNat ((ix xs (off+j)+c*ix ws j)%p)))):
  loop B (0,xs)=loop B ((ws.length:Int),axAt p c ws off xs):=by
 have w:=Zh (B:=B) (fun j=>(j,tabl xs.length fun i=>if off<=i/\i<off+j then (ix xs i+c*ix ws (i-off))%p else ix xs i)) (i:=0) (n:=ws.length) ω fun j a e=>by
  show B (j,_)=_;rw [hs j _ a e (by rw [Zj];omega) (by rw [ZG ω ω,if_neg ω])];congr 3;apply Zaj ω ω
  ·intro i f k r;by_cases h:off<=i/\i<off+j
   ·rw [if_pos h,if_pos ω]
   ·rw [if_neg h,if_neg ω]
  ·rw [if_pos ω,show off+j-off=j by omega]
 have l:((0:Int),xs)=(fun j:Int=>(j,tabl xs.length fun i=>if off<=i/\i<off+j then (ix xs i+c*ix ws (i-off))%p else ix xs i)) 0:=by
  show _=((0:Int),_);congr 1;refine (Zbk xs).symm.trans (ZJ fun i f k=>?_);rw [if_neg ω]
 rw [l,w];rfl
structure Fd (f:Ze):Prop where
 p2:2<=f.Prime
 p64:f.Prime<=64
 k1:1<=f.Degree
 k6:f.Degree<=6
 pl:(f.Poly.length:Int)=f.Degree+1
 mon:ix f.Poly f.Degree=1
 rng:In f.Prime f.Poly
 w64:pwN f.Prime f.Degree.toNat<=64
def sumA (f:Ze) (a b c:Int):Int:=nm f.Prime (axAt f.Prime c (dig f.Prime f.Degree b) 0 (dig f.Prime f.Degree a))
theorem Zgb {a b p:Int} (e:0<=a) (h1:a<=p) (c:0<=b) (f:b<=p) (hp:p<=64):0<=a*b/\a*b<=4096:=by
 refine ⟨Int.mul_nonneg e c,?_⟩;have:=Int.mul_le_mul (Int.le_trans h1 hp) (Int.le_trans f hp) c ω;omega
theorem Zv2 {f:Ze} (e:Fd f) (a b c:Int):Zbs (axAt f.Prime c (dig f.Prime f.Degree b) 0 (dig f.Prime f.Degree a)) f.Prime=some (sumA f a b c):=by
 have:=e.p2;have:=e.p64;have:=e.k1;have:=e.k6;have h:=ZaF (p:=f.Prime) (k:=f.Degree) (a:=a) ω;refine Zr8 ω ω (ZlL ω (ZbF ω)) (by rw [Zba];omega) ?_;rw [Zba,show (dig f.Prime f.Degree a).length=f.Degree.toNat by omega];exact e.w64
theorem Zr2 {f:Ze} (hf:Fd f) {a b c:Int} (ha:0<=a) (s:a<=4096) (i:0<=b) (u:b<=4096) (l:0<=c) (e:c<=f.Prime):Zir f a b c=some (sumA f a b c):=by
 have:=hf.p2;have:=hf.p64;have:=hf.k1;have:=hf.k6;have a4:=ZaF (p:=f.Prime) (k:=f.Degree) (a:=a) ω;have a3:=ZaF (p:=f.Prime) (k:=f.Degree) (a:=b) ω;unfold Zir;rw [Zli ha ω ω ω ω ω,Zli i ω ω ω ω ω];show loop (ZmI f c (dig f.Prime f.Degree b)) (0,dig f.Prime f.Degree a)=_;rw [Ze2 (p:=f.Prime) (c:=c) (off:=0) (ws:=dig f.Prime f.Degree b) ω ω fun j ys h v hy he=>by
  rw [Int.zero_add] at he ⊢;obtain ⟨w,x⟩:=ZbF (p:=f.Prime) (k:=f.Degree) (a:=a) ω j h ω;obtain ⟨o,y⟩:=ZbF (p:=f.Prime) (k:=f.Degree) (a:=b) ω j h ω;obtain ⟨g5,g6⟩:=Zgb l e o ω hf.p64;have r:=Int.tmod_eq_emod_of_nonneg (b:=f.Prime) (a:=ix (dig f.Prime f.Degree a) j+c*ix (dig f.Prime f.Degree b) j) ω;simp (disch:=omega) only [pz,ZmI,he,r]]
 refine Zc ?_;simp (disch:=omega) only [pz,ZmI,Zba,Zv2 hf a b c]
theorem ZDp {x y p:Int} (a:0<=x) (h1:0<=y) (hp:2<=p) (e:y<p):(x+-1*y+p)%p=(x+(p-1)*y)%p:=by
 have:x+(p-1)*y=(x+-1*y+p)+p*(y-1):=by
  rw [Int.sub_mul,Int.mul_sub,Int.one_mul];omega
 rw [this,Int.add_mul_emod_self_left]
theorem Zvp {f:Ze} (hf:Fd f) {a b c s:Int} (ha:0<=a) (w:a<=4096) (i:0<=b) (x:b<=4096) (hs:(s=1/\c=1)\/(s=-1/\c=f.Prime-1)):Zg9 f a b s=some (sumA f a b c):=by
 have:=hf.p2;have:=hf.p64;have:=hf.k1;have:=hf.k6;have a4:=ZaF (p:=f.Prime) (k:=f.Degree) (a:=a) ω;have a3:=ZaF (p:=f.Prime) (k:=f.Degree) (a:=b) ω;unfold Zg9;rw [Zg8 ha ω ω ω ω ω,Zg8 i ω ω ω ω ω];show loop (Zm1 f s (dig f.Prime f.Degree a) (dig f.Prime f.Degree b)) (0,dig f.Prime f.Degree a)=_;rw [Ze2 (p:=f.Prime) (c:=c) (off:=0) (ws:=dig f.Prime f.Degree b) ω ω fun j ys e y hy he=>by
  rw [Int.zero_add] at he ⊢;obtain ⟨l,g2⟩:=ZbF (p:=f.Prime) (k:=f.Degree) (a:=a) ω j e ω;obtain ⟨o,r⟩:=ZbF (p:=f.Prime) (k:=f.Degree) (a:=b) ω j e ω;have hm:-64<=s*ix (dig f.Prime f.Degree b) j/\s*ix (dig f.Prime f.Degree b) j<=64/\0<=ix (dig f.Prime f.Degree a) j+s*ix (dig f.Prime f.Degree b) j+f.Prime:=by
   rcases hs with ⟨h,_⟩|⟨h,_⟩<;>subst h<;>omega
  have u:=Int.tmod_eq_emod_of_nonneg (b:=f.Prime) (a:=ix (dig f.Prime f.Degree a) j+s*ix (dig f.Prime f.Degree b) j+f.Prime) ω;have v:(ix (dig f.Prime f.Degree a) j+s*ix (dig f.Prime f.Degree b) j+f.Prime)%f.Prime=(ix (dig f.Prime f.Degree a) j+c*ix (dig f.Prime f.Degree b) j)%f.Prime:=by
   rcases hs with ⟨h,h'⟩|⟨h,h'⟩<;>subst h<;>subst h'
   ·rw [Int.add_emod_right]
   ·exact ZDp l o ω r
  simp (disch:=omega) only [pz,Zm1,he,u,v]]
 refine Zc ?_;simp (disch:=omega) only [pz,Zm1,Zba,Zub,Zv2 hf a b c]
theorem Zst {xs:List Int} (h:(xs.length:Int)<=1048576):ZaZ xs=some xs:=by
 unfold ZaZ;rw [ZaQ (by simp;omega) (by simp;omega)];rfl
theorem ZbG {p:Int} {poly xs:List Int}:∀ m,(rstN p poly xs m).length=xs.length
 | 0=>rfl
 | m+1=>by show (axAt _ _ _ _ _).length=_;rw [Zba,ZbG m]
theorem ZhJ {p:Int} {poly xs:List Int} (hp:2<=p) (a:In p xs):∀ m,In p (rstN p poly xs m)
 | 0=>a
 | m+1=>ZlL hp (ZhJ hp a m)
theorem ZvJ {p:Int} {poly xs:List Int} {m:Int} (h:0<=m):rstN p poly xs (m+1).toNat=axAt p (p-ix (rstN p poly xs m.toNat) ((xs.length:Int)-1-m)) poly ((xs.length:Int)-1-m-((poly.length:Int)-1)) (rstN p poly xs m.toNat):=by
 rw [show (m+1).toNat=m.toNat+1 by omega];show axAt _ _ _ _ _=_;rw [show (m.toNat:Int)=m by omega]
theorem Zyi {poly k:List Int} (u:(k.length:Int)<=1048576) (r:1<=(poly.length:Int)) (h:(poly.length:Int)-1<=k.length):loop (ρ:=(Int×List Int) ⊕ List Int) (ZdE poly) k=some (.inr (k.take ((poly.length:Int)-1).toNat)):=by
 have o:=Zh (B:=ZdE poly) (fun j=>k.take ((k.length:Int)-j).toNat) (i:=0) (n:=(k.length:Int)-((poly.length:Int)-1)) ω fun j f h1=>by
  have l:(k.take ((k.length:Int)-j).toNat).length=((k.length:Int)-j).toNat:=by rw [List.length_take];omega
  have e:(List.take ((((k.length:Int)-j).toNat:Int)-1).toNat (k.take ((k.length:Int)-j).toNat)).drop (0:Int).toNat=k.take ((k.length:Int)-(j+1)).toNat:=by
   rw [show (0:Int).toNat=0 from rfl,List.drop_zero,List.take_take];congr 1;omega
  simp (disch:=omega) only [pz,ZdE,l,Zbr,e]
 have a:k=(fun j:Int=>k.take ((k.length:Int)-j).toNat) 0:=by simp
 conv=>lhs;rw [a]
 rw [o];refine Zc ?_;have c:(k.length:Int)-((k.length:Int)-((poly.length:Int)-1))=(poly.length:Int)-1:=ω;have l:(k.take ((poly.length:Int)-1).toNat).length=((poly.length:Int)-1).toNat:=by rw [List.length_take];omega
 simp (disch:=omega) only [pz,ZdE,c,l]
theorem ZIE {p y:Int} {poly ys:List Int} (hp:2<=p) (f:p<=64) (hP:In p poly) (hy:In p ys) (hl:(ys.length:Int)<=4096) (h1:1<=(poly.length:Int)) (s:(poly.length:Int)-1<=y) (h:y<ys.length):
  ZbV poly p (y,ys)=some (.inl (y-1,axAt p (p-ix ys y) poly (y-((poly.length:Int)-1)) ys)):=by
 have hg:0<=y:=ω;obtain ⟨u,v⟩:=hy y ω h;simp (disch:=omega) only [pz,ZbV];rw [Ze2 (p:=p) (c:=p-ix ys y) (off:=y-((poly.length:Int)-1)) (ws:=poly) ω ω fun j zs i k hz he=>by
  obtain ⟨l,o⟩:=hP j i k;obtain ⟨w,x⟩:=hy (y-((poly.length:Int)-1)+j) ω ω;obtain ⟨g7,g8⟩:=Zgb (a:=p-ix ys y) (b:=ix poly j) ω ω l (Int.le_of_lt o) f;have r:=Int.tmod_eq_emod_of_nonneg (b:=p) (a:=ix ys (y-((poly.length:Int)-1)+j)+(p-ix ys y)*ix poly j) ω;have e:y-(poly.length:Int)+1+j=y-((poly.length:Int)-1)+j:=ω;simp (disch:=omega) only [pz,ZhE,e,he,r]]
 refine Zc ?_;simp (disch:=omega) only [pz,ZhE]
theorem ZF4 {p y:Int} {poly ys:List Int} (hp:2<=p) (e:p<=64) (hP:In p poly) (hy:In p ys) (hl:(ys.length:Int)<=4096) (h1:1<=(poly.length:Int)) (s:(poly.length:Int)-1<=y) (f:y<ys.length):
  ZbY poly p (y,ys)=some (.inl (y-1,axAt p (p-ix ys y) poly (y-((poly.length:Int)-1)) ys)):=by
 have hg:0<=y:=ω;obtain ⟨u,v⟩:=hy y ω f;simp (disch:=omega) only [pz,ZbY];rw [Ze2 (p:=p) (c:=p-ix ys y) (off:=y-((poly.length:Int)-1)) (ws:=poly) ω ω fun j zs h i hz he=>by
  obtain ⟨k,l⟩:=hP j h i;obtain ⟨w,x⟩:=hy (y-((poly.length:Int)-1)+j) ω ω;obtain ⟨g7,g8⟩:=Zgb (a:=ix ys y) (b:=ix poly j) ω ω k (Int.le_of_lt l) e;generalize hX:ix ys (y-((poly.length:Int)-1)+j)=X at *;generalize hM:ix ys y*ix poly j=M at *;have b1:=Int.lt_tmod_of_pos (X-M) (by omega:(0:Int)<p);have b2:=Int.tmod_lt_of_pos (X-M) (by omega:(0:Int)<p);have o:=Int.tmod_eq_emod_of_nonneg (b:=p) (a:=(X-M).tmod p+p) ω;have r:((X-M).tmod p+p)%p=(X+(p-ix ys y)*ix poly j)%p:=by
   rw [Int.add_emod_right,Int.sub_mul,hM];have h9:=Int.mul_tdiv_add_tmod (X-M) p;have:(X+(p*ix poly j-M))=(X-M).tmod p+p*((X-M).tdiv p+ix poly j):=by
    rw [Int.mul_add];omega
   rw [this,Int.add_mul_emod_self_left]
  simp (disch:=omega) only [pz,ZgG,he,hM,o,r]]
 refine Zc ?_;simp (disch:=omega) only [pz,ZgG]
theorem ZxY {p:Int} {poly xs:List Int} (hp:2<=p) (a:p<=64) (r:In p poly) (c:In p xs) (u:(xs.length:Int)<=4096) (h1:1<=(poly.length:Int)) (j:(poly.length:Int)-1<=xs.length):
  ZdD xs poly p=some ((rstN p poly xs ((xs.length:Int)-((poly.length:Int)-1)).toNat).take ((poly.length:Int)-1).toNat):=by
 unfold ZdD;rw [Zst ω];show loop (ZbV poly p) (IntKind.i64.wrap ((xs.length:Int)-1),xs)=_;rw [wr64 ω ω];have l:=Zh (B:=ZbV poly p) (fun m=>((xs.length:Int)-1-m,rstN p poly xs m.toNat)) (i:=0) (n:=(xs.length:Int)-((poly.length:Int)-1)) ω fun m e k=>by
  have o:=ZbG (p:=p) (poly:=poly) (xs:=xs) m.toNat;show ZbV poly p ((xs.length:Int)-1-m,_)=_;rw [ZIE hp a r (ZhJ hp c _) ω h1 ω ω,ZvJ e,show (xs.length:Int)-1-(m+1)=(xs.length:Int)-1-m-1 by omega]
 have f:((xs.length:Int)-1,xs)=(fun m:Int=>((xs.length:Int)-1-m,rstN p poly xs m.toNat)) 0:=by
  show _=((xs.length:Int)-1-0,xs);rw [Int.sub_zero]
 rw [f,l];refine Zc ?_;have o:=ZbG (p:=p) (poly:=poly) (xs:=xs) ((xs.length:Int)-((poly.length:Int)-1)).toNat;have h:(xs.length:Int)-1-((xs.length:Int)-((poly.length:Int)-1))=(poly.length:Int)-2:=ω;simp (disch:=omega) only [pz,ZbV,h];rw [Zyi ω h1 ω]
theorem ZJa {p:Int} {poly xs:List Int} (hp:2<=p) (a:p<=64) (r:In p poly) (c:In p xs) (u:(xs.length:Int)<=4096) (h1:1<=(poly.length:Int)) (j:(poly.length:Int)-1<=xs.length):
  Zdu xs poly p=some ((rstN p poly xs ((xs.length:Int)-((poly.length:Int)-1)).toNat).take ((poly.length:Int)-1).toNat):=by
 unfold Zdu;rw [Zja ω];show loop (ZbY poly p) (IntKind.i64.wrap ((xs.length:Int)-1),xs)=_;rw [wr64 ω ω];have l:=Zh (B:=ZbY poly p) (fun m=>((xs.length:Int)-1-m,rstN p poly xs m.toNat)) (i:=0) (n:=(xs.length:Int)-((poly.length:Int)-1)) ω fun m e k=>by
  have o:=ZbG (p:=p) (poly:=poly) (xs:=xs) m.toNat;show ZbY poly p ((xs.length:Int)-1-m,_)=_;rw [ZF4 hp a r (ZhJ hp c _) ω h1 ω ω,ZvJ e,show (xs.length:Int)-1-(m+1)=(xs.length:Int)-1-m-1 by omega]
 have f:((xs.length:Int)-1,xs)=(fun m:Int=>((xs.length:Int)-1-m,rstN p poly xs m.toNat)) 0:=by
  show _=((xs.length:Int)-1-0,xs);rw [Int.sub_zero]
 rw [f,l];refine Zc ?_;have o:=ZbG (p:=p) (poly:=poly) (xs:=xs) ((xs.length:Int)-((poly.length:Int)-1)).toNat;have h:(xs.length:Int)-1-((xs.length:Int)-((poly.length:Int)-1))=(poly.length:Int)-2:=ω;simp (disch:=omega) only [pz,ZbY,h,o,ite_f,Zbr];rfl
def mulA (f:Ze) (a b:Int):Int:=
 nm f.Prime ((rstN f.Prime f.Poly (cnvN f.Prime (dig f.Prime f.Degree a) (dig f.Prime f.Degree b) (List.replicate (2*f.Degree-1).toNat 0) f.Degree.toNat) (f.Degree-1).toNat).take f.Degree.toNat)
theorem Za8 {p:Int} {as bs xs:List Int}:∀ m,(cnvN p as bs xs m).length=xs.length
 | 0=>rfl
 | m+1=>by show (axAt _ _ _ _ _).length=_;rw [Zba,Za8 m]
theorem ZbU {p:Int} {as bs xs:List Int} (hp:2<=p) (a:In p xs):∀ m,In p (cnvN p as bs xs m)
 | 0=>a
 | m+1=>ZlL hp (ZbU hp a m)
theorem ZwH {p:Int} {as bs xs:List Int} {m:Int} (h:0<=m):cnvN p as bs xs (m+1).toNat=axAt p (ix as m) bs m (cnvN p as bs xs m.toNat):=by
 rw [show (m+1).toNat=m.toNat+1 by omega];show axAt _ _ _ _ _=_;rw [show (m.toNat:Int)=m by omega]
theorem Zhz {p n:Int} (hp:2<=p):In p (List.replicate n.toNat 0):=fun i a h1=>by
 rw [List.length_replicate] at h1;rw [Zci a h1];omega
theorem Zva {p:Int} {xs:List Int} {n:Int} (h:In p xs):In p (xs.take n.toNat):=fun i a h1=>by
 rw [List.length_take] at h1;rw [Zda a ω];exact h i a ω
theorem Zzh {f:Ze} (hf:Fd f) {as bs ys:List Int} {i:Int} (ha:In f.Prime as) (e:In f.Prime bs) (hy:In f.Prime ys) (hl:(ys.length:Int)<=4096) (h:0<=i) (h1:i<as.length) (v:i+(bs.length:Int)<=ys.length):
  Zfz f as bs (i,ys)=some (.inl (i+1,axAt f.Prime (ix as i) bs i ys)):=by
 have:=hf.p2;have:=hf.p64;obtain ⟨w,k⟩:=ha i h h1;simp (disch:=omega) only [pz,Zfz];rw [Ze2 (p:=f.Prime) (c:=ix as i) (off:=i) (ws:=bs) ω ω fun j zs l o hz he=>by
  obtain ⟨r,s⟩:=e j l o;obtain ⟨x,y⟩:=hy (i+j) ω ω;obtain ⟨g7,g8⟩:=Zgb (a:=ix as i) (b:=ix bs j) ω (Int.le_of_lt k) r (Int.le_of_lt s) hf.p64;have u:=Int.tmod_eq_emod_of_nonneg (b:=f.Prime) (a:=ix ys (i+j)+ix as i*ix bs j) ω;simp (disch:=omega) only [pz,Zm8,he,u]]
 refine Zc ?_;simp (disch:=omega) only [pz,Zm8]
theorem ZHQ {f:Ze} (hf:Fd f) {as bs ys:List Int} {i:Int} (ha:In f.Prime as) (e:In f.Prime bs) (hy:In f.Prime ys) (hl:(ys.length:Int)<=4096) (h:0<=i) (h1:i<as.length) (v:i+(bs.length:Int)<=ys.length):
  Zee f as bs (i,ys)=some (.inl (i+1,axAt f.Prime (ix as i) bs i ys)):=by
 have:=hf.p2;have:=hf.p64;obtain ⟨w,k⟩:=ha i h h1;simp (disch:=omega) only [pz,Zee];rw [Ze2 (p:=f.Prime) (c:=ix as i) (off:=i) (ws:=bs) ω ω fun j zs l o hz he=>by
  obtain ⟨r,s⟩:=e j l o;obtain ⟨x,y⟩:=hy (i+j) ω ω;obtain ⟨g7,g8⟩:=Zgb (a:=ix as i) (b:=ix bs j) ω (Int.le_of_lt k) r (Int.le_of_lt s) hf.p64;have u:=Int.tmod_eq_emod_of_nonneg (b:=f.Prime) (a:=ix ys (i+j)+ix as i*ix bs j) ω;simp (disch:=omega) only [pz,Zqv,he,u]]
 refine Zc ?_;simp (disch:=omega) only [pz,Zqv]
theorem ZrP {f:Ze} (e:Fd f) (a b:Int):Zbs ((rstN f.Prime f.Poly (cnvN f.Prime (dig f.Prime f.Degree a) (dig f.Prime f.Degree b) (List.replicate (2*f.Degree-1).toNat 0) f.Degree.toNat) (f.Degree-1).toNat).take f.Degree.toNat) f.Prime=some (mulA f a b):=by
 have:=e.p2;have:=e.p64;have:=e.k1;have:=e.k6;have h:((rstN f.Prime f.Poly (cnvN f.Prime (dig f.Prime f.Degree a) (dig f.Prime f.Degree b) (List.replicate (2*f.Degree-1).toNat 0) f.Degree.toNat) (f.Degree-1).toNat).take f.Degree.toNat).length=f.Degree.toNat:=by
  rw [List.length_take,ZbG,Za8,List.length_replicate];omega
 refine Zr8 ω ω (Zva (ZhJ ω (ZbU ω (Zhz ω) _) _)) ω ?_;rw [h];exact e.w64
theorem Zlp {f:Ze} (o:Fd f) {a b:Int} (ha:0<=a) (j:a<=4096) (e:0<=b) (l:b<=4096):Ze3 f a b=some (mulA f a b):=by
 have:=o.p2;have:=o.p64;have:=o.k1;have:=o.k6;have a3:=o.pl;have a2:=ZaF (p:=f.Prime) (k:=f.Degree) (a:=a) ω;have a1:=ZaF (p:=f.Prime) (k:=f.Degree) (a:=b) ω;unfold Ze3;rw [Zli ha ω ω ω ω ω,Zli e ω ω ω ω ω];simp (disch:=omega) only [pz,Zas];have r:=Zhz (p:=f.Prime) (n:=2*f.Degree-1) ω;have a4:(List.replicate (2*f.Degree-1).toNat (0:Int)).length=(2*f.Degree-1).toNat:=List.length_replicate;have u:=Zh (B:=Zfz f (dig f.Prime f.Degree a) (dig f.Prime f.Degree b)) (fun i=>(i,cnvN f.Prime (dig f.Prime f.Degree a) (dig f.Prime f.Degree b) (List.replicate (2*f.Degree-1).toNat 0) i.toNat)) (i:=0) (n:=f.Degree) ω fun i c h1=>by
  have x:=Za8 (p:=f.Prime) (as:=dig f.Prime f.Degree a) (bs:=dig f.Prime f.Degree b) (xs:=List.replicate (2*f.Degree-1).toNat 0) i.toNat;show Zfz _ _ _ (i,_)=_;rw [Zzh o (ZbF ω) (ZbF ω) (ZbU ω r _) ω c ω ω,ZwH c]
 have h:((0:Int),List.replicate (2*f.Degree-1).toNat (0:Int))=(fun i:Int=>(i,cnvN f.Prime (dig f.Prime f.Degree a) (dig f.Prime f.Degree b) (List.replicate (2*f.Degree-1).toNat 0) i.toNat)) 0:=rfl;rw [h,u];refine Zc ?_;have x:=Za8 (p:=f.Prime) (as:=dig f.Prime f.Degree a) (bs:=dig f.Prime f.Degree b) (xs:=List.replicate (2*f.Degree-1).toNat 0) f.Degree.toNat;have w:=ZxY (p:=f.Prime) (poly:=f.Poly) (xs:=cnvN f.Prime (dig f.Prime f.Degree a) (dig f.Prime f.Degree b) (List.replicate (2*f.Degree-1).toNat 0) f.Degree.toNat) ω ω o.rng (ZbU ω r _) ω ω ω;rw [show ((cnvN f.Prime (dig f.Prime f.Degree a) (dig f.Prime f.Degree b) (List.replicate (2*f.Degree-1).toNat 0) f.Degree.toNat).length:Int)-((f.Poly.length:Int)-1)=f.Degree-1 by omega,show (f.Poly.length:Int)-1=f.Degree by omega] at w;simp (disch:=omega) only [pz,Zfz,w,ZrP o a b]
theorem Zuu {p c off z:Int} {ws xs:List Int} (h:off+(ws.length:Int)<=xs.length):axAt p c ws off (xs++[z])=axAt p c ws off xs++[z]:=by
 apply ZaC
 ·rw [Zba,List.length_append,List.length_append,Zba]
 ·intro i a e;rw [Zba,List.length_append] at e;have f:i<(xs.length:Int)+1:=by simpa using e
  unfold axAt;rw [ZG a (by rw [List.length_append];exact e)];by_cases hi:i<(xs.length:Int)
  ·rw [ZlE a hi,ZlE a (by rw [Zj];omega),ZG a ω]
  ·rw [if_neg ω,ZhV ω,ZhV (by rw [Zj];omega),Zj];congr 2
theorem Ztb {p z:Int} {as bs xs:List Int} {k:Nat} (h:(k:Int)-1+(bs.length:Int)<=xs.length):∀ m,m<=k->cnvN p as bs (xs++[z]) m=cnvN p as bs xs m++[z]
 | 0,_=>rfl
 | m+1,hm=>by
  show axAt _ _ _ _ (cnvN p as bs (xs++[z]) m)=axAt _ _ _ _ _++[z];rw [Ztb h m ω,Zuu (by rw [Za8];omega)]
theorem ZE1 {p off:Int} {ws xs:List Int} (a:In p xs):axAt p p ws off xs=xs:=by
 refine Eq.trans (ZJ fun i c e=>?_) (Zbk xs);obtain ⟨h1,f⟩:=a i c e;split
 ·rw [Int.add_mul_emod_self_left,Int.emod_eq_of_lt h1 f]
 ·rfl
theorem Zvk {p:Int} {poly xs:List Int} (hp:2<=p) (c:In p xs) (a:In p (xs++[0])) (h1:1<=(poly.length:Int)):∀ m:Nat,(m:Int)+((poly.length:Int)-1)<=xs.length->rstN p poly (xs++[0]) (m+1)=rstN p poly xs m++[0]
 | 0,h=>by
  show axAt p (p-ix (xs++[0]) _) _ _ (xs++[0])=xs++[0];rw [ZhV (by rw [List.length_append];simp),List.length_append];rw [show (((xs.length+[(0:Int)].length:Nat):Int)-1-((0:Nat):Int)-(xs.length:Int))=0 by simp,Zrq,Int.sub_zero,ZE1 a]
 | m+1,h=>by
  have e:=ZbG (p:=p) (poly:=poly) (xs:=xs) m;show axAt p (p-ix (rstN p poly (xs++[0]) (m+1)) _) poly _ (rstN p poly (xs++[0]) (m+1))=axAt _ _ _ _ _++[0];rw [Zvk hp c a h1 m ω,List.length_append];rw [show (((xs.length+[(0:Int)].length:Nat):Int)-1-((m+1:Nat):Int))=(xs.length:Int)-1-(m:Int) by simp;omega];rw [ZlE ω ω,Zuu ω]
theorem ZBn {f:Ze} (u:Fd f) {a b:Int} (ha:0<=a) (o:a<=4096) (h:0<=b) (r:b<=4096):Zjl f a b=some (mulA f a b):=by
 have:=u.p2;have:=u.p64;have:=u.k1;have:=u.k6;have a7:=u.pl;have a6:=ZaF (p:=f.Prime) (k:=f.Degree) (a:=a) ω;have a5:=ZaF (p:=f.Prime) (k:=f.Degree) (a:=b) ω;unfold Zjl;rw [Zg8 ha ω ω ω ω ω,Zg8 h ω ω ω ω ω];simp (disch:=omega) only [pz,Zas];have a2:=Zhz (p:=f.Prime) (n:=2*f.Degree-1) ω;have c:=Zhz (p:=f.Prime) (n:=2*f.Degree) ω;have a8:(List.replicate (2*f.Degree).toNat (0:Int)).length=(2*f.Degree).toNat:=List.length_replicate;have j:(List.replicate (2*f.Degree-1).toNat (0:Int)).length=(2*f.Degree-1).toNat:=List.length_replicate;have w:List.replicate (2*f.Degree).toNat (0:Int)=List.replicate (2*f.Degree-1).toNat 0++[0]:=by
  rw [show (2*f.Degree).toNat=(2*f.Degree-1).toNat+1 by omega,List.replicate_succ']
 have a1:=Zh (B:=Zee f (dig f.Prime f.Degree a) (dig f.Prime f.Degree b)) (fun i=>(i,cnvN f.Prime (dig f.Prime f.Degree a) (dig f.Prime f.Degree b) (List.replicate (2*f.Degree).toNat 0) i.toNat)) (i:=0) (n:=f.Degree) ω fun i e h1=>by
  have hL:=Za8 (p:=f.Prime) (as:=dig f.Prime f.Degree a) (bs:=dig f.Prime f.Degree b) (xs:=List.replicate (2*f.Degree).toNat 0) i.toNat;show Zee _ _ _ (i,_)=_;rw [ZHQ u (ZbF ω) (ZbF ω) (ZbU ω c _) ω e ω ω,ZwH e]
 have l:((0:Int),List.replicate (2*f.Degree).toNat (0:Int))=(fun i:Int=>(i,cnvN f.Prime (dig f.Prime f.Degree a) (dig f.Prime f.Degree b) (List.replicate (2*f.Degree).toNat 0) i.toNat)) 0:=rfl;rw [l,a1];refine Zc ?_;have hL:=Za8 (p:=f.Prime) (as:=dig f.Prime f.Degree a) (bs:=dig f.Prime f.Degree b) (xs:=List.replicate (2*f.Degree).toNat 0) f.Degree.toNat;have x:=ZJa (p:=f.Prime) (poly:=f.Poly) (xs:=cnvN f.Prime (dig f.Prime f.Degree a) (dig f.Prime f.Degree b) (List.replicate (2*f.Degree).toNat 0) f.Degree.toNat) ω ω u.rng (ZbU ω c _) ω ω ω;rw [show ((cnvN f.Prime (dig f.Prime f.Degree a) (dig f.Prime f.Degree b) (List.replicate (2*f.Degree).toNat 0) f.Degree.toNat).length:Int)-((f.Poly.length:Int)-1)=f.Degree by omega,show (f.Poly.length:Int)-1=f.Degree by omega] at x;have hA:=Ztb (p:=f.Prime) (z:=0) (as:=dig f.Prime f.Degree a) (bs:=dig f.Prime f.Degree b) (xs:=List.replicate (2*f.Degree-1).toNat 0) (k:=f.Degree.toNat) ω f.Degree.toNat (Nat.le_refl _);have a9:=Za8 (p:=f.Prime) (as:=dig f.Prime f.Degree a) (bs:=dig f.Prime f.Degree b) (xs:=List.replicate (2*f.Degree-1).toNat 0) f.Degree.toNat;have hB:=Zvk (p:=f.Prime) (poly:=f.Poly) ω (ZbU (p:=f.Prime) (as:=dig f.Prime f.Degree a) (bs:=dig f.Prime f.Degree b) ω a2 f.Degree.toNat) (by rw [<-hA,<-w];exact ZbU ω c _) ω (f.Degree-1).toNat ω;rw [<-w] at hA;rw [show (f.Degree-1).toNat+1=f.Degree.toNat by omega] at hB;rw [hA] at x ⊢;rw [hB,List.take_append_of_le_length (by rw [ZbG];omega)] at x;simp (disch:=omega) only [pz,Zee,x,Zub,ZrP u a b]
noncomputable def gx (xs:List Int):Nat->Int:=List.rec (fun _=>0) (fun a _ e n=>Nat.rec a (fun m _=>e m) n) xs
theorem gx_ok:∀ (xs:List Int) (n:Nat),gx xs n=ix xs (n:Int)
 | [],n=>by simp [gx,ix]
 | a::xs,0=>rfl
 | a::xs,n+1=>by
  show gx xs n=_;rw [gx_ok xs n,Zb8 ω];congr 1;omega
theorem Zpo {a:Type} {n:Nat} {f:Int->a}:tabl ((n+1:Nat):Int) f=f 0::tabl (n:Int) fun i=>f (i+1):=by
 unfold tabl;rw [show (((n+1:Nat):Int)).toNat=n+1 by omega,List.range_succ_eq_map,List.map_cons,List.map_map];congr 1
noncomputable def axR (p c:Int) (ws:List Int):List Int->List Int:=List.rec (fun xs=>xs) (fun w _ a xs=>List.rec [] (fun x xs _=>Int.emod (Int.add x (Int.mul c w)) p::a xs) xs) ws
noncomputable def axE (p c:Int) (ws:List Int) (off:Nat):List Int->List Int:=Nat.rec (axR p c ws) (fun _ a xs=>List.rec [] (fun x xs _=>x::a xs) xs) off
theorem Zo7 {p c:Int}:∀ (ws xs:List Int),ws.length<=xs.length->axR p c ws xs=axAt p c ws 0 xs
 | [],xs,_=>by
  show xs=_;refine (Zbk xs).symm.trans (ZJ fun i a e=>?_);rw [if_neg (by rw [show (([]:List Int).length:Int)=0 from rfl];omega)]
 | w::ws,[],h=>by simp at h
 | w::ws,x::xs,h=>by
  show ((x+c*w)%p)::axR p c ws xs=_;rw [Zo7 ws xs (by simpa using h)];unfold axAt;rw [show (((x::xs).length:Nat):Int)=((xs.length+1:Nat):Int) from rfl,Zpo];congr 1
  ·rw [if_pos (by rw [show (((w::ws).length:Nat):Int)=(ws.length:Int)+1 by simp];omega)];rfl
  ·refine ZJ fun i a e=>?_;rw [show (((w::ws).length:Nat):Int)=(ws.length:Int)+1 by simp];by_cases hi:i<(ws.length:Int)
   ·rw [if_pos ω,if_pos ω,Zb8 ω,Zb8 ω,show i+1-1=i by omega,show i+1-0-1=i-0 by omega]
   ·rw [if_neg ω,if_neg ω,Zb8 ω,show i+1-1=i by omega]
theorem Zoi {p c:Int} {ws:List Int}:∀ (off:Nat) (xs:List Int),off+ws.length<=xs.length->axE p c ws off xs=axAt p c ws (off:Int) xs
 | 0,xs,h=>Zo7 ws xs ω
 | off+1,[],h=>by simp at h
 | off+1,x::xs,h=>by
  show x::axE p c ws off xs=_;rw [Zoi off xs (by simp at h;omega)];unfold axAt;rw [show (((x::xs).length:Nat):Int)=((xs.length+1:Nat):Int) from rfl,Zpo];congr 1;refine ZJ fun i a e=>?_;by_cases hi:(off:Int)<=i/\i<(off:Int)+(ws.length:Int)
  ·rw [if_pos hi,if_pos ω,Zb8 ω,show i+1-1=i by omega,show i+1-((off+1:Nat):Int)=i-(off:Int) by omega]
  ·rw [if_neg hi,if_neg ω,Zb8 ω,show i+1-1=i by omega]
noncomputable def digE (p:Int) (k:Nat):Int->List Int:=Nat.rec (fun _=>[]) (fun _ e a=>Frc.frc (Int.ediv a p) fun h=>Int.emod a p::e h) k
theorem Zss (p a:Int):∀ i:Nat,qd p a (i+1)=qd p (a/p) i
 | 0=>rfl
 | i+1=>by show qd p a (i+1)/p=_;rw [Zss p a i];rfl
theorem Zh7 {p:Int}:∀ (k:Nat) (a:Int),digE p k a=dig p (k:Int) a
 | 0,a=>rfl
 | k+1,a=>by
  show Frc.frc (Int.ediv a p) _=_;rw [Frc.ok];show (a%p)::digE p k (a/p)=_;rw [Zh7 k (a/p)];unfold dig;rw [Zpo];congr 1;refine ZJ fun i c e=>?_;rw [show (i+1).toNat=i.toNat+1 by omega,Zss]
noncomputable def nmE (p:Int) (xs:List Int):Int:=List.rec 0 (fun d _ r=>Int.add (Int.mul r p) d) xs
theorem Zs0 {p d:Int} {a:List Int}:∀ m:Nat,m<=a.length->nmN p (d::a) m=nmN p a m
 | 0,_=>rfl
 | m+1,h=>by
  show nmN p (d::a) m*p+ix (d::a) _=nmN p a m*p+ix a _;rw [Zs0 m ω,Zb8 (by simp;omega)];congr 2;simp;omega
theorem Zqm {p:Int}:∀ xs:List Int,nmE p xs=nm p xs
 | []=>rfl
 | d::ds=>by
  show nmE p ds*p+d=nmN p (d::ds) (ds.length+1);show nmE p ds*p+d=nmN p (d::ds) ds.length*p+ix (d::ds) _;rw [Zs0 _ (Nat.le_refl _),Zqm ds,show (((d::ds).length:Nat):Int)-1-(ds.length:Int)=0 by simp,Zrq];rfl
noncomputable def sumE (p:Int) (k:Nat) (a b c:Int):Int:=Frc.frc (digE p k a) fun as=>Frc.frc (digE p k b) fun bs=>Frc.frc (axR p c bs as) fun xs=>nmE p xs
noncomputable def cnvE (p:Int) (as bs xs:List Int) (m:Nat):List Int:=Nat.rec xs (fun i r=>axE p (gx as i) bs i r) m
noncomputable def rstE (p:Int) (poly:List Int) (l k:Nat) (xs:List Int) (m:Nat):List Int:=Nat.rec xs (fun m r=>Frc.frc r fun a=>Frc.frc (Int.sub p (gx a (Nat.sub (Nat.sub l 1) m))) fun c=>axE p c poly (Nat.sub (Nat.sub (Nat.sub l 1) m) k) a) m
noncomputable def tkE (n:Nat):List Int->List Int:=Nat.rec (fun _=>[]) (fun _ a xs=>List.rec [] (fun x xs _=>x::a xs) xs) n
theorem ZvG:∀ (n:Nat) (xs:List Int),tkE n xs=xs.take n
 | 0,xs=>rfl
 | n+1,[]=>rfl
 | n+1,x::xs=>by show x::tkE n xs=_;rw [ZvG n xs];rfl
noncomputable def rpE (n:Nat):List Int:=Nat.rec [] (fun _ r=>0::r) n
theorem Zt5:∀ n:Nat,rpE n=List.replicate n 0
 | 0=>rfl
 | n+1=>by show 0::rpE n=_;rw [Zt5 n];rfl
noncomputable def mulE (p:Int) (k:Nat) (poly:List Int) (a b:Int):Int:=
 Frc.frc (digE p k a) fun as=>Frc.frc (digE p k b) fun bs=>
 Frc.frc (cnvE p as bs (rpE (Nat.sub (Nat.mul 2 k) 1)) k) fun xs=>Frc.frc (rstE p poly (Nat.sub (Nat.mul 2 k) 1) k xs (Nat.sub k 1)) fun e=>nmE p (tkE k e)
theorem Zvl {p:Int} {as bs xs:List Int}:∀ m:Nat,(m:Int)-1+(bs.length:Int)<=xs.length->cnvE p as bs xs m=cnvN p as bs xs m
 | 0,_=>rfl
 | m+1,h=>by
  show axE p (gx as m) bs m (cnvE p as bs xs m)=axAt _ _ _ _ _;rw [Zvl m ω,Zoi m _ (by rw [Za8];omega),gx_ok]
theorem ZrS {p:Int} {poly xs:List Int} {l k:Nat} (e:xs.length=l) (j:poly.length=k+1):∀ m:Nat,m+k<=l->rstE p poly l k xs m=rstN p poly xs m
 | 0,_=>rfl
 | m+1,h=>by
  show Frc.frc (rstE p poly l k xs m) _=axAt _ _ _ _ _;rw [Frc.ok,Frc.ok,ZrS e j m ω,gx_ok];rw [Zoi _ _ (by rw [ZbG,e,j];show l-1-m-k+(k+1)<=l;omega)];rw [e,j];have a:((Nat.sub (Nat.sub l 1) m:Nat):Int)=(l:Int)-1-(m:Int):=by
   show ((l-1-m:Nat):Int)=_;omega
  have c:((Nat.sub (Nat.sub (Nat.sub l 1) m) k:Nat):Int)=(l:Int)-1-(m:Int)-(((k+1:Nat):Int)-1):=by
   show ((l-1-m-k:Nat):Int)=_;omega
  rw [a,c];rfl
theorem ZFP {f:Ze} (j:Fd f) {k:Nat} (h:f.Degree=(k:Int)) (a b c:Int):sumE f.Prime k a b c=sumA f a b c:=by
 unfold sumE sumA;rw [Frc.ok,Frc.ok,Frc.ok,Zh7,Zh7,Zqm,h];rw [Zo7 _ _ (by
  have h1:=ZaF (p:=f.Prime) (k:=(k:Int)) (a:=a) ω;have e:=ZaF (p:=f.Prime) (k:=(k:Int)) (a:=b) ω;omega)]
theorem ZD0 {f:Ze} (j:Fd f) {k:Nat} (l:f.Degree=(k:Int)) (a b:Int):mulE f.Prime k f.Poly a b=mulA f a b:=by
 have:=j.k1;have:=j.k6;have o:=j.pl;have h1:=ZaF (p:=f.Prime) (k:=(k:Int)) (a:=a) ω;have h:=ZaF (p:=f.Prime) (k:=(k:Int)) (a:=b) ω;unfold mulE mulA;rw [Frc.ok,Frc.ok,Frc.ok,Frc.ok,Zh7,Zh7,Zqm,l,ZvG,Zt5];have c:Nat.sub (Nat.mul 2 k) 1=(2*(k:Int)-1).toNat:=by show 2*k-1=_;omega
 have e:Nat.sub k 1=((k:Int)-1).toNat:=by show k-1=_;omega
 rw [c,e,Int.toNat_natCast];rw [Zvl k (by rw [List.length_replicate];omega)];rw [ZrS (by rw [Za8,List.length_replicate]) ω _ ω]
set_option maxRecDepth 20000
noncomputable def allN (n:Nat) (f:Nat->Bool):Bool:=Nat.rec true (fun m r=>bif f m then r else false) n
theorem ZdJ {f:Nat->Bool}:∀ {n:Nat},allN n f=true->∀ m,m<n->f m=true
 | 0,_,m,hm=>by omega
 | n+1,h,m,hm=>by
  have a:(bif f n then allN n f else false)=true:=h;cases hf:f n with
  | false=>rw [hf] at a;cases a
  | true=>
   rw [hf] at a;by_cases e:m=n
   ·rw [e];exact hf
   ·exact ZdJ a m ω
noncomputable def ngE (p:Int) (k:Nat) (a:Int):Int:=sumE p k 0 a (Int.sub p 1)
noncomputable def eqb (a b:Bool):Bool:=Bool.rec (Bool.rec true false b) b a
theorem Zso {a b:Bool} (h:eqb a b=true):a=b:=by cases a<;>cases b<;>first|rfl|cases h
noncomputable def both (a b:Bool):Bool:=Bool.rec false b a
theorem Zd4 {a b:Bool} (h:both a b=true):a=true/\b=true:=by cases a<;>cases b<;>first|exact ⟨rfl,rfl⟩|cases h
theorem ZdS {a b:Int} (h:eqi a b=true):a=b:=by rw [<-Zr] at h;simpa using h
theorem ZiS {a b:Int}:eqi a b=true↔a=b:=by rw [<-Zr];simp
theorem ZGY {a b:Int}:lti a b=true↔a<b:=by rw [<-Zs];simp
noncomputable def chk (p:Int) (k:Nat) (poly e:List Int) (q:Nat):Bool:=
 allN q fun a=>allN (Nat.succ a) fun b=>Frc.frc (mulE p k poly (.ofNat a) (.ofNat b)) fun m=>
  both (eqi m (mulE p k poly (.ofNat b) (.ofNat a))) (both (eqb (eqi m 1) (eqi (.ofNat b) (gx e a))) (eqb (eqi m 1) (eqi (.ofNat a) (gx e b))))
noncomputable def chkN (p:Int) (k:Nat) (poly:List Int) (q:Nat):Bool:=
 allN q fun a=>Frc.frc (ngE p k (.ofNat a)) fun e=>allN q fun b=>both (Frc.frc (mulE p k poly (.ofNat a) (.ofNat b)) fun m=>eqi (mulE p k poly e (.ofNat b)) (ngE p k m))
  (Frc.frc (ngE p k (.ofNat b)) fun nb=>eqi (sumE p k (.ofNat a) (.ofNat b) (Int.sub p 1)) (sumE p k (.ofNat a) nb 1))
noncomputable def chk1 (p:Int) (k:Nat) (poly e:List Int) (q:Nat):Bool:=
 allN q fun a=>both (eqi (mulE p k poly 0 (.ofNat a)) 0) (both (eqi (sumE p k (.ofNat a) 0 (Int.sub p 1)) (.ofNat a)) (Nat.rec true (fun _ _=>both (lti 0 (gx e a)) (lti (gx e a) (.ofNat q))) a))
noncomputable def chk2 (p:Int) (k:Nat) (q:Nat):Bool:=both (eqi p 2) (allN q fun a=>eqi (ngE p k (.ofNat a)) (.ofNat a))
inductive GF:Int->Ze->Prop
 | f2:GF 2 ⟨2,1,[0,1]⟩
 | f3:GF 3 ⟨3,1,[0,1]⟩
 | f4:GF 4 ⟨2,2,[1,1,1]⟩
 | f5:GF 5 ⟨5,1,[0,1]⟩
 | f7:GF 7 ⟨7,1,[0,1]⟩
 | f8:GF 8 ⟨2,3,[1,1,0,1]⟩
 | f9:GF 9 ⟨3,2,[1,0,1]⟩
 | f11:GF 11 ⟨11,1,[0,1]⟩
 | f13:GF 13 ⟨13,1,[0,1]⟩
 | f16:GF 16 ⟨2,4,[1,1,0,0,1]⟩
 | f17:GF 17 ⟨17,1,[0,1]⟩
 | f19:GF 19 ⟨19,1,[0,1]⟩
 | f23:GF 23 ⟨23,1,[0,1]⟩
 | f25:GF 25 ⟨5,2,[2,0,1]⟩
 | f27:GF 27 ⟨3,3,[1,2,0,1]⟩
 | f29:GF 29 ⟨29,1,[0,1]⟩
 | f31:GF 31 ⟨31,1,[0,1]⟩
 | f32:GF 32 ⟨2,5,[1,0,1,0,0,1]⟩
 | f37:GF 37 ⟨37,1,[0,1]⟩
 | f41:GF 41 ⟨41,1,[0,1]⟩
 | f43:GF 43 ⟨43,1,[0,1]⟩
 | f47:GF 47 ⟨47,1,[0,1]⟩
 | f49:GF 49 ⟨7,2,[1,0,1]⟩
 | f53:GF 53 ⟨53,1,[0,1]⟩
 | f59:GF 59 ⟨59,1,[0,1]⟩
 | f61:GF 61 ⟨61,1,[0,1]⟩
 | f64:GF 64 ⟨2,6,[1,1,0,0,0,0,1]⟩
structure Ff (f:Ze) (q:Int) (inv:List Int):Prop where
 fd:Fd f
 pw:pwN f.Prime f.Degree.toNat=q
 q2:2<=q
 q64:q<=64
 comm:∀ a b,0<=a->a<q->0<=b->b<q->mulA f a b=mulA f b a
 neg:∀ a b,0<=a->a<q->0<=b->b<q->mulA f (sumA f 0 a (f.Prime-1)) b=sumA f 0 (mulA f a b) (f.Prime-1)
 sub:∀ a b,0<=a->a<q->0<=b->b<q->sumA f a b (f.Prime-1)=sumA f a (sumA f 0 b (f.Prime-1)) 1
 inv1:∀ a,1<=a->a<q->1<=ix inv a/\ix inv a<q
 inv2:∀ a b,0<=a->a<q->0<=b->b<q->(mulA f a b=1↔b=ix inv a)
 z1:∀ a,0<=a->a<q->mulA f 0 a=0
 z2:∀ a,0<=a->a<q->sumA f a 0 (f.Prime-1)=a
theorem ZvN {f:Ze} {q:Int} (h:Fd f) (a:pwN f.Prime f.Degree.toNat=q) {xs:List Int} (c:In f.Prime xs) (e:xs.length=f.Degree.toNat):0<=nm f.Prime xs/\nm f.Prime xs<q:=by
 have:=ZiR h.p2 c xs.length (Nat.le_refl _);unfold nm;rw [e,a] at this;rw [e];exact this
theorem ZlF {f:Ze} {q:Int} (h:Fd f) (e:pwN f.Prime f.Degree.toNat=q) (a b c:Int):0<=sumA f a b c/\sumA f a b c<q:=by
 have:=h.p2;have:=h.k1;refine ZvN h e (ZlL ω (ZbF ω)) ?_;have:=ZaF (p:=f.Prime) (k:=f.Degree) (a:=a) ω;rw [Zba];omega
theorem ZcI {f:Ze} {q:Int} (e:Fd f) (c:pwN f.Prime f.Degree.toNat=q) (a b:Int):0<=mulA f a b/\mulA f a b<q:=by
 have:=e.p2;have:=e.k1;refine ZvN e c (Zva (ZhJ ω (ZbU ω (Zhz ω) _) _)) ?_;rw [List.length_take,ZbG,Za8,List.length_replicate];omega
theorem ff_of {f:Ze} {q k:Nat} {a2:List Int} (hf:Fd f) (hk:f.Degree=(k:Int)) (w:pwN f.Prime k=q) (a6:2<=q) (x:q<=64) (h1:chk f.Prime k f.Poly a2 q=true) (y:chk1 f.Prime k f.Poly a2 q=true) (h3:chkN f.Prime k f.Poly q=true\/chk2 f.Prime k q=true):Ff f q a2:=by
 have hM:∀ a b,mulE f.Prime k f.Poly a b=mulA f a b:=ZD0 hf hk;have hS:∀ a b c,sumE f.Prime k a b c=sumA f a b c:=ZFP hf hk;have a7:pwN f.Prime f.Degree.toNat=(q:Int):=by rw [hk,Int.toNat_natCast];exact w
 have a3:∀ a b:Nat,a<q->b<=a->mulA f a b=mulA f b a/\(mulA f a b=1↔(b:Int)=ix a2 a)/\(mulA f a b=1↔(a:Int)=ix a2 b):=by
  intro a b ha l;have h:=ZdJ (ZdJ h1 a ha) b ω;simp only [Frc.ok] at h;obtain ⟨o,e⟩:=Zd4 h;obtain ⟨e,r⟩:=Zd4 e;rw [hM,hM] at o;have e:=Zso e;have r:=Zso r;rw [hM,gx_ok] at e;rw [hM,gx_ok] at r;refine ⟨ZdS o,?_,?_⟩
  ·rw [<-ZiS,<-ZiS (a:=(b:Int))];exact ⟨fun h=>e.symm.trans h,fun h=>e.trans h⟩
  ·rw [<-ZiS,<-ZiS (a:=(a:Int))];exact ⟨fun h=>r.symm.trans h,fun h=>r.trans h⟩
 have a1:∀ {a:Int},0<=a->a<(q:Int)->∃ n:Nat,a=(n:Int)/\n<q:=fun {a} h0 h1=>⟨a.toNat,by omega,by omega⟩
 have one:∀ a:Nat,a<q->mulA f 0 a=0/\sumA f a 0 (f.Prime-1)=a/\(1<=a->1<=ix a2 a/\ix a2 a<q):=by
  intro a ha;obtain ⟨o,e⟩:=Zd4 (ZdJ y a ha);obtain ⟨e,r⟩:=Zd4 e;rw [hM] at o;rw [hS] at e;refine ⟨ZdS o,ZdS e,fun h=>?_⟩;cases a with
  | zero=>omega
  | succ n=>
   obtain ⟨g4,v⟩:=Zd4 (show both _ _=true from r);rw [gx_ok,ZGY] at g4 v;exact ⟨by omega,v⟩
 have a8:∀ a b:Nat,a<q->b<q->mulA f (sumA f 0 a (f.Prime-1)) b=sumA f 0 (mulA f a b) (f.Prime-1)/\sumA f a b (f.Prime-1)=sumA f a (sumA f 0 b (f.Prime-1)) 1:=by
  intro a b ha l;rcases h3 with h|h
  ·have h:=ZdJ h a ha;simp only [Frc.ok] at h;have h:=ZdJ h b l;obtain ⟨o,e⟩:=Zd4 h;unfold ngE at o e;simp only [hM,hS] at o e;exact ⟨ZdS o,ZdS e⟩
  ·obtain ⟨o,e⟩:=Zd4 h;have hp:=ZdS o;have ng:∀ a:Nat,a<q->sumA f 0 a (f.Prime-1)=a:=fun a ha=>by
    have:=ZdS (ZdJ e a ha);unfold ngE at this;rw [hS] at this;exact this
   rw [ng a ha,ng b l];obtain ⟨m0,m1⟩:=ZcI hf a7 a b;obtain ⟨m,em,hm⟩:=a1 m0 m1;rw [em,ng m hm];refine ⟨rfl,?_⟩;rw [hp];rfl
 refine ⟨hf,a7,by omega,by omega,?_,?_,?_,?_,?_,?_,?_⟩
 ·intro a b j i s u;obtain ⟨a,rfl,ha⟩:=a1 j i;obtain ⟨b,rfl,l⟩:=a1 s u;by_cases h:b<=a
  ·exact (a3 a b ha h).1
  ·exact (a3 b a l ω).1.symm
 ·intro a b j i s u;obtain ⟨a,rfl,ha⟩:=a1 j i;obtain ⟨b,rfl,l⟩:=a1 s u;exact (a8 a b ha l).1
 ·intro a b j i s u;obtain ⟨a,rfl,ha⟩:=a1 j i;obtain ⟨b,rfl,l⟩:=a1 s u;exact (a8 a b ha l).2
 ·intro a j i;obtain ⟨a,rfl,ha⟩:=a1 ω i;exact (one a ha).2.2 ω
 ·intro a b j i s u;obtain ⟨a,rfl,ha⟩:=a1 j i;obtain ⟨b,rfl,l⟩:=a1 s u;by_cases h:b<=a
  ·exact (a3 a b ha h).2.1
  ·have:=a3 b a l ω;rw [<-this.1];exact this.2.2
 ·intro a j i;obtain ⟨a,rfl,ha⟩:=a1 j i;exact (one a ha).1
 ·intro a j i;obtain ⟨a,rfl,ha⟩:=a1 j i;exact (one a ha).2.1
theorem ff2:Ff ⟨2,1,[0,1]⟩ 2 [(-1),1]:=by
 refine ff_of (q:=2) (k:=1) ⟨by decide,by decide,by decide,by decide,rfl,rfl,?_,by decide⟩ rfl (by decide) (by decide) (by decide) κ κ (.inr κ);intro i a h1;rcases (show i=0\/i=1 by simp at h1;omega) with rfl|rfl<;>decide
theorem ff3:Ff ⟨3,1,[0,1]⟩ 3 [(-1),1,2]:=by
 refine ff_of (q:=3) (k:=1) ⟨by decide,by decide,by decide,by decide,rfl,rfl,?_,by decide⟩ rfl (by decide) (by decide) (by decide) κ κ (.inl κ);intro i a h1;rcases (show i=0\/i=1 by simp at h1;omega) with rfl|rfl<;>decide
theorem ff4:Ff ⟨2,2,[1,1,1]⟩ 4 [(-1),1,3,2]:=by
 refine ff_of (q:=4) (k:=2) ⟨by decide,by decide,by decide,by decide,rfl,rfl,?_,by decide⟩ rfl (by decide) (by decide) (by decide) κ κ (.inr κ);intro i a h1;rcases (show i=0\/i=1\/i=2 by simp at h1;omega) with rfl|rfl|rfl<;>decide
theorem ff5:Ff ⟨5,1,[0,1]⟩ 5 [(-1),1,3,2,4]:=by
 refine ff_of (q:=5) (k:=1) ⟨by decide,by decide,by decide,by decide,rfl,rfl,?_,by decide⟩ rfl (by decide) (by decide) (by decide) κ κ (.inl κ);intro i a h1;rcases (show i=0\/i=1 by simp at h1;omega) with rfl|rfl<;>decide
theorem ff7:Ff ⟨7,1,[0,1]⟩ 7 [(-1),1,4,5,2,3,6]:=by
 refine ff_of (q:=7) (k:=1) ⟨by decide,by decide,by decide,by decide,rfl,rfl,?_,by decide⟩ rfl (by decide) (by decide) (by decide) κ κ (.inl κ);intro i a h1;rcases (show i=0\/i=1 by simp at h1;omega) with rfl|rfl<;>decide
theorem ff8:Ff ⟨2,3,[1,1,0,1]⟩ 8 [(-1),1,5,6,7,2,3,4]:=by
 refine ff_of (q:=8) (k:=3) ⟨by decide,by decide,by decide,by decide,rfl,rfl,?_,by decide⟩ rfl (by decide) (by decide) (by decide) κ κ (.inr κ);intro i a h1;rcases (show i=0\/i=1\/i=2\/i=3 by simp at h1;omega) with rfl|rfl|rfl|rfl<;>decide
theorem ff9:Ff ⟨3,2,[1,0,1]⟩ 9 [(-1),1,2,6,5,4,3,8,7]:=by
 refine ff_of (q:=9) (k:=2) ⟨by decide,by decide,by decide,by decide,rfl,rfl,?_,by decide⟩ rfl (by decide) (by decide) (by decide) κ κ (.inl κ);intro i a h1;rcases (show i=0\/i=1\/i=2 by simp at h1;omega) with rfl|rfl|rfl<;>decide
theorem ff11:Ff ⟨11,1,[0,1]⟩ 11 [(-1),1,6,4,3,9,2,8,7,5,10]:=by
 refine ff_of (q:=11) (k:=1) ⟨by decide,by decide,by decide,by decide,rfl,rfl,?_,by decide⟩ rfl (by decide) (by decide) (by decide) κ κ (.inl κ);intro i a h1;rcases (show i=0\/i=1 by simp at h1;omega) with rfl|rfl<;>decide
theorem ff13:Ff ⟨13,1,[0,1]⟩ 13 [(-1),1,7,9,10,8,11,2,5,3,4,6,12]:=by
 refine ff_of (q:=13) (k:=1) ⟨by decide,by decide,by decide,by decide,rfl,rfl,?_,by decide⟩ rfl (by decide) (by decide) (by decide) κ κ (.inl κ);intro i a h1;rcases (show i=0\/i=1 by simp at h1;omega) with rfl|rfl<;>decide
theorem ff16:Ff ⟨2,4,[1,1,0,0,1]⟩ 16 [(-1),1,9,14,13,11,7,6,15,2,12,5,10,4,3,8]:=by
 refine ff_of (q:=16) (k:=4) ⟨by decide,by decide,by decide,by decide,rfl,rfl,?_,by decide⟩ rfl (by decide) (by decide) (by decide) κ κ (.inr κ);intro i a h1;rcases (show i=0\/i=1\/i=2\/i=3\/i=4 by simp at h1;omega) with rfl|rfl|rfl|rfl|rfl<;>decide
theorem ff17:Ff ⟨17,1,[0,1]⟩ 17 [(-1),1,9,6,13,7,3,5,15,2,12,14,10,4,11,8,16]:=by
 refine ff_of (q:=17) (k:=1) ⟨by decide,by decide,by decide,by decide,rfl,rfl,?_,by decide⟩ rfl (by decide) (by decide) (by decide) κ κ (.inl κ);intro i a h1;rcases (show i=0\/i=1 by simp at h1;omega) with rfl|rfl<;>decide
theorem ff19:Ff ⟨19,1,[0,1]⟩ 19 [(-1),1,10,13,5,4,16,11,12,17,2,7,8,3,15,14,6,9,18]:=by
 refine ff_of (q:=19) (k:=1) ⟨by decide,by decide,by decide,by decide,rfl,rfl,?_,by decide⟩ rfl (by decide) (by decide) (by decide) κ κ (.inl κ);intro i a h1;rcases (show i=0\/i=1 by simp at h1;omega) with rfl|rfl<;>decide
theorem ff23:Ff ⟨23,1,[0,1]⟩ 23 [(-1),1,12,8,6,14,4,10,3,18,7,21,2,16,5,20,13,19,9,17,15,11,22]:=by
 refine ff_of (q:=23) (k:=1) ⟨by decide,by decide,by decide,by decide,rfl,rfl,?_,by decide⟩ rfl (by decide) (by decide) (by decide) κ κ (.inl κ);intro i a h1;rcases (show i=0\/i=1 by simp at h1;omega) with rfl|rfl<;>decide
theorem ff25:Ff ⟨5,2,[2,0,1]⟩ 25 [(-1),1,3,2,4,10,17,22,23,18,5,14,21,24,11,20,19,6,9,16,15,12,7,8,13]:=by
 refine ff_of (q:=25) (k:=2) ⟨by decide,by decide,by decide,by decide,rfl,rfl,?_,by decide⟩ rfl (by decide) (by decide) (by decide) κ κ (.inl κ);intro i a h1;rcases (show i=0\/i=1\/i=2 by simp at h1;omega) with rfl|rfl|rfl<;>decide
theorem ff27:Ff ⟨3,3,[1,2,0,1]⟩ 27 [(-1),1,2,19,21,24,11,12,15,25,23,6,7,22,18,8,20,26,14,3,16,4,13,10,5,9,17]:=by
 refine ff_of (q:=27) (k:=3) ⟨by decide,by decide,by decide,by decide,rfl,rfl,?_,by decide⟩ rfl (by decide) (by decide) (by decide) κ κ (.inl κ);intro i a h1;rcases (show i=0\/i=1\/i=2\/i=3 by simp at h1;omega) with rfl|rfl|rfl|rfl<;>decide
theorem ff29:Ff ⟨29,1,[0,1]⟩ 29 [(-1),1,15,10,22,6,5,25,11,13,3,8,17,9,27,2,20,12,21,26,16,18,4,24,23,7,19,14,28]:=by
 refine ff_of (q:=29) (k:=1) ⟨by decide,by decide,by decide,by decide,rfl,rfl,?_,by decide⟩ rfl (by decide) (by decide) (by decide) κ κ (.inl κ);intro i a h1;rcases (show i=0\/i=1 by simp at h1;omega) with rfl|rfl<;>decide
theorem ff31:Ff ⟨31,1,[0,1]⟩ 31 [(-1),1,16,21,8,25,26,9,4,7,28,17,13,12,20,29,2,11,19,18,14,3,24,27,22,5,6,23,10,15,30]:=by
 refine ff_of (q:=31) (k:=1) ⟨by decide,by decide,by decide,by decide,rfl,rfl,?_,by decide⟩ rfl (by decide) (by decide) (by decide) κ κ (.inl κ);intro i a h1;rcases (show i=0\/i=1 by simp at h1;omega) with rfl|rfl<;>decide
theorem ff32:Ff ⟨2,5,[1,0,1,0,0,1]⟩ 32 [(-1),1,18,28,9,23,14,12,22,4,25,16,7,15,6,13,11,24,2,29,30,26,8,5,17,10,21,31,3,19,20,27]:=by
 refine ff_of (q:=32) (k:=5) ⟨by decide,by decide,by decide,by decide,rfl,rfl,?_,by decide⟩ rfl (by decide) (by decide) (by decide) κ κ (.inr κ);intro i a h1;rcases (show i=0\/i=1\/i=2\/i=3\/i=4\/i=5 by simp at h1;omega) with rfl|rfl|rfl|rfl|rfl|rfl<;>decide
theorem ff37:Ff ⟨37,1,[0,1]⟩ 37 [(-1),1,19,25,28,15,31,16,14,33,26,27,34,20,8,5,7,24,35,2,13,30,32,29,17,3,10,11,4,23,21,6,22,9,12,18,36]:=by
 refine ff_of (q:=37) (k:=1) ⟨by decide,by decide,by decide,by decide,rfl,rfl,?_,by decide⟩ rfl (by decide) (by decide) (by decide) κ κ (.inl κ);intro i a h1;rcases (show i=0\/i=1 by simp at h1;omega) with rfl|rfl<;>decide
theorem ff41:Ff ⟨41,1,[0,1]⟩ 41 [(-1),1,21,14,31,33,7,6,36,32,37,15,24,19,3,11,18,29,16,13,39,2,28,25,12,23,30,38,22,17,26,4,9,5,35,34,8,10,27,20,40]:=by
 refine ff_of (q:=41) (k:=1) ⟨by decide,by decide,by decide,by decide,rfl,rfl,?_,by decide⟩ rfl (by decide) (by decide) (by decide) κ κ (.inl κ);intro i a h1;rcases (show i=0\/i=1 by simp at h1;omega) with rfl|rfl<;>decide
theorem ff43:Ff ⟨43,1,[0,1]⟩ 43 [(-1),1,22,29,11,26,36,37,27,24,13,4,18,10,40,23,35,38,12,34,28,41,2,15,9,31,5,8,20,3,33,25,39,30,19,16,6,7,17,32,14,21,42]:=by
 refine ff_of (q:=43) (k:=1) ⟨by decide,by decide,by decide,by decide,rfl,rfl,?_,by decide⟩ rfl (by decide) (by decide) (by decide) κ κ (.inl κ);intro i a h1;rcases (show i=0\/i=1 by simp at h1;omega) with rfl|rfl<;>decide
theorem ff47:Ff ⟨47,1,[0,1]⟩ 47 [(-1),1,24,16,12,19,8,27,6,21,33,30,4,29,37,22,3,36,34,5,40,9,15,45,2,32,38,7,42,13,11,44,25,10,18,43,17,14,26,41,20,39,28,35,31,23,46]:=by
 refine ff_of (q:=47) (k:=1) ⟨by decide,by decide,by decide,by decide,rfl,rfl,?_,by decide⟩ rfl (by decide) (by decide) (by decide) κ κ (.inl κ);intro i a h1;rcases (show i=0\/i=1 by simp at h1;omega) with rfl|rfl<;>decide
theorem ff49:Ff ⟨7,2,[1,0,1]⟩ 49 [(-1),1,4,5,2,3,6,42,25,34,15,20,29,24,21,10,37,18,17,40,11,14,47,26,13,8,23,44,35,12,33,48,43,30,9,28,45,16,39,38,19,46,7,32,27,36,41,22,31]:=by
 refine ff_of (q:=49) (k:=2) ⟨by decide,by decide,by decide,by decide,rfl,rfl,?_,by decide⟩ rfl (by decide) (by decide) (by decide) κ κ (.inl κ);intro i a h1;rcases (show i=0\/i=1\/i=2 by simp at h1;omega) with rfl|rfl|rfl<;>decide
theorem ff53:Ff ⟨53,1,[0,1]⟩ 53 [(-1),1,27,18,40,32,9,38,20,6,16,29,31,49,19,46,10,25,3,14,8,48,41,30,42,17,51,2,36,11,23,12,5,45,39,50,28,43,7,34,4,22,24,37,47,33,15,44,21,13,35,26,52]:=by
 refine ff_of (q:=53) (k:=1) ⟨by decide,by decide,by decide,by decide,rfl,rfl,?_,by decide⟩ rfl (by decide) (by decide) (by decide) κ κ (.inl κ);intro i a h1;rcases (show i=0\/i=1 by simp at h1;omega) with rfl|rfl<;>decide
theorem ff59:Ff ⟨59,1,[0,1]⟩ 59 [(-1),1,30,20,15,12,10,17,37,46,6,43,5,50,38,4,48,7,23,28,3,45,51,18,32,26,25,35,19,57,2,40,24,34,33,27,41,8,14,56,31,36,52,11,55,21,9,54,16,53,13,22,42,49,47,44,39,29,58]:=by
 refine ff_of (q:=59) (k:=1) ⟨by decide,by decide,by decide,by decide,rfl,rfl,?_,by decide⟩ rfl (by decide) (by decide) (by decide) κ κ (.inl κ);intro i a h1;rcases (show i=0\/i=1 by simp at h1;omega) with rfl|rfl<;>decide
theorem ff61:Ff ⟨61,1,[0,1]⟩ 61 [(-1),1,31,41,46,49,51,35,23,34,55,50,56,47,48,57,42,18,17,45,58,32,25,8,28,22,54,52,24,40,59,2,21,37,9,7,39,33,53,36,29,3,16,44,43,19,4,13,14,5,11,6,27,38,26,10,12,15,20,30,60]:=by
 refine ff_of (q:=61) (k:=1) ⟨by decide,by decide,by decide,by decide,rfl,rfl,?_,by decide⟩ rfl (by decide) (by decide) (by decide) κ κ (.inl κ);intro i a h1;rcases (show i=0\/i=1 by simp at h1;omega) with rfl|rfl<;>decide
theorem ff64:Ff ⟨2,6,[1,1,0,0,0,0,1]⟩ 64 [(-1),1,33,62,49,43,31,44,57,37,52,28,46,40,22,25,61,54,51,39,26,35,14,24,23,15,20,34,11,53,45,6,63,2,27,21,56,9,50,19,13,47,48,5,7,30,12,41,42,4,38,18,10,29,17,60,36,8,59,58,55,16,3,32]:=by
 refine ff_of (q:=64) (k:=6) ⟨by decide,by decide,by decide,by decide,rfl,rfl,?_,by decide⟩ rfl (by decide) (by decide) (by decide) κ κ (.inr κ);intro i a h1;rcases (show i=0\/i=1\/i=2\/i=3\/i=4\/i=5\/i=6 by simp at h1;omega) with rfl|rfl|rfl|rfl|rfl|rfl|rfl<;>decide
theorem ZrV {q:Int} {f:Ze} (h:GF q f):∃ a,Ff f q a:=by
 cases h
 ·exact ⟨_,ff2⟩
 ·exact ⟨_,ff3⟩
 ·exact ⟨_,ff4⟩
 ·exact ⟨_,ff5⟩
 ·exact ⟨_,ff7⟩
 ·exact ⟨_,ff8⟩
 ·exact ⟨_,ff9⟩
 ·exact ⟨_,ff11⟩
 ·exact ⟨_,ff13⟩
 ·exact ⟨_,ff16⟩
 ·exact ⟨_,ff17⟩
 ·exact ⟨_,ff19⟩
 ·exact ⟨_,ff23⟩
 ·exact ⟨_,ff25⟩
 ·exact ⟨_,ff27⟩
 ·exact ⟨_,ff29⟩
 ·exact ⟨_,ff31⟩
 ·exact ⟨_,ff32⟩
 ·exact ⟨_,ff37⟩
 ·exact ⟨_,ff41⟩
 ·exact ⟨_,ff43⟩
 ·exact ⟨_,ff47⟩
 ·exact ⟨_,ff49⟩
 ·exact ⟨_,ff53⟩
 ·exact ⟨_,ff59⟩
 ·exact ⟨_,ff61⟩
 ·exact ⟨_,ff64⟩
structure Made (q:Int) (f:Ze):Prop where
 gf:GF q f
 split:Zb6 q=some (f.Prime,f.Degree)
 mks:Zhf q=some f
 mki:ZbE q=some (f,0)
 oks:Zgn f=some true
 oki:ZgY f=some true
 szs:Zbq f=some q
 szi:Zbj f=some q
def FldAt (q:Int):Prop:=(∃ f,Made q f)\/(Zb6 q=some (0,0)/\∃ e,ZbE q=some (⟨0,0,[]⟩,e))
theorem mk2:FldAt 2:=.inl ⟨_,.f2,Zn (F:=100) _ _ κ,Z8 (F:=100) _ _ κ,Zo (F:=100) _ _ κ,Z5 (F:=100) _ _ κ,Z7 (F:=100) _ _ κ,Z6 (F:=100) _ _ κ,Z4 (F:=100) _ _ κ⟩
theorem mk3:FldAt 3:=.inl ⟨_,.f3,Zn (F:=100) _ _ κ,Z8 (F:=100) _ _ κ,Zo (F:=100) _ _ κ,Z5 (F:=100) _ _ κ,Z7 (F:=100) _ _ κ,Z6 (F:=100) _ _ κ,Z4 (F:=100) _ _ κ⟩
theorem mk4:FldAt 4:=.inl ⟨_,.f4,Zn (F:=100) _ _ κ,Z8 (F:=100) _ _ κ,Zo (F:=100) _ _ κ,Z5 (F:=100) _ _ κ,Z7 (F:=100) _ _ κ,Z6 (F:=100) _ _ κ,Z4 (F:=100) _ _ κ⟩
theorem mk5:FldAt 5:=.inl ⟨_,.f5,Zn (F:=100) _ _ κ,Z8 (F:=100) _ _ κ,Zo (F:=100) _ _ κ,Z5 (F:=100) _ _ κ,Z7 (F:=100) _ _ κ,Z6 (F:=100) _ _ κ,Z4 (F:=100) _ _ κ⟩
theorem mk6:FldAt 6:=.inr ⟨Zn (F:=100) _ _ κ,_,Zo (F:=100) _ (⟨0,0,[]⟩,2) κ⟩
theorem mk7:FldAt 7:=.inl ⟨_,.f7,Zn (F:=100) _ _ κ,Z8 (F:=100) _ _ κ,Zo (F:=100) _ _ κ,Z5 (F:=100) _ _ κ,Z7 (F:=100) _ _ κ,Z6 (F:=100) _ _ κ,Z4 (F:=100) _ _ κ⟩
theorem mk8:FldAt 8:=.inl ⟨_,.f8,Zn (F:=100) _ _ κ,Z8 (F:=100) _ _ κ,Zo (F:=100) _ _ κ,Z5 (F:=100) _ _ κ,Z7 (F:=100) _ _ κ,Z6 (F:=100) _ _ κ,Z4 (F:=100) _ _ κ⟩
theorem mk9:FldAt 9:=.inl ⟨_,.f9,Zn (F:=100) _ _ κ,Z8 (F:=100) _ _ κ,Zo (F:=100) _ _ κ,Z5 (F:=100) _ _ κ,Z7 (F:=100) _ _ κ,Z6 (F:=100) _ _ κ,Z4 (F:=100) _ _ κ⟩
theorem mk10:FldAt 10:=.inr ⟨Zn (F:=100) _ _ κ,_,Zo (F:=100) _ (⟨0,0,[]⟩,2) κ⟩
theorem mk11:FldAt 11:=.inl ⟨_,.f11,Zn (F:=100) _ _ κ,Z8 (F:=100) _ _ κ,Zo (F:=100) _ _ κ,Z5 (F:=100) _ _ κ,Z7 (F:=100) _ _ κ,Z6 (F:=100) _ _ κ,Z4 (F:=100) _ _ κ⟩
theorem mk12:FldAt 12:=.inr ⟨Zn (F:=100) _ _ κ,_,Zo (F:=100) _ (⟨0,0,[]⟩,2) κ⟩
theorem mk13:FldAt 13:=.inl ⟨_,.f13,Zn (F:=100) _ _ κ,Z8 (F:=100) _ _ κ,Zo (F:=100) _ _ κ,Z5 (F:=100) _ _ κ,Z7 (F:=100) _ _ κ,Z6 (F:=100) _ _ κ,Z4 (F:=100) _ _ κ⟩
theorem mk14:FldAt 14:=.inr ⟨Zn (F:=100) _ _ κ,_,Zo (F:=100) _ (⟨0,0,[]⟩,2) κ⟩
theorem mk15:FldAt 15:=.inr ⟨Zn (F:=100) _ _ κ,_,Zo (F:=100) _ (⟨0,0,[]⟩,2) κ⟩
theorem mk16:FldAt 16:=.inl ⟨_,.f16,Zn (F:=100) _ _ κ,Z8 (F:=100) _ _ κ,Zo (F:=100) _ _ κ,Z5 (F:=100) _ _ κ,Z7 (F:=100) _ _ κ,Z6 (F:=100) _ _ κ,Z4 (F:=100) _ _ κ⟩
theorem mk17:FldAt 17:=.inl ⟨_,.f17,Zn (F:=100) _ _ κ,Z8 (F:=100) _ _ κ,Zo (F:=100) _ _ κ,Z5 (F:=100) _ _ κ,Z7 (F:=100) _ _ κ,Z6 (F:=100) _ _ κ,Z4 (F:=100) _ _ κ⟩
theorem mk18:FldAt 18:=.inr ⟨Zn (F:=100) _ _ κ,_,Zo (F:=100) _ (⟨0,0,[]⟩,2) κ⟩
theorem mk19:FldAt 19:=.inl ⟨_,.f19,Zn (F:=100) _ _ κ,Z8 (F:=100) _ _ κ,Zo (F:=100) _ _ κ,Z5 (F:=100) _ _ κ,Z7 (F:=100) _ _ κ,Z6 (F:=100) _ _ κ,Z4 (F:=100) _ _ κ⟩
theorem mk20:FldAt 20:=.inr ⟨Zn (F:=100) _ _ κ,_,Zo (F:=100) _ (⟨0,0,[]⟩,2) κ⟩
theorem mk21:FldAt 21:=.inr ⟨Zn (F:=100) _ _ κ,_,Zo (F:=100) _ (⟨0,0,[]⟩,2) κ⟩
theorem mk22:FldAt 22:=.inr ⟨Zn (F:=100) _ _ κ,_,Zo (F:=100) _ (⟨0,0,[]⟩,2) κ⟩
theorem mk23:FldAt 23:=.inl ⟨_,.f23,Zn (F:=100) _ _ κ,Z8 (F:=100) _ _ κ,Zo (F:=100) _ _ κ,Z5 (F:=100) _ _ κ,Z7 (F:=100) _ _ κ,Z6 (F:=100) _ _ κ,Z4 (F:=100) _ _ κ⟩
theorem mk24:FldAt 24:=.inr ⟨Zn (F:=100) _ _ κ,_,Zo (F:=100) _ (⟨0,0,[]⟩,2) κ⟩
theorem mk25:FldAt 25:=.inl ⟨_,.f25,Zn (F:=100) _ _ κ,Z8 (F:=100) _ _ κ,Zo (F:=100) _ _ κ,Z5 (F:=100) _ _ κ,Z7 (F:=100) _ _ κ,Z6 (F:=100) _ _ κ,Z4 (F:=100) _ _ κ⟩
theorem mk26:FldAt 26:=.inr ⟨Zn (F:=100) _ _ κ,_,Zo (F:=100) _ (⟨0,0,[]⟩,2) κ⟩
theorem mk27:FldAt 27:=.inl ⟨_,.f27,Zn (F:=100) _ _ κ,Z8 (F:=100) _ _ κ,Zo (F:=100) _ _ κ,Z5 (F:=100) _ _ κ,Z7 (F:=100) _ _ κ,Z6 (F:=100) _ _ κ,Z4 (F:=100) _ _ κ⟩
theorem mk28:FldAt 28:=.inr ⟨Zn (F:=100) _ _ κ,_,Zo (F:=100) _ (⟨0,0,[]⟩,2) κ⟩
theorem mk29:FldAt 29:=.inl ⟨_,.f29,Zn (F:=100) _ _ κ,Z8 (F:=100) _ _ κ,Zo (F:=100) _ _ κ,Z5 (F:=100) _ _ κ,Z7 (F:=100) _ _ κ,Z6 (F:=100) _ _ κ,Z4 (F:=100) _ _ κ⟩
theorem mk30:FldAt 30:=.inr ⟨Zn (F:=100) _ _ κ,_,Zo (F:=100) _ (⟨0,0,[]⟩,2) κ⟩
theorem mk31:FldAt 31:=.inl ⟨_,.f31,Zn (F:=100) _ _ κ,Z8 (F:=100) _ _ κ,Zo (F:=100) _ _ κ,Z5 (F:=100) _ _ κ,Z7 (F:=100) _ _ κ,Z6 (F:=100) _ _ κ,Z4 (F:=100) _ _ κ⟩
theorem mk32:FldAt 32:=.inl ⟨_,.f32,Zn (F:=100) _ _ κ,Z8 (F:=100) _ _ κ,Zo (F:=100) _ _ κ,Z5 (F:=100) _ _ κ,Z7 (F:=100) _ _ κ,Z6 (F:=100) _ _ κ,Z4 (F:=100) _ _ κ⟩
theorem mk33:FldAt 33:=.inr ⟨Zn (F:=100) _ _ κ,_,Zo (F:=100) _ (⟨0,0,[]⟩,2) κ⟩
theorem mk34:FldAt 34:=.inr ⟨Zn (F:=100) _ _ κ,_,Zo (F:=100) _ (⟨0,0,[]⟩,2) κ⟩
theorem mk35:FldAt 35:=.inr ⟨Zn (F:=100) _ _ κ,_,Zo (F:=100) _ (⟨0,0,[]⟩,2) κ⟩
theorem mk36:FldAt 36:=.inr ⟨Zn (F:=100) _ _ κ,_,Zo (F:=100) _ (⟨0,0,[]⟩,2) κ⟩
theorem mk37:FldAt 37:=.inl ⟨_,.f37,Zn (F:=100) _ _ κ,Z8 (F:=100) _ _ κ,Zo (F:=100) _ _ κ,Z5 (F:=100) _ _ κ,Z7 (F:=100) _ _ κ,Z6 (F:=100) _ _ κ,Z4 (F:=100) _ _ κ⟩
theorem mk38:FldAt 38:=.inr ⟨Zn (F:=100) _ _ κ,_,Zo (F:=100) _ (⟨0,0,[]⟩,2) κ⟩
theorem mk39:FldAt 39:=.inr ⟨Zn (F:=100) _ _ κ,_,Zo (F:=100) _ (⟨0,0,[]⟩,2) κ⟩
theorem mk40:FldAt 40:=.inr ⟨Zn (F:=100) _ _ κ,_,Zo (F:=100) _ (⟨0,0,[]⟩,2) κ⟩
theorem mk41:FldAt 41:=.inl ⟨_,.f41,Zn (F:=100) _ _ κ,Z8 (F:=100) _ _ κ,Zo (F:=100) _ _ κ,Z5 (F:=100) _ _ κ,Z7 (F:=100) _ _ κ,Z6 (F:=100) _ _ κ,Z4 (F:=100) _ _ κ⟩
theorem mk42:FldAt 42:=.inr ⟨Zn (F:=100) _ _ κ,_,Zo (F:=100) _ (⟨0,0,[]⟩,2) κ⟩
theorem mk43:FldAt 43:=.inl ⟨_,.f43,Zn (F:=100) _ _ κ,Z8 (F:=100) _ _ κ,Zo (F:=100) _ _ κ,Z5 (F:=100) _ _ κ,Z7 (F:=100) _ _ κ,Z6 (F:=100) _ _ κ,Z4 (F:=100) _ _ κ⟩
theorem mk44:FldAt 44:=.inr ⟨Zn (F:=100) _ _ κ,_,Zo (F:=100) _ (⟨0,0,[]⟩,2) κ⟩
theorem mk45:FldAt 45:=.inr ⟨Zn (F:=100) _ _ κ,_,Zo (F:=100) _ (⟨0,0,[]⟩,2) κ⟩
theorem mk46:FldAt 46:=.inr ⟨Zn (F:=100) _ _ κ,_,Zo (F:=100) _ (⟨0,0,[]⟩,2) κ⟩
theorem mk47:FldAt 47:=.inl ⟨_,.f47,Zn (F:=100) _ _ κ,Z8 (F:=100) _ _ κ,Zo (F:=100) _ _ κ,Z5 (F:=100) _ _ κ,Z7 (F:=100) _ _ κ,Z6 (F:=100) _ _ κ,Z4 (F:=100) _ _ κ⟩
theorem mk48:FldAt 48:=.inr ⟨Zn (F:=100) _ _ κ,_,Zo (F:=100) _ (⟨0,0,[]⟩,2) κ⟩
theorem mk49:FldAt 49:=.inl ⟨_,.f49,Zn (F:=100) _ _ κ,Z8 (F:=100) _ _ κ,Zo (F:=100) _ _ κ,Z5 (F:=100) _ _ κ,Z7 (F:=100) _ _ κ,Z6 (F:=100) _ _ κ,Z4 (F:=100) _ _ κ⟩
theorem mk50:FldAt 50:=.inr ⟨Zn (F:=100) _ _ κ,_,Zo (F:=100) _ (⟨0,0,[]⟩,2) κ⟩
theorem mk51:FldAt 51:=.inr ⟨Zn (F:=100) _ _ κ,_,Zo (F:=100) _ (⟨0,0,[]⟩,2) κ⟩
theorem mk52:FldAt 52:=.inr ⟨Zn (F:=100) _ _ κ,_,Zo (F:=100) _ (⟨0,0,[]⟩,2) κ⟩
theorem mk53:FldAt 53:=.inl ⟨_,.f53,Zn (F:=100) _ _ κ,Z8 (F:=100) _ _ κ,Zo (F:=100) _ _ κ,Z5 (F:=100) _ _ κ,Z7 (F:=100) _ _ κ,Z6 (F:=100) _ _ κ,Z4 (F:=100) _ _ κ⟩
theorem mk54:FldAt 54:=.inr ⟨Zn (F:=100) _ _ κ,_,Zo (F:=100) _ (⟨0,0,[]⟩,2) κ⟩
theorem mk55:FldAt 55:=.inr ⟨Zn (F:=100) _ _ κ,_,Zo (F:=100) _ (⟨0,0,[]⟩,2) κ⟩
theorem mk56:FldAt 56:=.inr ⟨Zn (F:=100) _ _ κ,_,Zo (F:=100) _ (⟨0,0,[]⟩,2) κ⟩
theorem mk57:FldAt 57:=.inr ⟨Zn (F:=100) _ _ κ,_,Zo (F:=100) _ (⟨0,0,[]⟩,2) κ⟩
theorem mk58:FldAt 58:=.inr ⟨Zn (F:=100) _ _ κ,_,Zo (F:=100) _ (⟨0,0,[]⟩,2) κ⟩
theorem mk59:FldAt 59:=.inl ⟨_,.f59,Zn (F:=100) _ _ κ,Z8 (F:=100) _ _ κ,Zo (F:=100) _ _ κ,Z5 (F:=100) _ _ κ,Z7 (F:=100) _ _ κ,Z6 (F:=100) _ _ κ,Z4 (F:=100) _ _ κ⟩
theorem mk60:FldAt 60:=.inr ⟨Zn (F:=100) _ _ κ,_,Zo (F:=100) _ (⟨0,0,[]⟩,2) κ⟩
theorem mk61:FldAt 61:=.inl ⟨_,.f61,Zn (F:=100) _ _ κ,Z8 (F:=100) _ _ κ,Zo (F:=100) _ _ κ,Z5 (F:=100) _ _ κ,Z7 (F:=100) _ _ κ,Z6 (F:=100) _ _ κ,Z4 (F:=100) _ _ κ⟩
theorem mk62:FldAt 62:=.inr ⟨Zn (F:=100) _ _ κ,_,Zo (F:=100) _ (⟨0,0,[]⟩,2) κ⟩
theorem mk63:FldAt 63:=.inr ⟨Zn (F:=100) _ _ κ,_,Zo (F:=100) _ (⟨0,0,[]⟩,2) κ⟩
theorem mk64:FldAt 64:=.inl ⟨_,.f64,Zn (F:=100) _ _ κ,Z8 (F:=100) _ _ κ,Zo (F:=100) _ _ κ,Z5 (F:=100) _ _ κ,Z7 (F:=100) _ _ κ,Z6 (F:=100) _ _ κ,Z4 (F:=100) _ _ κ⟩
theorem ZJD {ρ:Type} {B:Int->Option (Int ⊕ ρ)} {i n:Int} (hi:i<=n) (h:∀ k,i<=k->k<n->(∃ r,B k=some (.inr r))\/B k=some (.inl (k+1))) (l:∃ r,B n=some (.inr r)):∃ r,loop B i=some r:=by
 have j:∀ (d:Nat) (k:Int),k+d=n->i<=k->∃ r,loop B k=some r:=by
  intro d;induction d with
  | zero=>intro k u _;obtain rfl:k=n:= ω;obtain ⟨r,a⟩:=l;exact ⟨r,Zc a⟩
  | succ d o=>
   intro k u e;rcases h k e ω with ⟨r,a⟩|a
   ·exact ⟨r,Zc a⟩
   ·rw [Zy a];exact o (k+1) ω ω
 exact j (n-i).toNat i ω ω
theorem ZpK {l:Nat} {n:Int} (h1:1<=n) (h:pwN 2 l*n<=1000000):l<=20:=by
 by_cases j:l<=20
 ·exact j
 ·exfalso;have a:=ZiP (p:=2) ω (m:=20) (l-20);rw [show 20+(l-20)=l by omega] at a;have c:pwN 2 20=1048576:=by decide
  have e:pwN 2 l*1<=pwN 2 l*n:=Int.mul_le_mul_of_nonneg_left h1 ω;omega
theorem Zq5 {p:Int} (hp:2<=p) (e:p<=1000):∀ (d:Nat) (n:Int) (fs:List Int),n<=d->1<=n->pwN 2 fs.length*n<=1000000->∃ n' a1,loop (ZeV p) (n,fs)=some (.inl (n',a1,p+1))/\1<=n'/\n'<=n/\pwN 2 a1.length*n'<=1000000
 | 0,n,fs,h,h1,_=>by omega
 | d+1,n,fs,h,h1,f=>by
  have hl:=ZpK h1 f;have i:=Int.tmod_eq_emod_of_nonneg (b:=p) (a:=n) ω;have l:=Int.tdiv_eq_ediv_of_nonneg (b:=p) (a:=n) ω;have a3:=Za6 (p:=2) ω fs.length;by_cases hm:n%p=0
  ·have o:p*(n/p)=n:=Int.mul_ediv_cancel' (Int.dvd_of_emod_eq_zero hm);have j:0<=n/p:=Int.ediv_nonneg ω ω;have k:1<=n/p:=by
    by_cases r:n/p=0
    ·rw [r] at o;omega
    ·omega
   have x:2*(n/p)<=p*(n/p):=Int.mul_le_mul_of_nonneg_right hp j;have a5:pwN 2 (fs++[p]).length*(n/p)<=1000000:=by
    rw [List.length_append];show pwN 2 fs.length*2*(n/p)<=_;rw [Int.mul_assoc];have:pwN 2 fs.length*(2*(n/p))<=pwN 2 fs.length*n:=Int.mul_le_mul_of_nonneg_left ω ω;omega
   have s:n<=1000000:=by
    have:=Int.mul_le_mul_of_nonneg_right (a:=1) (b:=pwN 2 fs.length) (c:=n) a3 ω;omega
   obtain ⟨n',a1,u,v,y,w⟩:=Zq5 hp e d (n/p) (fs++[p]) ω k a5;refine ⟨n',a1,?_,v,by omega,w⟩;rw [<-u];refine Zy ?_;have hz:n.tmod p=0:=by rw [i];exact hm
   simp (disch:=omega) only [pz,ZeV,hz,l,gApp1]
  ·have s:n<=1000000:=by
    have:=Int.mul_le_mul_of_nonneg_right (a:=1) (b:=pwN 2 fs.length) (c:=n) a3 ω;omega
   refine ⟨n,fs,Zc ?_,h1,by omega,f⟩;have hz:¬ n.tmod p=0:=by rw [i];exact hm
   simp (disch:=omega) only [pz,ZeV,hz]
theorem Zz6:∀ (d:Nat) (n:Int) (w:List Int) (p:Int),1001-p<=d->2<=p->p<=1001->1<=n->n<=1000000->pwN 2 w.length*n<=1000000->∃ r:List Int,loop Zcl (n,w,p)=some r/\r.length<=21:=by
 intro d;induction d with
 | zero=>
  intro n w p i hp a h1 j c;have hl:=ZpK h1 c;obtain rfl:p=1001:=ω;by_cases h:1<n
  ·refine ⟨w++[n],Zc ?_,by simp;omega⟩;simp (disch:=omega) only [pz,Zcl,gApp1]
  ·refine ⟨w,Zc ?_,by omega⟩;simp (disch:=omega) only [pz,Zcl]
 | succ d ih=>
  intro n w p i hp a h1 j c;have hl:=ZpK h1 c;have a4:0<=p*p/\p*p<=1002001:=by
   refine ⟨Int.mul_nonneg ω ω,?_⟩;have:=Int.mul_le_mul a a ω ω;omega
  by_cases s:p*p<=n
  ·have e:p<=1000:=by
    by_cases h:p<=1000
    ·exact h
    ·have:(1001:Int)*1001<=p*p:=Int.mul_le_mul ω ω ω ω;omega
   obtain ⟨n',x,k,l,u,o⟩:=Zq5 hp e n.toNat n w ω h1 c;obtain ⟨r,hr,f⟩:=ih n' x (p+1) ω ω ω l ω o;refine ⟨r,?_,f⟩;rw [<-hr];refine Zy ?_;simp (disch:=omega) only [pz,Zcl,k]
  ·by_cases h:1<n
   ·refine ⟨w++[n],Zc ?_,by simp;omega⟩;simp (disch:=omega) only [pz,Zcl,gApp1]
   ·refine ⟨w,Zc ?_,by omega⟩;simp (disch:=omega) only [pz,Zcl]
theorem ZIq (n:Int):∃ r:List Int,ZcU n=some r/\r.length<=21:=by
 unfold ZcU ZK;by_cases h1:1<=n
 ·by_cases c:n<=1000000
  ·obtain ⟨r,e,a⟩:=Zz6 1001 n [] 2 ω ω ω h1 c (by show 1*n<=_;omega);refine ⟨r,?_,a⟩;rw [<-e];simp (disch:=omega) only [pz,]
  ·refine ⟨[],?_,by simp⟩;simp (disch:=omega) only [pz,]
 ·refine ⟨[],?_,by simp⟩;simp (disch:=omega) only [pz,]
theorem ZJ5 (n:Int):∃ r:Int×Int,Zdd n=some r:=by
 unfold Zdd;obtain ⟨l,e,a⟩:=ZIq n;rw [e];show ∃ r,loop (Zcg l) 0=some r;refine ZJD (n:=l.length) ω ?_ ?_
 ·intro k k0 k1;by_cases h:ix l k=ix l 0
  ·refine .inr ?_;simp (disch:=omega) only [pz,Zcg,h]
  ·refine .inl ⟨(0,0),?_⟩;simp (disch:=omega) only [pz,Zcg,h]
 ·by_cases h:l.length=0
  ·refine ⟨(0,0),?_⟩;simp (disch:=omega) only [pz,Zcg]
  ·refine ⟨(ix l 0,l.length),?_⟩;simp (disch:=omega) only [pz,Zcg,ZS]
theorem Zuo (q:Int):FldAt q:=by
 by_cases h:2<=q/\q<=64
 ·obtain ⟨h1,a⟩:=h;obtain ⟨n,rfl⟩:∃ n:Nat,q=(n:Int):=⟨q.toNat,by omega⟩
  have i:n<65:=ω;have f:2<=n:=ω;clear h1 a
  revert n
  have j:∀ n:Nat,n<65->2<=n->FldAt (n:Int):=by
   intro n h1 a
   match n,h1,a with
   | 0,_,h=>omega
   | 1,_,h=>omega
   | 2,_,_=>exact mk2
   | 3,_,_=>exact mk3
   | 4,_,_=>exact mk4
   | 5,_,_=>exact mk5
   | 6,_,_=>exact mk6
   | 7,_,_=>exact mk7
   | 8,_,_=>exact mk8
   | 9,_,_=>exact mk9
   | 10,_,_=>exact mk10
   | 11,_,_=>exact mk11
   | 12,_,_=>exact mk12
   | 13,_,_=>exact mk13
   | 14,_,_=>exact mk14
   | 15,_,_=>exact mk15
   | 16,_,_=>exact mk16
   | 17,_,_=>exact mk17
   | 18,_,_=>exact mk18
   | 19,_,_=>exact mk19
   | 20,_,_=>exact mk20
   | 21,_,_=>exact mk21
   | 22,_,_=>exact mk22
   | 23,_,_=>exact mk23
   | 24,_,_=>exact mk24
   | 25,_,_=>exact mk25
   | 26,_,_=>exact mk26
   | 27,_,_=>exact mk27
   | 28,_,_=>exact mk28
   | 29,_,_=>exact mk29
   | 30,_,_=>exact mk30
   | 31,_,_=>exact mk31
   | 32,_,_=>exact mk32
   | 33,_,_=>exact mk33
   | 34,_,_=>exact mk34
   | 35,_,_=>exact mk35
   | 36,_,_=>exact mk36
   | 37,_,_=>exact mk37
   | 38,_,_=>exact mk38
   | 39,_,_=>exact mk39
   | 40,_,_=>exact mk40
   | 41,_,_=>exact mk41
   | 42,_,_=>exact mk42
   | 43,_,_=>exact mk43
   | 44,_,_=>exact mk44
   | 45,_,_=>exact mk45
   | 46,_,_=>exact mk46
   | 47,_,_=>exact mk47
   | 48,_,_=>exact mk48
   | 49,_,_=>exact mk49
   | 50,_,_=>exact mk50
   | 51,_,_=>exact mk51
   | 52,_,_=>exact mk52
   | 53,_,_=>exact mk53
   | 54,_,_=>exact mk54
   | 55,_,_=>exact mk55
   | 56,_,_=>exact mk56
   | 57,_,_=>exact mk57
   | 58,_,_=>exact mk58
   | 59,_,_=>exact mk59
   | 60,_,_=>exact mk60
   | 61,_,_=>exact mk61
   | 62,_,_=>exact mk62
   | 63,_,_=>exact mk63
   | 64,_,_=>exact mk64
   | n+65,h,_=>omega
  exact j
 ·refine .inr ⟨?_,?_⟩
  ·unfold Zb6 ZI;by_cases h1:2<=q
   ·simp (disch:=omega) only [pz,]
   ·simp (disch:=omega) only [pz,]
  ·obtain ⟨r,k⟩:=ZJ5 q;by_cases h1:64<q
   ·refine ⟨2,?_⟩;unfold ZbE;rw [k];by_cases c:r.1=0
    ·simp (disch:=omega) only [pz,c]
    ·simp (disch:=omega) only [pz,c]
   ·have hz:Zdd q=some (0,0):=by
     by_cases a:1<=q
     ·obtain rfl:q=1:=ω;have:ZbE 1=some (⟨0,0,[]⟩,2):=Zo (F:=100) _ _ κ;exact Zu8 (F:=100) _ _ κ
     ·unfold Zdd ZcU ZK;have e:loop (Zcg []) 0=some (0,0):=by
       refine Zc ?_;rfl
      simp (disch:=omega) only [pz,e]
    refine ⟨2,?_⟩;unfold ZbE;rw [hz];rfl
def Tb (q:Int) (g:Int->Int) (b:Int):List Int:=tabl q fun j=>if j<b then g j else 0
theorem ZnP {q b:Int} {g:Int->Int} (a:0<=b) (h1:b<q):(Tb q g b).set b.toNat (g b)=Tb q g (b+1):=by
 apply Zaj a h1
 ·intro j c e f;by_cases h:j<b
  ·rw [if_pos h,if_pos ω]
  ·rw [if_neg h,if_neg ω]
 ·rw [if_pos ω]
theorem Zo2 {q:Int} {g:Int->Int}:Tb q g 0=List.replicate q.toNat 0:=by
 rw [Zd9];exact ZJ fun j a c=>by rw [if_neg ω]
theorem ZJ6 {q:Int} {g:Int->Int}:Tb q g q=tabl q g:=ZJ fun j c a=>by rw [if_pos a]
theorem ZmL {q b:Int} {g:Int->Int}:(Tb q g b).length=q.toNat:=Zj
def iv (q:Int) (e:List Int) (a b:Int):List Int:=tabl q fun i=>if 1<=i/\(i<a\/(i=a/\ix e a<b)) then ix e i else 0
def tabs (f:Ze) (q:Int) (e:List Int):Z1:=
 ⟨q,tabl q fun a=>tabl q fun b=>sumA f a b 1,tabl q fun a=>tabl q fun b=>sumA f a b (f.Prime-1),tabl q fun a=>tabl q fun b=>mulA f a b,tabl q fun i=>if 1<=i then ix e i else 0⟩
theorem Zw8 {q a b:Int} {e:List Int}:(iv q e a b).length=q.toNat:=Zj
theorem ZJY {f:Ze} {q:Int} {a0:List Int} (hF:Ff f q a0) {a:Int} (l:0<=a) (r:a<q) {A S M:List (List Int)} (hA:(A.length:Int)=a) (hS:(S.length:Int)=a) (hM:(M.length:Int)=a):
  loop (Ze4 f q a A S M) (0,iv q a0 a 0,List.replicate q.toNat 0,List.replicate q.toNat 0,List.replicate q.toNat 0)=some (.inl (a+1,A++[tabl q fun b=>sumA f a b 1],S++[tabl q fun b=>sumA f a b (f.Prime-1)],M++[tabl q fun b=>mulA f a b],iv q a0 (a+1) 0)):=by
 have a9:=hF.q2;have a7:=hF.q64;have a6:=Zh (B:=Ze4 f q a A S M) (fun b=>(b,iv q a0 a b,Tb q (fun b=>sumA f a b 1) b,Tb q (fun b=>sumA f a b (f.Prime-1)) b,Tb q (fun b=>mulA f a b) b)) (i:=0) (n:=q) ω fun b e k=>by
  have c1:=Zvp hF.fd (a:=a) (b:=b) (c:=1) (s:=1) l ω e ω (.inl ⟨rfl,rfl⟩);have c2:=Zvp hF.fd (a:=a) (b:=b) (c:=f.Prime-1) (s:=-1) l ω e ω (.inr ⟨rfl,rfl⟩);have u:=ZBn hF.fd (a:=a) (b:=b) l ω e ω;have s1:=ZnP (q:=q) (b:=b) (g:=fun b=>sumA f a b 1) e k;have s2:=ZnP (q:=q) (b:=b) (g:=fun b=>sumA f a b (f.Prime-1)) e k;have v:=ZnP (q:=q) (b:=b) (g:=fun b=>mulA f a b) e k;have l1:(Tb q (fun b=>sumA f a b 1) b).length=q.toNat:=ZmL;have l2:(Tb q (fun b=>sumA f a b (f.Prime-1)) b).length=q.toNat:=ZmL;have w:(Tb q (fun b=>mulA f a b) b).length=q.toNat:=ZmL;have x:(Tb q (fun b=>mulA f a b) (b+1)).length=q.toNat:=ZmL;have y:(iv q a0 a b).length=q.toNat:=Zw8;have x3:ix (Tb q (fun b=>mulA f a b) (b+1)) b=mulA f a b:=by
   unfold Tb;rw [ZG e k,if_pos ω]
  have hI:=hF.inv2 a b l r e k;by_cases hm:mulA f a b=1
  ·have hb:=hI.1 hm;have a2:1<=a:=by
    by_cases h:a=0
    ·subst h;rw [hF.z1 b e k] at hm;omega
    ·omega
   have o:(iv q a0 a b).set a.toNat b=iv q a0 a (b+1):=by
    apply Zaj l r
    ·intro j j0 j1 j2;by_cases hj:1<=j/\(j<a\/(j=a/\ix a0 a<b))
     ·rw [if_pos hj,if_pos ω]
     ·rw [if_neg hj,if_neg ω]
    ·rw [if_pos ω,hb]
   simp (disch:=omega) only [pz,Ze4,c1,c2,u,l1,l2,w,x,y,s1,s2,v,x3,o]
  ·have hb:¬ b=ix a0 a:=fun h=>hm (hI.2 h);have o:iv q a0 a b=iv q a0 a (b+1):=by
    refine ZJ fun j j0 j1=>?_;by_cases hj:1<=j/\(j<a\/(j=a/\ix a0 a<b))
    ·rw [if_pos hj,if_pos ω]
    ·rw [if_neg hj,if_neg ω]
   rw [o];simp (disch:=omega) only [pz,Ze4,c1,c2,u,l1,l2,w,x,y,s1,s2,v,x3]
 have e0:((0:Int),iv q a0 a 0,List.replicate q.toNat (0:Int),List.replicate q.toNat (0:Int),List.replicate q.toNat (0:Int))=(fun b=>(b,iv q a0 a b,Tb q (fun b=>sumA f a b 1) b,Tb q (fun b=>sumA f a b (f.Prime-1)) b,Tb q (fun b=>mulA f a b) b)) 0:=by
  show _=((0:Int),iv q a0 a 0,Tb q _ 0,Tb q _ 0,Tb q _ 0);rw [Zo2,Zo2,Zo2]
 rw [e0,a6];refine Zc ?_;have o:iv q a0 a q=iv q a0 (a+1) 0:=by
  refine ZJ fun j j0 j1=>?_;by_cases hj:1<=j/\j<a+1
  ·by_cases h:j=a
   ·have:=hF.inv1 a ω r;rw [if_pos ω,if_pos ω]
   ·rw [if_pos ω,if_pos ω]
  ·by_cases h:j=a+1
   ·by_cases h':a+1<q
    ·have:=hF.inv1 (a+1) ω h';rw [if_neg ω,if_neg ω]
    ·omega
   ·rw [if_neg ω,if_neg ω]
 simp only [ZJ6,o];simp (disch:=omega) only [pz,Ze4,Zo6,gApp1]
theorem ZvO {f:Ze} {q:Int} {w:List Int} (x:Ff f q w) (hs:Zbj f=some q):ZgC f=some (tabs f q w):=by
 have u:=x.q2;have c:=x.q64;unfold ZgC;rw [show Ze.mk f.Prime f.Degree f.Poly=f from rfl,hs];simp (disch:=omega) only [pz,Zas];have ei:List.replicate q.toNat (0:Int)=iv q w 0 0:=by
  rw [Zd9];exact ZJ fun j e k=>by
   by_cases h:j=0
   ·rw [if_neg ω]
   ·rw [if_neg ω]
 have a0:=Zh (B:=Zh6 f q) (fun a=>(a,tabl a fun a=>tabl q fun b=>sumA f a b 1,tabl a fun a=>tabl q fun b=>sumA f a b (f.Prime-1),tabl a fun a=>tabl q fun b=>mulA f a b,iv q w a 0)) (i:=0) (n:=q) ω fun a l o=>by
  have:=ZJY x l o (A:=tabl a fun a=>tabl q fun b=>sumA f a b 1) (S:=tabl a fun a=>tabl q fun b=>sumA f a b (f.Prime-1)) (M:=tabl a fun a=>tabl q fun b=>mulA f a b) (by rw [Zj];omega) (by rw [Zj];omega) (by rw [Zj];omega);simp (disch:=omega) only [pz,Zh6,Zas,this,ZU]
 have r:((0:Int),([]:List (List Int)),([]:List (List Int)),([]:List (List Int)),List.replicate q.toNat (0:Int))=(fun a=>(a,tabl a fun a=>tabl q fun b=>sumA f a b 1,tabl a fun a=>tabl q fun b=>sumA f a b (f.Prime-1),tabl a fun a=>tabl q fun b=>mulA f a b,iv q w a 0)) 0:=by
  rw [ei];rfl
 rw [r,a0];refine Zc ?_;have s:iv q w q 0=tabl q fun i=>if 1<=i then ix w i else 0:=by
  refine ZJ fun j e k=>?_;by_cases h:1<=j
  ·rw [if_pos ω,if_pos h]
  ·rw [if_neg ω,if_neg h]
 simp (disch:=omega) only [pz,Zh6,s];rfl
structure Mat (q w:Int) (xs:List (List Int)):Prop where
 len:∀ i,0<=i->i<(xs.length:Int)->((ix xs i).length:Int)=w
 rng:∀ i,0<=i->i<(xs.length:Int)->In q (ix xs i)
 n:(xs.length:Int)<=64
 w1:w<=64
def scl (f:Ze) (row:List Int) (c:Int):List Int:=tabl row.length fun t=>mulA f (ix row t) c
def less (f:Ze) (v w:List Int) (c:Int):List Int:=tabl v.length fun t=>sumA f (ix v t) (mulA f (ix w t) c) (f.Prime-1)
def elim (f:Ze) (c r:Int) (row:List Int) (a:List (List Int)):List (List Int):=tabl a.length fun j=>if j=r then row else less f (ix a j) row (ix (ix a j) c)
theorem ZBA {f:Ze} {q:Int} {u:List Int} (w:Ff f q u) {e:Int} (c:1<=e) (h1:e<q):Zk8 f e=some (ix u e):=by
 have j:=w.q64;obtain ⟨k,l⟩:=w.inv1 e c h1;unfold Zk8;have a1:=Zh (B:=ZmQ f e) (fun b=>b) (i:=1) (n:=ix u e) ω fun b o r=>by
  have x:=Zlp w.fd (a:=e) (b:=b) ω ω ω ω;have hI:=w.inv2 e b ω h1 ω ω;have s:¬ mulA f e b=1:=fun h=>by have:=hI.1 h;omega
  simp (disch:=omega) only [pz,ZmQ,x]
 rw [a1];refine Zc ?_;have x:=Zlp w.fd (a:=e) (b:=ix u e) ω ω ω ω;have hI:=(w.inv2 e (ix u e) ω h1 ω ω).2 rfl;simp (disch:=omega) only [pz,ZmQ,x]
theorem Zvt {f:Ze} {q:Int} {w:List Int} (x:Ff f q w) {row:List Int} {c:Int} (hr:In q row) (hl:(row.length:Int)<=64) (k:0<=c) (c1:c<q):Zhp f row c=some (scl f row c):=by
 have l:=x.q64;unfold Zhp;have u:=Zh (B:=Zkt f row c) (fun t=>(tabl t fun t=>mulA f (ix row t) c,t)) (i:=0) (n:=row.length) ω fun t e h=>by
  obtain ⟨o,r⟩:=hr t e h;have hM:=Zlp x.fd (a:=ix row t) (b:=c) ω ω ω ω;have hl:(tabl t fun t=>mulA f (ix row t) c).length=t.toNat:=Zj;simp (disch:=omega) only [pz,Zkt,hM,gApp1,hl,ZU]
 have j:(([]:List Int),(0:Int))=(fun t=>(tabl t fun t=>mulA f (ix row t) c,t)) 0:=rfl;rw [j,u];refine Zc ?_;simp (disch:=omega) only [pz,Zkt];rfl
theorem Zzl {f:Ze} {q:Int} {a2:List Int} (hF:Ff f q a2) {v w:List Int} {c:Int} (h:In q v) (hw:In q w) (hl:(v.length:Int)<=64) (he:w.length=v.length) (o:0<=c) (c1:c<q):Zkk f v w c=some (less f v w c):=by
 have r:=hF.q64;have hp:=hF.fd.p2;have j:=hF.fd.p64;unfold Zkk;have a1:=Zh (B:=Zji f v w c) (fun t=>(tabl t fun t=>sumA f (ix v t) (mulA f (ix w t) c) (f.Prime-1),t)) (i:=0) (n:=v.length) ω fun t e k=>by
  obtain ⟨s,u⟩:=h t e k;obtain ⟨x,y⟩:=hw t e ω;have hM:=Zlp hF.fd (a:=ix w t) (b:=c) ω ω ω ω;obtain ⟨g5,g6⟩:=ZcI hF.fd hF.pw (ix w t) c;have hS:=Zr2 hF.fd (a:=ix v t) (b:=mulA f (ix w t) c) (c:=f.Prime-1) ω ω ω ω ω ω;have hl:(tabl t fun t=>sumA f (ix v t) (mulA f (ix w t) c) (f.Prime-1)).length=t.toNat:=Zj;simp (disch:=omega) only [pz,Zji,hM,hS,gApp1,hl,ZU]
 have l:(([]:List Int),(0:Int))=(fun t=>(tabl t fun t=>sumA f (ix v t) (mulA f (ix w t) c) (f.Prime-1),t)) 0:=rfl;rw [l,a1];refine Zc ?_;simp (disch:=omega) only [pz,Zji];rfl
theorem Zgz {f:Ze} {row:List Int} {c:Int}:(scl f row c).length=row.length:=by unfold scl;rw [Zj];omega
theorem ZuG {f:Ze} {v w:List Int} {c:Int}:(less f v w c).length=v.length:=by unfold less;rw [Zj];omega
theorem ZlY {f:Ze} {q:Int} {h:List Int} (e:Ff f q h) {row:List Int} {c:Int}:In q (scl f row c):=fun i a h1=>by
 rw [Zgz] at h1;unfold scl;rw [ZG a h1];exact ZcI e.fd e.pw _ _
theorem ZGb {f:Ze} {q:Int} {h:List Int} (e:Ff f q h) {v w:List Int} {c:Int}:In q (less f v w c):=fun i a h1=>by
 rw [ZuG] at h1;unfold less;rw [ZG a h1];exact ZlF e.fd e.pw _ _ _
theorem ZeT {f:Ze} {c r:Int} {row:List Int} {a:List (List Int)}:(elim f c r row a).length=a.length:=by unfold elim;rw [Zj];omega
theorem Mat.elim {f:Ze} {q w:Int} {j:List Int} (l:Ff f q j) {c r:Int} {row:List Int} {h:List (List Int)} (e:Mat q w h) (k:In q row) (o:(row.length:Int)=w):Mat q w (elim f c r row h):=by
 refine ⟨fun i a h1=>?_,fun i a h1=>?_,by rw [ZeT];exact e.n,e.w1⟩
 ·rw [ZeT] at h1;unfold Proofs.YtdmledeildfidaaGreatDoor.elim;rw [ZG a h1];split
  ·exact o
  ·rw [ZuG];exact e.len i a h1
 ·rw [ZeT] at h1;unfold Proofs.YtdmledeildfidaaGreatDoor.elim;rw [ZG a h1];split
  ·exact k
  ·exact ZGb l
theorem Mat.set {q w:Int} {xs:List (List Int)} {i:Int} {row:List Int} (h:Mat q w xs) (f:0<=i) (k:In q row) (l:(row.length:Int)=w):Mat q w (xs.set i.toNat row):=by
 refine ⟨fun j c a=>?_,fun j c a=>?_,by rw [List.length_set];exact h.n,h.w1⟩<;>rw [List.length_set] at a
 ·by_cases e:i=j
  ·subst e;rw [Zc1 f a];exact l
  ·rw [ZhA f c e];exact h.len j c a
 ·by_cases e:i=j
  ·subst e;rw [Zc1 f a];exact k
  ·rw [ZhA f c e];exact h.rng j c a
theorem ZBj {f:Ze} {q w:Int} {a4:List Int} (hF:Ff f q a4) {piv:List Int} {c i:Int} {xs:List (List Int)} (a:Mat q w xs) (s:0<=c) (a5:c<w) (a6:(piv.length:Int)<=i) (u:i<xs.length) (hp:¬ ix (ix xs i) c=0):
  ZaH f piv c xs i=some (.inl (piv++[c],c+1,elim f c piv.length (scl f (ix xs i) (ix a4 (ix (ix xs i) c))) ((xs.set i.toNat (ix xs piv.length)).set piv.length (scl f (ix xs i) (ix a4 (ix (ix xs i) c)))))):=by
 have hq:=hF.q64;have hn:=a.n;have hw:=a.w1;have ai:=a.len i ω u;have ab:=a.rng i ω u;obtain ⟨y,k⟩:=ab c s ω;obtain ⟨v0,v1⟩:=hF.inv1 (ix (ix xs i) c) ω k;have hI:=ZBA hF (e:=ix (ix xs i) c) ω k;have hS:=Zvt hF (row:=ix xs i) (c:=ix a4 (ix (ix xs i) c)) ab ω ω v1;have aw:(xs.set i.toNat (ix xs piv.length)).length=xs.length:=List.length_set;simp (disch:=omega) only [pz,ZaH,hI,hS];generalize a8:scl f (ix xs i) (ix a4 (ix (ix xs i) c))=row;have ag:(row.length:Int)=w:=by rw [<-a8,Zgz];exact ai
 have a9:In q row:=by rw [<-a8];exact ZlY hF
 have hy:Mat q w ((xs.set i.toNat (ix xs piv.length)).set piv.length row):=(a.set ω (a.rng _ ω ω) (a.len _ ω ω)).set (i:=(piv.length:Int)) ω a9 ag;have aa:ix ((xs.set i.toNat (ix xs piv.length)).set piv.length row) (piv.length:Int)=row:=Zc1 (i:=(piv.length:Int)) ω (by rw [List.length_set];omega);have ah:((xs.set i.toNat (ix xs piv.length)).set piv.length row).length=xs.length:=by rw [List.length_set,List.length_set]
 generalize ((xs.set i.toNat (ix xs piv.length)).set piv.length row)=ys at hy aa ah ⊢;have ae:=Zh (B:=ZhR f piv c row) (fun j=>(j,tabl ys.length fun t=>if t<j then (if t=piv.length then row else less f (ix ys t) row (ix (ix ys t) c)) else ix ys t)) (i:=0) (n:=ys.length) ω fun j l o=>by
  have a0:(tabl ys.length fun t=>if t<j then (if t=piv.length then row else less f (ix ys t) row (ix (ix ys t) c)) else ix ys t).length=ys.length:=by rw [Zj];omega
  have a1:ix (tabl ys.length fun t=>if t<j then (if t=piv.length then row else less f (ix ys t) row (ix (ix ys t) c)) else ix ys t) j=ix ys j:=by rw [ZG l o,if_neg ω]
  by_cases hj:j=piv.length
  ·have hs:(tabl ys.length fun t=>if t<j then (if t=piv.length then row else less f (ix ys t) row (ix (ix ys t) c)) else ix ys t)=tabl ys.length fun t=>if t<j+1 then (if t=piv.length then row else less f (ix ys t) row (ix (ix ys t) c)) else ix ys t:=by
    refine ZJ fun t x r=>?_;by_cases h:t<j
    ·rw [if_pos h,if_pos (show t<j+1 by omega)]
    ·by_cases h':t=j
     ·rw [if_neg h,if_pos (show t<j+1 by omega),if_pos ω,h',hj,aa]
     ·rw [if_neg h,if_neg (show ¬ t<j+1 by omega)]
   have a2:(tabl ys.length fun t=>if t<j+1 then (if t=piv.length then row else less f (ix ys t) row (ix (ix ys t) c)) else ix ys t).length=ys.length:=by rw [Zj];omega
   simp only [hs];simp (disch:=omega) only [pz,ZhR,a2]
  ·have av:=hy.len j l o;have ac:=hy.rng j l o;obtain ⟨d0,d1⟩:=ac c s ω;have hL:=Zzl hF (v:=ix ys j) (w:=row) (c:=ix (ix ys j) c) ac a9 ω ω d0 d1;have hs:(tabl ys.length fun t=>if t<j then (if t=piv.length then row else less f (ix ys t) row (ix (ix ys t) c)) else ix ys t).set j.toNat (less f (ix ys j) row (ix (ix ys j) c))=tabl ys.length fun t=>if t<j+1 then (if t=piv.length then row else less f (ix ys t) row (ix (ix ys t) c)) else ix ys t:=by
    apply Zaj l o
    ·intro t x r t2;by_cases h:t<j
     ·rw [if_pos h,if_pos (show t<j+1 by omega)]
     ·rw [if_neg h,if_neg (show ¬ t<j+1 by omega)]
    ·rw [if_pos ω,if_neg hj]
   simp (disch:=omega) only [pz,ZhR,a0,a1,hL,hs]
 have y:((0:Int),ys)=(fun j=>(j,tabl ys.length fun t=>if t<j then (if t=piv.length then row else less f (ix ys t) row (ix (ix ys t) c)) else ix ys t)) 0:=by
  show _=((0:Int),_);congr 1;refine (Zbk ys).symm.trans (ZJ fun t x r=>?_);rw [if_neg ω]
 rw [y,ae];refine Zc ?_;have k:(tabl ys.length fun t=>if t<(ys.length:Int) then (if t=piv.length then row else less f (ix ys t) row (ix (ix ys t) c)) else ix ys t)=elim f c piv.length row ys:=ZJ fun t x r=>by rw [if_pos r]
 simp (disch:=omega) only [pz,ZhR,k,ZeT,gApp1]
theorem Zat {e:Type} [Inhabited e] {n:Int} {f:Int->e} {i:Int} (a:0<=i) (h1:i<n):gIdx (tabl n f) i=some (f i):=by
 rw [ZhU a (by rw [Zj];omega),ZG a h1]
theorem Zwy {f:Ze} {q:Int} {e:List Int}:(tabs f q e).qadd=tabl q fun a=>tabl q fun b=>sumA f a b 1:=rfl
theorem Zrt {f:Ze} {q:Int} {e:List Int}:(tabs f q e).qsub=tabl q fun a=>tabl q fun b=>sumA f a b (f.Prime-1):=rfl
theorem Zj6 {f:Ze} {q:Int} {e:List Int}:(tabs f q e).qmul=tabl q fun a=>tabl q fun b=>mulA f a b:=rfl
theorem ZGc {f:Ze} {q:Int} {a:List Int}:(tabs f q a).qinv=tabl q fun i=>if 1<=i then ix a i else 0:=rfl
theorem ZAE {f:Ze} {q:Int} {k:List Int} (j:Ff f q k) {v w c:Int} (v0:0<=v) (v1:v<q) (w0:0<=w) (w1:w<q) (a:0<=c) (c1:c<q):sumA f v (mulA f (sumA f 0 c (f.Prime-1)) w) 1=sumA f v (mulA f w c) (f.Prime-1):=by
 obtain ⟨e,h⟩:=ZcI j.fd j.pw w c;rw [j.neg c w a c1 w0 w1,j.comm c w a c1 w0 w1,j.sub v _ v0 v1 e h]
theorem ZIP {f:Ze} {q:Int} {a0:List Int} (hF:Ff f q a0) {v w:List Int} {c:Int} (s:In q v) (hw:In q w) (hl:(v.length:Int)<=64) (he:w.length=v.length) (x:0<=c) (c1:c<q):
  ZcN (tabs f q a0) v w (sumA f 0 c (f.Prime-1))=some (less f v w c):=by
 have hq:=hF.q64;obtain ⟨n0,n1⟩:=ZlF hF.fd hF.pw 0 c (f.Prime-1);unfold ZcN;have a2:=Zh (B:=ZbS (tabs f q a0) w (sumA f 0 c (f.Prime-1))) (fun t=>(t,tabl v.length fun u=>if u<t then sumA f (ix v u) (mulA f (ix w u) c) (f.Prime-1) else ix v u)) (i:=0) (n:=v.length) ω fun t a e=>by
  obtain ⟨k,l⟩:=s t a e;obtain ⟨o,r⟩:=hw t a ω;have a6:(tabl v.length fun u=>if u<t then sumA f (ix v u) (mulA f (ix w u) c) (f.Prime-1) else ix v u).length=v.length:=by rw [Zj];omega
  have j:ix (tabl v.length fun u=>if u<t then sumA f (ix v u) (mulA f (ix w u) c) (f.Prime-1) else ix v u) t=ix v t:=by rw [ZG a e,if_neg ω]
  obtain ⟨y,m1⟩:=ZcI hF.fd hF.pw (sumA f 0 c (f.Prime-1)) (ix w t);have hs:(tabl v.length fun u=>if u<t then sumA f (ix v u) (mulA f (ix w u) c) (f.Prime-1) else ix v u).set t.toNat (sumA f (ix v t) (mulA f (sumA f 0 c (f.Prime-1)) (ix w t)) 1)=tabl v.length fun u=>if u<t+1 then sumA f (ix v u) (mulA f (ix w u) c) (f.Prime-1) else ix v u:=by
   apply Zaj a e
   ·intro u u0 u1 u2;by_cases h:u<t
    ·rw [if_pos h,if_pos (show u<t+1 by omega)]
    ·rw [if_neg h,if_neg (show ¬ u<t+1 by omega)]
   ·rw [if_pos ω,ZAE hF k l o r x c1]
  have i1:gIdx (tabl v.length fun u=>if u<t then sumA f (ix v u) (mulA f (ix w u) c) (f.Prime-1) else ix v u) t=some (ix v t):=by rw [ZhU a ω,j]
  have i2:gIdx (tabs f q a0).qadd (ix v t)=some (tabl q fun b=>sumA f (ix v t) b 1):=by rw [Zwy,Zat k l]
  have i3:gIdx (tabs f q a0).qmul (sumA f 0 c (f.Prime-1))=some (tabl q fun b=>mulA f (sumA f 0 c (f.Prime-1)) b):=by rw [Zj6,Zat n0 n1]
  have i4:gIdx (tabl q fun b=>mulA f (sumA f 0 c (f.Prime-1)) b) (ix w t)=some (mulA f (sumA f 0 c (f.Prime-1)) (ix w t)):=Zat o r;have i5:gIdx (tabl q fun b=>sumA f (ix v t) b 1) (mulA f (sumA f 0 c (f.Prime-1)) (ix w t))=some (sumA f (ix v t) (mulA f (sumA f 0 c (f.Prime-1)) (ix w t)) 1):=Zat y m1;simp (disch:=omega) only [pz,ZbS,j,i2,i3,i4,i5,hs]
 have e0:((0:Int),v)=(fun t=>(t,tabl v.length fun u=>if u<t then sumA f (ix v u) (mulA f (ix w u) c) (f.Prime-1) else ix v u)) 0:=by
  show _=((0:Int),_);congr 1;refine (Zbk v).symm.trans (ZJ fun t a e=>?_);rw [if_neg ω]
 rw [e0,a2];refine Zc ?_;have e1:(tabl v.length fun u=>if u<(v.length:Int) then sumA f (ix v u) (mulA f (ix w u) c) (f.Prime-1) else ix v u)=less f v w c:=ZJ fun t a e=>by rw [if_pos e]
 simp (disch:=omega) only [pz,ZbS,e1]
theorem ZHb {f:Ze} {q:Int} {r:List Int} (o:Ff f q r) {v w:List Int} (h:In q v) (u:In q w) (x:w.length=v.length):less f v w 0=v:=by
 refine Eq.trans (ZJ fun t a i=>?_) (Zbk v);obtain ⟨j,k⟩:=h t a i;obtain ⟨c,e⟩:=u t a ω;have l:=o.q2;rw [o.comm _ 0 c e ω ω,o.z1 _ c e,o.z2 _ j k]
theorem ZIK {f:Ze} {q w:Int} {a1:List Int} (hF:Ff f q a1) {piv:List Int} {c d:Int} {row:List Int} {ys:List (List Int)} (hy:Mat q w ys) (s:0<=c) (a4:c<w) (hr:(piv.length:Int)<ys.length) (al:(row.length:Int)=w) (a8:In q row) (a9:ix ys piv.length=row):
  loop (ZcQ (tabs f q a1) piv c d ys) (0,ys)=some (if (piv.length:Int)+1=ys.length then .inr (.inr ((elim f c piv.length row ys).take (piv.length+1),piv++[c],d)) else .inr (.inl (piv++[c],d,c+1,elim f c piv.length row ys))):=by
 have hn:=hy.n;have hw:=hy.w1;have hq:=hF.q64;have a5:=hF.q2;have ac:=Zh (B:=ZcQ (tabs f q a1) piv c d ys) (fun j=>(j,tabl ys.length fun t=>if t<j then (if t=piv.length then row else less f (ix ys t) row (ix (ix ys t) c)) else ix ys t)) (i:=0) (n:=ys.length) ω fun j a k=>by
  have a6:(tabl ys.length fun t=>if t<j then (if t=piv.length then row else less f (ix ys t) row (ix (ix ys t) c)) else ix ys t).length=ys.length:=by rw [Zj];omega
  have r:ix (tabl ys.length fun t=>if t<j then (if t=piv.length then row else less f (ix ys t) row (ix (ix ys t) c)) else ix ys t) j=ix ys j:=by rw [ZG a k,if_neg ω]
  have l:gIdx (tabl ys.length fun t=>if t<j then (if t=piv.length then row else less f (ix ys t) row (ix (ix ys t) c)) else ix ys t) j=some (ix ys j):=by rw [ZhU a ω,r]
  by_cases hj:j=piv.length
  ·have hs:(tabl ys.length fun t=>if t<j then (if t=piv.length then row else less f (ix ys t) row (ix (ix ys t) c)) else ix ys t)=tabl ys.length fun t=>if t<j+1 then (if t=piv.length then row else less f (ix ys t) row (ix (ix ys t) c)) else ix ys t:=by
    refine ZJ fun t o e=>?_;by_cases h:t<j
    ·rw [if_pos h,if_pos (show t<j+1 by omega)]
    ·by_cases h':t=j
     ·rw [if_neg h,if_pos (show t<j+1 by omega),if_pos ω,h',hj,a9]
     ·rw [if_neg h,if_neg (show ¬ t<j+1 by omega)]
   simp only [hs] at l ⊢;simp (disch:=omega) only [pz,ZcQ,Zet,l]
  ·have am:=hy.len j a k;have a2:=hy.rng j a k;obtain ⟨u,x⟩:=a2 c s ω;by_cases hz:ix (ix ys j) c=0
   ·have hs:(tabl ys.length fun t=>if t<j then (if t=piv.length then row else less f (ix ys t) row (ix (ix ys t) c)) else ix ys t)=tabl ys.length fun t=>if t<j+1 then (if t=piv.length then row else less f (ix ys t) row (ix (ix ys t) c)) else ix ys t:=by
     refine ZJ fun t o e=>?_;by_cases h:t<j
     ·rw [if_pos h,if_pos (show t<j+1 by omega)]
     ·by_cases h':t=j
      ·rw [if_neg h,if_pos (show t<j+1 by omega),if_neg ω,h',hz,ZHb hF a2 a8 ω]
      ·rw [if_neg h,if_neg (show ¬ t<j+1 by omega)]
    simp only [hs] at l ⊢;simp (disch:=omega) only [pz,ZcQ,Zet,l]
   ·have hL:=ZIP hF (v:=ix ys j) (w:=row) (c:=ix (ix ys j) c) a2 a8 ω ω u x;have hs:(tabl ys.length fun t=>if t<j then (if t=piv.length then row else less f (ix ys t) row (ix (ix ys t) c)) else ix ys t).set j.toNat (less f (ix ys j) row (ix (ix ys j) c))=tabl ys.length fun t=>if t<j+1 then (if t=piv.length then row else less f (ix ys t) row (ix (ix ys t) c)) else ix ys t:=by
     apply Zaj a k
     ·intro t o e t2;by_cases h:t<j
      ·rw [if_pos h,if_pos (show t<j+1 by omega)]
      ·rw [if_neg h,if_neg (show ¬ t<j+1 by omega)]
     ·rw [if_pos ω,if_neg hj]
    have y:ix (tabl ys.length fun t=>if t<j then (if t=piv.length then row else less f (ix ys t) row (ix (ix ys t) c)) else ix ys t) (piv.length:Int)=row:=by
     rw [ZG ω hr];by_cases h:(piv.length:Int)<j
     ·rw [if_pos h,if_pos rfl]
     ·rw [if_neg h,a9]
    have i3:gIdx (tabs f q a1).qsub 0=some (tabl q fun b=>sumA f 0 b (f.Prime-1)):=by rw [Zrt,Zat ω ω]
    have i4:gIdx (tabl q fun b=>sumA f 0 b (f.Prime-1)) (ix (ix ys j) c)=some (sumA f 0 (ix (ix ys j) c) (f.Prime-1)):=Zat u x;have i5:gNe j (piv.length:Int)=some ():=by unfold gNe;rw [if_pos hj]
    have he:Z1.mk (tabs f q a1).qq (tabs f q a1).qadd (tabs f q a1).qsub (tabs f q a1).qmul (tabs f q a1).qinv=tabs f q a1:=rfl;simp (disch:=omega) only [pz,ZcQ,Zet,r,y,i3,i4,i5,he,hL,hs]
 have e0:((0:Int),ys)=(fun j=>(j,tabl ys.length fun t=>if t<j then (if t=piv.length then row else less f (ix ys t) row (ix (ix ys t) c)) else ix ys t)) 0:=by
  show _=((0:Int),_);congr 1;refine (Zbk ys).symm.trans (ZJ fun t o e=>?_);rw [if_neg ω]
 rw [e0,ac];refine Zc ?_;have e1:(tabl ys.length fun t=>if t<(ys.length:Int) then (if t=piv.length then row else less f (ix ys t) row (ix (ix ys t) c)) else ix ys t)=elim f c piv.length row ys:=ZJ fun t o e=>by rw [if_pos e]
 have ao:(elim f c piv.length row ys).length=ys.length:=ZeT;have ad:(piv++[c]).length=piv.length+1:=by simp
 simp only [e1];by_cases h:(piv.length:Int)+1=ys.length
 ·rw [if_pos h];have g:gSl (elim f c piv.length row ys) 0 ((piv++[c]).length:Int)=some ((elim f c piv.length row ys).take (piv.length+1)):=by
   rw [Zbr ω ω ω,ad];rfl
  simp (disch:=omega) only [pz,ZcQ,gApp1,Zfd,g]
 ·rw [if_neg h];simp (disch:=omega) only [pz,ZcQ,gApp1,Zga]
theorem ZwG {e:Type} [Inhabited e] {xs:List e} {k:Nat}:xs.set k (ix xs (k:Int))=xs:=by
 apply ZaC
 ·exact List.length_set
 ·intro i a c;rw [List.length_set] at c;by_cases h:(k:Int)=i
  ·subst h;exact Zc1 (i:=(k:Int)) a c
  ·exact ZhA (i:=(k:Int)) ω a h
theorem Zrb {f:Ze} {q w:Int} {a1:List Int} (hF:Ff f q a1) {piv:List Int} {c d:Int} {xs:List (List Int)} (j:Mat q w xs) (r:0<=c) (v:c<w) (hr:(piv.length:Int)<xs.length) (hp:¬ ix (ix xs piv.length) c=0) (d0:0<=d) (d1:d<q):
  ZgA (tabs f q a1) piv c d xs=some (if (piv.length:Int)+1=xs.length
   then .inr ((elim f c piv.length (scl f (ix xs piv.length) (ix a1 (ix (ix xs piv.length) c))) (xs.set piv.length (scl f (ix xs piv.length) (ix a1 (ix (ix xs piv.length) c))))).take (piv.length+1),piv++[c],mulA f d (ix (ix xs piv.length) c))
   else .inl (piv++[c],mulA f d (ix (ix xs piv.length) c),c+1,elim f c piv.length (scl f (ix xs piv.length) (ix a1 (ix (ix xs piv.length) c))) (xs.set piv.length (scl f (ix xs piv.length) (ix a1 (ix (ix xs piv.length) c)))))):=by
 have hq:=hF.q64;have hn:=j.n;have hw:=j.w1;have ab:=j.len piv.length ω hr;have a6:=j.rng piv.length ω hr;obtain ⟨o,k⟩:=a6 c r ω;obtain ⟨v0,v1⟩:=hF.inv1 (ix (ix xs piv.length) c) ω k;have i1:gIdx (tabs f q a1).qmul d=some (tabl q fun b=>mulA f d b):=by rw [Zj6,Zat d0 d1]
 have i2:gIdx (tabl q fun b=>mulA f d b) (ix (ix xs piv.length) c)=some (mulA f d (ix (ix xs piv.length) c)):=Zat o k;simp (disch:=omega) only [pz,ZgA,i1,i2];generalize hR:ix xs piv.length=R at *;generalize hE:ix R c=e at *;have a7:=Zh (B:=Zjf (tabs f q a1) piv c e (mulA f d e) R) (fun t=>(t,xs.set piv.length (tabl R.length fun u=>if u<t then mulA f (ix R u) (ix a1 e) else ix R u))) (i:=0) (n:=R.length) ω fun t l a=>by
  obtain ⟨x,y⟩:=a6 t l a;have a0:(tabl R.length fun u=>if u<t then mulA f (ix R u) (ix a1 e) else ix R u).length=R.length:=by rw [Zj];omega
  have s:ix (tabl R.length fun u=>if u<t then mulA f (ix R u) (ix a1 e) else ix R u) t=ix R t:=by rw [ZG l a,if_neg ω]
  have hs:(tabl R.length fun u=>if u<t then mulA f (ix R u) (ix a1 e) else ix R u).set t.toNat (mulA f (ix a1 e) (ix R t))=tabl R.length fun u=>if u<t+1 then mulA f (ix R u) (ix a1 e) else ix R u:=by
   apply Zaj l a
   ·intro u u0 u1 u2;by_cases h:u<t
    ·rw [if_pos h,if_pos (show u<t+1 by omega)]
    ·rw [if_neg h,if_neg (show ¬ u<t+1 by omega)]
   ·rw [if_pos ω,hF.comm _ _ ω v1 x y]
  generalize (tabl R.length fun u=>if u<t then mulA f (ix R u) (ix a1 e) else ix R u)=A at a0 s hs ⊢;have hA:ix (xs.set piv.length A) piv.length=A:=Zc1 (i:=(piv.length:Int)) ω hr;have am:(xs.set piv.length A).length=xs.length:=List.length_set;have i3:gIdx (tabs f q a1).qinv e=some (ix a1 e):=by rw [ZGc,Zat o k,if_pos ω]
  have i4:gIdx (tabs f q a1).qmul (ix a1 e)=some (tabl q fun b=>mulA f (ix a1 e) b):=by rw [Zj6,Zat ω v1]
  have i5:gIdx (tabl q fun b=>mulA f (ix a1 e) b) (ix R t)=some (mulA f (ix a1 e) (ix R t)):=Zat x y;simp (disch:=omega) only [pz,Zjf,hA,s,i3,i4,i5,hs,List.set_set]
 have o:((0:Int),xs)=(fun t=>(t,xs.set piv.length (tabl R.length fun u=>if u<t then mulA f (ix R u) (ix a1 e) else ix R u))) 0:=by
  show _=((0:Int),xs.set piv.length _);congr 1;have:(tabl R.length fun u=>if u<0 then mulA f (ix R u) (ix a1 e) else ix R u)=R:=by
   refine Eq.trans (ZJ fun t l a=>?_) (Zbk R);rw [if_neg ω]
  rw [this,<-hR,ZwG]
 rw [o,a7];refine Zc ?_;have k:(tabl R.length fun u=>if u<(R.length:Int) then mulA f (ix R u) (ix a1 e) else ix R u)=scl f R (ix a1 e):=ZJ fun t l a=>by rw [if_pos a]
 simp only [k];have a2:((scl f R (ix a1 e)).length:Int)=w:=by rw [Zgz];exact ab
 have a3:In q (scl f R (ix a1 e)):=ZlY hF;generalize scl f R (ix a1 e)=row at a2 a3 ⊢;have hy:Mat q w (xs.set piv.length row):=j.set (i:=(piv.length:Int)) ω a3 a2;have aa:ix (xs.set piv.length row) piv.length=row:=Zc1 (i:=(piv.length:Int)) ω hr;have a9:(xs.set piv.length row).length=xs.length:=List.length_set;have hL:=ZIK hF (d:=mulA f d e) hy r v ω a2 a3 aa;rw [a9] at hL;simp (disch:=omega) only [pz,Zjf];rw [hL];by_cases h:(piv.length:Int)+1=xs.length
 ·rw [if_pos h,if_pos h]
 ·rw [if_neg h,if_neg h]
theorem ZyD {f:Ze} {q w:Int} {piv:List Int} {c:Int} {xs:List (List Int)} (k:Mat q w xs) (a1:0<=c) (a2:c<w) (hr:(piv.length:Int)<=xs.length):
  ∃ i:Int,(piv.length:Int)<=i/\i<=xs.length/\(∀ j,(piv.length:Int)<=j->j<i->ix (ix xs j) c=0)/\(i<xs.length->¬ ix (ix xs i) c=0)/\ZlK f piv c xs=ZaH f piv c xs i:=by
 have hn:=k.n;have a5:∀ (d:Nat) (i:Int),i+d=xs.length->(piv.length:Int)<=i->(∀ j,(piv.length:Int)<=j->j<i->ix (ix xs j) c=0)->∃ i':Int,(piv.length:Int)<=i'/\i'<=xs.length/\(∀ j,(piv.length:Int)<=j->j<i'->ix (ix xs j) c=0)/\(i'<xs.length->¬ ix (ix xs i') c=0)/\loop (Zc2 f piv c xs) i=ZaH f piv c xs i':=by
  intro d;induction d with
  | zero=>
   intro i hi a3 ha;refine ⟨i,a3,by omega,ha,fun h=>by omega,?_⟩;have hB:Zc2 f piv c xs i=(ZaH f piv c xs i).map fun x=>.inr x:=by
    simp (disch:=omega) only [pz,Zc2]
   cases hk:ZaH f piv c xs i with
   | none=>
    exfalso;unfold ZaH at hk;obtain rfl:i=(xs.length:Int):=ω;have:((xs.length:Int)==(xs.length:Int))=true:=by simp
    rw [this] at hk;cases hk
   | some r=>rw [hk] at hB;exact Zc hB
  | succ d ih=>
   intro i hi a3 ha;have hl:=k.len i ω ω;by_cases h:ix (ix xs i) c=0
   ·obtain ⟨i',o,s,u,v,y⟩:=ih (i+1) ω ω fun j l j1=>by
     by_cases e:j=i
     ·rw [e];exact h
     ·exact ha j l ω
    refine ⟨i',o,s,u,v,?_⟩;rw [<-y];refine Zy ?_;simp (disch:=omega) only [pz,Zc2,h]
   ·refine ⟨i,a3,by omega,ha,fun _=>h,?_⟩;have hB:Zc2 f piv c xs i=(ZaH f piv c xs i).map fun x=>.inr x:=by
     simp (disch:=omega) only [pz,Zc2,h]
    cases hk:ZaH f piv c xs i with
    | none=>
     rw [hk] at hB;cases hl:loop (Zc2 f piv c xs) i with
     | none=>rfl
     | some r=>
      obtain ⟨m,hm⟩:=Zad hl;obtain ⟨_,a,_,h1,_⟩:=Zab hm;rw [hB] at h1;cases h1
    | some r=>rw [hk] at hB;exact Zc hB
 unfold ZlK;exact a5 (xs.length-piv.length) piv.length ω ω fun j l j1=>by omega
theorem ZGV {q w:Int} {piv:List Int} {c i:Int} {xs:List (List Int)} (a:Mat q w xs) (l:0<=c) (o:c<w) (hr:(piv.length:Int)<=xs.length) (r:(piv.length:Int)<=i) (s:i<=xs.length) (hz:∀ j,(piv.length:Int)<=j->j<i->ix (ix xs j) c=0) (hp:i<xs.length->¬ ix (ix xs i) c=0):
  Zha (xs.drop piv.length) (fun f=>ZeO f c)=some (if i<xs.length then i-piv.length else -1):=by
 have u:=a.n;unfold Zha;have a3:((xs.drop piv.length).length:Int)=(xs.length:Int)-piv.length:=by rw [List.length_drop];omega
 have x:∀ k,0<=k->ix (xs.drop piv.length) k=ix xs (piv.length+k):=fun k k0=>Zlb (i:=(piv.length:Int)) ω k0;have a0:=Zh (B:=ZcB (xs.drop piv.length) (fun f=>ZeO f c)) (fun k=>k) (i:=0) (n:=i-piv.length) ω fun k k0 k1=>by
  have hl:=a.len (piv.length+k) ω ω;have a1:=hz (piv.length+k) ω ω;simp (disch:=omega) only [pz,ZcB,ZeO,x,a1]
 rw [a0];refine Zc ?_;by_cases h:i<xs.length
 ·rw [if_pos h];have hl:=a.len i ω h;have a4:=hp h;have e:(piv.length:Int)+(i-piv.length)=i:=ω;simp (disch:=omega) only [pz,ZcB,ZeO,x,e]
 ·rw [if_neg h];simp (disch:=omega) only [pz,ZcB]
theorem ZtN {xs:List (List Int)} {k:Nat} (h:k<=xs.length):gSl xs 0 (k:Int)=some (xs.take k):=by
 rw [Zbr ω ω ω];simp
theorem Zz9 {f:Ze} {q w:Int} {a0:List Int} (hF:Ff f q a0):∀ (n:Nat) (c:Int) (piv:List Int) (xs:List (List Int)) (d:Int),c+n=w->0<=c->(piv.length:Int)<xs.length->Mat q w xs->0<=d->d<q ->
  ∃ R a1 d',loop (Zdj f w) (piv,c,xs)=some (R,a1)/\a1.length<=R.length/\R.length=xs.length/\Mat q w R/\loop (Zck (tabs f q a0)) (piv,d,c,xs)=some (R.take a1.length,a1,d'):=by
 intro n;induction n with
 | zero=>
  intro c piv xs d hc j hp a o r;have hn:=a.n;have hw:=a.w1;have y:=a.len 0 ω ω;refine ⟨xs,piv,d,Zc ?_,by omega,rfl,a,Zc ?_⟩
  ·simp (disch:=omega) only [pz,Zdj]
  ·simp (disch:=omega) only [pz,Zck,Zfd,ZtN]
 | succ n ih=>
  intro c piv xs d hc j hp a o r;have hn:=a.n;have hw:=a.w1;have a8:=hF.q2;have y:=a.len 0 ω ω;obtain ⟨i,i0,i1,iz,ip,hs⟩:=ZyD (f:=f) (piv:=piv) a j ω ω;have hi:=ZGV (piv:=piv) a j ω ω i0 i1 iz ip;have aa:gSl xs (piv.length:Int) (xs.length:Int)=some (xs.drop piv.length):=Zkf (lo:=(piv.length:Int)) ω ω;have hB:Zdj f w (piv,c,xs)=ZaH f piv c xs i:=by
   rw [<-hs];simp (disch:=omega) only [pz,Zdj]
  by_cases h:i<xs.length
  ·rw [if_pos h] at hi;have ac:=ip h;have ab:=ZBj hF (piv:=piv) a j (by omega:c<w) i0 h ac;rw [ab] at hB;rw [Zy hB];have ai:=a.len i ω h;have aj:=a.rng i ω h;have ah:=a.len piv.length ω hp;have al:=a.rng piv.length ω hp;have a9:In q (scl f (ix xs i) (ix a0 (ix (ix xs i) c))):=ZlY hF;have a7:((scl f (ix xs i) (ix a0 (ix (ix xs i) c))).length:Int)=w:=by rw [Zgz];exact ai
   obtain ⟨m0,m1⟩:=aj c j ω;have hI:∃ d',0<=d'/\d'<q/\Zck (tabs f q a0) (piv,d,c,xs)=some (if (piv.length:Int)+1=xs.length
     then .inr ((elim f c piv.length (scl f (ix xs i) (ix a0 (ix (ix xs i) c))) ((xs.set i.toNat (ix xs piv.length)).set piv.length (scl f (ix xs i) (ix a0 (ix (ix xs i) c))))).take (piv.length+1),piv++[c],d')
     else .inl (piv++[c],d',c+1,elim f c piv.length (scl f (ix xs i) (ix a0 (ix (ix xs i) c))) ((xs.set i.toNat (ix xs piv.length)).set piv.length (scl f (ix xs i) (ix a0 (ix (ix xs i) c)))))):=by
    by_cases ad:i=piv.length
    ·subst ad;have hk:=Zrb hF (piv:=piv) a j (by omega:c<w) hp ac o r;obtain ⟨k,l⟩:=ZcI hF.fd hF.pw d (ix (ix xs piv.length) c);refine ⟨_,k,l,?_⟩;rw [Int.toNat_natCast,ZwG];rw [Int.sub_self] at hi;rw [<-hk];simp (disch:=omega) only [pz,Zck,Zh2,aa,hi]
    ·have av:Mat q w ((xs.set piv.length (ix xs i)).set i.toNat (ix xs piv.length)):=(a.set (i:=(piv.length:Int)) ω aj ai).set ω al ah;have au:((xs.set piv.length (ix xs i)).set i.toNat (ix xs piv.length)).length=xs.length:=by rw [List.length_set,List.length_set]
     have a5:(xs.set piv.length (ix xs i)).length=xs.length:=List.length_set;have am:ix ((xs.set piv.length (ix xs i)).set i.toNat (ix xs piv.length)) piv.length=ix xs i:=by
      rw [ZhA ω ω ad];exact Zc1 (i:=(piv.length:Int)) ω hp
     have az:∀ row,((xs.set piv.length (ix xs i)).set i.toNat (ix xs piv.length)).set piv.length row=(xs.set i.toNat (ix xs piv.length)).set piv.length row:=fun row=>by
      rw [List.set_comm (ix xs i) (ix xs piv.length) (by omega:piv.length≠i.toNat),List.set_set]
     obtain ⟨n0,n1⟩:=ZlF hF.fd hF.pw 0 d (f.Prime-1);have hk:=Zrb hF (piv:=piv) (d:=sumA f 0 d (f.Prime-1)) av j (by omega:c<w) ω (by rw [am];exact ac) n0 n1;rw [am,au,az] at hk;obtain ⟨k,l⟩:=ZcI hF.fd hF.pw (sumA f 0 d (f.Prime-1)) (ix (ix xs i) c);refine ⟨_,k,l,?_⟩;rw [<-hk];have j1:gIdx (tabs f q a0).qsub 0=some (tabl q fun b=>sumA f 0 b (f.Prime-1)):=by rw [Zrt,Zat ω ω]
     have j2:gIdx (tabl q fun b=>sumA f 0 b (f.Prime-1)) d=some (sumA f 0 d (f.Prime-1)):=Zat o r;have e:(piv.length:Int)+(i-piv.length)=i:=ω;simp (disch:=omega) only [pz,Zck,Zh2,aa,hi,e,j1,j2]
   obtain ⟨d',k,l,hI⟩:=hI;have ap:((xs.set i.toNat (ix xs piv.length)).set piv.length (scl f (ix xs i) (ix a0 (ix (ix xs i) c)))).length=xs.length:=by rw [List.length_set,List.length_set]
   have ay:Mat q w ((xs.set i.toNat (ix xs piv.length)).set piv.length (scl f (ix xs i) (ix a0 (ix (ix xs i) c)))):=(a.set ω al ah).set (i:=(piv.length:Int)) ω a9 a7;have af:Mat q w (elim f c piv.length (scl f (ix xs i) (ix a0 (ix (ix xs i) c))) ((xs.set i.toNat (ix xs piv.length)).set piv.length (scl f (ix xs i) (ix a0 (ix (ix xs i) c))))):=Mat.elim hF ay a9 a7;have ak:(elim f c piv.length (scl f (ix xs i) (ix a0 (ix (ix xs i) c))) ((xs.set i.toNat (ix xs piv.length)).set piv.length (scl f (ix xs i) (ix a0 (ix (ix xs i) c))))).length=xs.length:=by rw [ZeT,ap]
   generalize elim f c piv.length (scl f (ix xs i) (ix a0 (ix (ix xs i) c))) ((xs.set i.toNat (ix xs piv.length)).set piv.length (scl f (ix xs i) (ix a0 (ix (ix xs i) c))))=E at hI af ak ⊢;have ax:(piv++[c]).length=piv.length+1:=by simp
   by_cases a6:(piv.length:Int)+1=xs.length
   ·rw [if_pos a6] at hI;refine ⟨E,piv++[c],d',Zc ?_,by omega,ak,af,?_⟩
    ·by_cases b7:c+1<w
     ·simp (disch:=omega) only [pz,Zdj]
     ·simp (disch:=omega) only [pz,Zdj]
    ·rw [ax];exact Zc hI
   ·rw [if_neg a6] at hI;rw [Zy hI];obtain ⟨R,a1,ae,s,u,g3,v,x⟩:=ih (c+1) (piv++[c]) E d' ω ω ω af k l;exact ⟨R,a1,ae,s,u,by omega,v,x⟩
  ·rw [if_neg h] at hi;have ab:ZaH f piv c xs i=some (.inl (piv,c+1,xs)):=by
    obtain rfl:i=(xs.length:Int):=ω;simp (disch:=omega) only [pz,ZaH]
   rw [ab] at hB;rw [Zy hB];have hI:Zck (tabs f q a0) (piv,d,c,xs)=some (.inl (piv,0,c+1,xs)):=by
    simp (disch:=omega) only [pz,Zck,Zh2,Zga,aa,hi]
   rw [Zy hI];obtain ⟨R,a1,ae,s,u,g3,v,x⟩:=ih (c+1) piv xs 0 ω ω hp a ω ω;exact ⟨R,a1,ae,s,u,g3,v,x⟩
theorem Zsz {m:List (List Int)} (hs:Sz2 m):Ziu m=some m:=by
 unfold Ziu;have h1:=hs.1;have h:=Zh (B:=ZkK m) (fun k=>(m.take k.toNat,k)) (i:=0) (n:=m.length) ω fun k a h1=>by
  have j:=Zst (hs.2 (ix m k) (Zl a h1));have l:(m.take k.toNat).length=k.toNat:=by rw [List.length_take];omega
  simp (disch:=omega) only [pz,ZkK,j,gApp1,l,Zap]
 have c:(([]:List (List Int)),(0:Int))=(fun k:Int=>(m.take k.toNat,k)) 0:=by simp
 rw [c,h];refine Zc ?_;have e:m.take (m.length:Int).toNat=m:=by simp
 simp (disch:=omega) only [pz,ZkK,e]
theorem Zum {f:Ze} {q w:Int} {u:List Int} (hF:Ff f q u) {m:List (List Int)} (hs:Sz2 m) (hm:Mat q w m) (hw:0<=w) (h1:1<=(m.length:Int)):
  ∃ R piv d,Ziq f m=some R/\ZkQ (tabs f q u) m=some (R,piv,d)/\R.length<=m.length/\∀ x∈R,(x.length:Int)<=1048576:=by
 have l:=hF.q2;obtain ⟨R,piv,d,e,o,r,h,j⟩:=Zz9 hF w.toNat 0 [] m 1 ω ω (by simp;omega) hm ω ω;have c:=hm.len 0 ω ω;refine ⟨R.take piv.length,piv,d,?_,?_,by rw [List.length_take];omega,fun x k=>?_⟩
 ·unfold Ziq ZoQ;rw [Zsz hs];simp (disch:=omega) only [pz,c,e,ZtN]
 ·unfold ZkQ;rw [Zbb hs];exact j
 ·obtain ⟨i,a,b,rfl⟩:=ZR (List.mem_of_mem_take k);have:=h.len i a b;have:=hm.w1;omega
theorem Zjs {j:Type} {R:j->j->Prop} (asym:∀ x y,R x y->¬ R y x):∀ {a b:List j},a.Pairwise R->b.Pairwise R->(∀ x,x∈a↔x∈b)->a=b
 | [],[],_,_,_=>rfl
 | [],y::b,_,_,h=>by have:=(h y).2 (List.mem_cons_self ..);simp at this
 | x::a,[],_,_,h=>by have:=(h x).1 (List.mem_cons_self ..);simp at this
 | x::a,y::b,ha,c,h=>by
  rw [List.pairwise_cons] at ha c;have irr:∀ x,¬ R x x:=fun x f=>asym x x f f;have e:x=y:=by
   rcases List.mem_cons.1 ((h x).1 (List.mem_cons_self ..)) with e|f
   ·exact e
   ·rcases List.mem_cons.1 ((h y).2 (List.mem_cons_self ..)) with e|hy
    ·exact e.symm
    ·exact absurd (ha.1 y hy) (asym _ _ (c.1 x f))
  subst e;rw [Zjs asym ha.2 c.2 fun z=>?_];constructor
  ·intro hz;rcases List.mem_cons.1 ((h z).1 (List.mem_cons_of_mem _ hz)) with e|hz'
   ·subst e;exact absurd (ha.1 z hz) (irr z)
   ·exact hz'
  ·intro hz;rcases List.mem_cons.1 ((h z).2 (List.mem_cons_of_mem _ hz)) with e|hz'
   ·subst e;exact absurd (c.1 z hz) (irr z)
   ·exact hz'
def insL {a:Type} (c:a->Int) (y:a):List a->List a
 | []=>[y]
 | x::r=>if c x<0 then x::insL c y r else if c x=0 then x::r else y::x::r
theorem Zh5 {j:Type} {c:j->Int} {y:j} (e:∀ x,c x=0->x=y):∀ {l:List j} {z:j},z∈insL c y l↔z=y\/z∈l
 | [],z=>by simp [insL]
 | x::r,z=>by
  rw [insL];by_cases h1:c x<0
  ·rw [if_pos h1,List.mem_cons,Zh5 e,List.mem_cons];constructor
   ·rintro (h|h|h)
    ·exact .inr (.inl h)
    ·exact .inl h
    ·exact .inr (.inr h)
   ·rintro (h|h|h)
    ·exact .inr (.inl h)
    ·exact .inl h
    ·exact .inr (.inr h)
  ·rw [if_neg h1];by_cases a:c x=0
   ·rw [if_pos a];have:=e x a;subst this;constructor
    ·exact .inr
    ·rintro (h|h)
     ·rw [h];exact List.mem_cons_self ..
     ·exact h
   ·rw [if_neg a,List.mem_cons]
theorem ZiL {k:Type} {R:k->k->Prop} {c:k->Int} {y:k} (i:∀ x,c x=0->x=y) (h1:∀ x,c x<0->R x y) (a:∀ x,0<c x->R y x) (o:∀ x y z,R x y->R y z->R x z):∀ {l:List k},l.Pairwise R->(insL c y l).Pairwise R
 | [],_=>by simp [insL]
 | x::r,h=>by
  rw [List.pairwise_cons] at h;rw [insL];by_cases f:c x<0
  ·rw [if_pos f,List.pairwise_cons];refine ⟨fun z hz=>?_,ZiL i h1 a o h.2⟩;rcases (Zh5 i).1 hz with e|hz
   ·rw [e];exact h1 x f
   ·exact h.1 z hz
  ·rw [if_neg f];by_cases j:c x=0
   ·rw [if_pos j,List.pairwise_cons];exact h
   ·rw [if_neg j,List.pairwise_cons,List.pairwise_cons];refine ⟨fun z hz=>?_,h⟩;rcases List.mem_cons.1 hz with e|hz
    ·rw [e];exact a x ω
    ·exact o _ _ _ (a x ω) (h.1 z hz)
theorem Zno {a:Type} (c:a->Int) (y:a):∀ (l:List a),(insL c y l).length<=l.length+1
 | []=>by simp [insL]
 | x::r=>by
  have:=Zno c y r;rw [insL];split
  ·simp only [List.length_cons];omega
  ·split
   ·simp
   ·simp
theorem Zsp {l:List Int} {n:Int} (w:(l.length:Int)<=1000000):∀ (t:List Int) (i:Int) (o:List Int),0<=i->l.drop i.toNat=t->i<=(l.length:Int)->(o.length:Int)<=i+1->loop (ZaS l n) (o,true,i)=some (o++t):=by
 intro t;induction t with
 | nil=>
  intro i o e c k u;have hi:i=(l.length:Int):=by have:=congrArg List.length c;simp at this;omega
  rw [List.append_nil];refine Zc ?_;simp (disch:=omega) only [pz,ZaS]
 | cons a t r=>
  intro i o e c k u;have f:i<(l.length:Int):=by have:=congrArg List.length c;simp at this;omega
  have h:=ZaB (xs:=l) e f;rw [c] at h;obtain ⟨rfl,j⟩:=List.cons.inj h;have hB:ZaS l n (o,true,i)=some (.inl (o++[ix l i],true,i+1)):=by
   simp (disch:=omega) only [pz,ZaS,Zds,Zc6]
  rw [Zy hB,r (i+1) _ ω j.symm ω (by rw [List.length_append,List.length_singleton];omega),List.append_assoc];rfl
theorem ZJm {l:List Int} {n:Int} (w:(l.length:Int)<=1000000):∀ (t:List Int) (i:Int) (u:List Int),0<=i->l.drop i.toNat=t->i<=(l.length:Int)->(u.length:Int)<=i->loop (ZaS l n) (u,false,i)=some (u++insL (fun x=>x-n) n t):=by
 intro t;induction t with
 | nil=>
  intro i u f e o ho;have hi:i=(l.length:Int):=by have:=congrArg List.length e;simp at this;omega
  refine Zc ?_;simp (disch:=omega) only [pz,ZaS,insL]
 | cons a t ih=>
  intro i u f e o ho;have h:i<(l.length:Int):=by have:=congrArg List.length e;simp at this;omega
  have j:=ZaB (xs:=l) f h;rw [e] at j;obtain ⟨rfl,c⟩:=List.cons.inj j;rw [insL];by_cases h1:ix l i-n<0
  ·rw [if_pos h1];have hB:ZaS l n (u,false,i)=some (.inl (u++[ix l i],false,i+1)):=by
    simp (disch:=omega) only [pz,ZaS,Zds,Zc6]
   rw [Zy hB,ih (i+1) _ ω c.symm ω (by rw [List.length_append,List.length_singleton];omega),List.append_assoc];rfl
  ·rw [if_neg h1];by_cases k:ix l i-n=0
   ·rw [if_pos k];have hB:ZaS l n (u,false,i)=some (.inl (u++[ix l i],true,i+1)):=by
     simp (disch:=omega) only [pz,ZaS,Zds,Zc6]
    rw [Zy hB,Zsp w t (i+1) _ ω c.symm ω (by rw [List.length_append,List.length_singleton];omega),List.append_assoc];rfl
   ·rw [if_neg k];have hB:ZaS l n (u,false,i)=some (.inl (u++[n]++[ix l i],true,i+1)):=by
     have r:(u++[n]).length=u.length+1:=by simp
     simp (disch:=omega) only [pz,ZaS,Zds,Zc6]
    rw [Zy hB,Zsp w t (i+1) _ ω c.symm ω (by rw [List.length_append,List.length_append,List.length_singleton,List.length_singleton];omega),List.append_assoc,List.append_assoc];rfl
theorem ZAB {l:List Int} {n:Int} (a:(l.length:Int)<=1000000):ZpP l n=some (insL (fun x=>x-n) n l):=ZJm a l 0 [] (Int.le_refl 0) rfl ω (by simp)
theorem Zvq {l:List (List Int)} {y:List Int} (hl:(l.length:Int)<=1000000) (u:∀ x∈l,(x.length:Int)<=1048576):∀ (t:List (List Int)) (i:Int) (r:List (List Int)),0<=i->l.drop i.toNat=t->i<=(l.length:Int)->(r.length:Int)<=i+1->loop (ZaT l y) (r,true,i)=some (r++t):=by
 intro t;induction t with
 | nil=>
  intro i r f c k ho;have hi:i=(l.length:Int):=by have:=congrArg List.length c;simp at this;omega
  rw [List.append_nil];refine Zc ?_;simp (disch:=omega) only [pz,ZaT]
 | cons a t w=>
  intro i r f c k ho;have e:i<(l.length:Int):=by have:=congrArg List.length c;simp at this;omega
  have h:=ZaB (xs:=l) f e;rw [c] at h;obtain ⟨rfl,j⟩:=List.cons.inj h;have o:=ZbM (a:=ix l i) (b:=y) (by have:=u _ (Zl f e);omega);have hB:ZaT l y (r,true,i)=some (.inl (r++[ix l i],true,i+1)):=by
   simp (disch:=omega) only [pz,ZaT,Zdx,Zcw,o]
  rw [Zy hB,w (i+1) _ ω j.symm ω (by rw [List.length_append,List.length_singleton];omega),List.append_assoc];rfl
theorem ZB6 {l:List (List Int)} {y:List Int} (hl:(l.length:Int)<=1000000) (w:∀ x∈l,(x.length:Int)<=1048576):∀ (t:List (List Int)) (i:Int) (u:List (List Int)),0<=i->l.drop i.toNat=t->i<=(l.length:Int)->(u.length:Int)<=i->loop (ZaT l y) (u,false,i)=some (u++insL (fun x=>cmpL x y) y t):=by
 intro t;induction t with
 | nil=>
  intro i u h e r ho;have hi:i=(l.length:Int):=by have:=congrArg List.length e;simp at this;omega
  refine Zc ?_;simp (disch:=omega) only [pz,ZaT,insL]
 | cons a t ih=>
  intro i u h e r ho;have f:i<(l.length:Int):=by have:=congrArg List.length e;simp at this;omega
  have k:=ZaB (xs:=l) h f;rw [e] at k;obtain ⟨rfl,c⟩:=List.cons.inj k;have j:=ZbM (a:=ix l i) (b:=y) (by have:=w _ (Zl h f);omega);rw [insL];by_cases h1:cmpL (ix l i) y<0
  ·rw [if_pos h1];have hB:ZaT l y (u,false,i)=some (.inl (u++[ix l i],false,i+1)):=by
    simp (disch:=omega) only [pz,ZaT,Zdx,Zcw,j]
   rw [Zy hB,ih (i+1) _ ω c.symm ω (by rw [List.length_append,List.length_singleton];omega),List.append_assoc];rfl
  ·rw [if_neg h1];by_cases o:cmpL (ix l i) y=0
   ·rw [if_pos o];have hB:ZaT l y (u,false,i)=some (.inl (u++[ix l i],true,i+1)):=by
     simp (disch:=omega) only [pz,ZaT,Zdx,Zcw,j]
    rw [Zy hB,Zvq hl w t (i+1) _ ω c.symm ω (by rw [List.length_append,List.length_singleton];omega),List.append_assoc];rfl
   ·rw [if_neg o];have hB:ZaT l y (u,false,i)=some (.inl (u++[y]++[ix l i],true,i+1)):=by
     have s:(u++[y]).length=u.length+1:=by simp
     simp (disch:=omega) only [pz,ZaT,Zdx,Zcw,j]
    rw [Zy hB,Zvq hl w t (i+1) _ ω c.symm ω (by rw [List.length_append,List.length_append,List.length_singleton,List.length_singleton];omega),List.append_assoc,List.append_assoc];rfl
theorem Zxl {l:List (List Int)} {y:List Int} (e:(l.length:Int)<=1000000) (a:∀ x∈l,(x.length:Int)<=1048576):Zm9 l y=some (insL (fun x=>cmpL x y) y l):=ZB6 e a l 0 [] (Int.le_refl 0) rfl ω (by simp)
structure SetIn (s:List Int) (n:Int):Prop where
 srt:s.Pairwise (·<·)
 rng:∀ x∈s,0<=x/\x<n
def LtR (a b:List Int):Prop:=cmpL a b<0
theorem LtR.asym (x y:List Int) (h:LtR x y):¬ LtR y x:=fun k=>by
 unfold LtR at h k;have:=ZbR x y;omega
theorem Zvg {f:List Int->List Int->Option Bool} (w:∀ a b,(a.length:Int)<=1000->f a b=some (decide (a=b))):∀ (l:List (List Int)) (p:List Int),(∀ x∈l,(x.length:Int)<=1000)->(p::l).Pairwise (fun a b=>lexC a b<=0) ->
  ∃ q,cpt f p l=some q/\(p::q).Pairwise LtR/\(∀ z,z∈p::q↔z∈p::l)/\q.length<=l.length
 | [],p,_,_=>⟨[],rfl,by simp,by simp,Nat.le_refl _⟩
 | y::l,p,hl,hs=>by
  rw [List.pairwise_cons] at hs;obtain ⟨q,c,q2,i,k⟩:=Zvg w l y (fun x j=>hl x (List.mem_cons_of_mem _ j)) hs.2;have r:=w y p (hl y (List.mem_cons_self ..));have u:=hs.1 y (List.mem_cons_self ..);rw [Zdg] at u;by_cases e:y=p
  ·subst e;refine ⟨q,?_,q2,fun z=>?_,by simp;omega⟩
   ·rw [cpt,r,c];simp
   ·rw [i];simp
  ·refine ⟨y::q,?_,?_,fun z=>?_,by simp;omega⟩
   ·rw [cpt,r,c];simp [e]
   ·have o:LtR p y:=by
     unfold LtR;have:cmpL p y≠0:=fun h=>e ((Zaz _ _).1 h).symm;omega
    rw [List.pairwise_cons];refine ⟨fun z hz=>?_,q2⟩;rcases List.mem_cons.1 hz with rfl|hz
    ·exact o
    ·exact Zbz _ _ _ o ((List.pairwise_cons.1 q2).1 z hz)
   ·rw [List.mem_cons,i];simp
theorem ZDr {f:List Int->List Int->Option Bool} (j:∀ a b,(a.length:Int)<=1000->f a b=some (decide (a=b))) {l:List (List Int)} (k:∀ x∈l,(x.length:Int)<=1000) (hs:l.Pairwise (fun a b=>lexC a b<=0)):
  ∃ q,cptL f l=some q/\q.Pairwise LtR/\(∀ z,z∈q↔z∈l)/\q.length<=l.length:=by
 cases l with
 | nil=>exact ⟨[],rfl,by simp,by simp,Nat.le_refl _⟩
 | cons p l=>
  obtain ⟨q,c,q2,e,i⟩:=Zvg j l p (fun x h=>k x (List.mem_cons_of_mem _ h)) hs;exact ⟨p::q,by rw [cptL,c];rfl,q2,e,by simp;omega⟩
def dis (xs:List Int):List Int:=xs.foldl (fun l y=>insL (fun x=>x-y) y l) []
def cnt (xs:List Int):Nat:=(dis xs).length
theorem ZqQ:∀ (xs l:List Int),l.Pairwise (·<·)->(xs.foldl (fun l y=>insL (fun x=>x-y) y l) l).Pairwise (·<·)/\∀ z,z∈xs.foldl (fun l y=>insL (fun x=>x-y) y l) l↔z∈l\/z∈xs
 | [],l,h=>⟨h,by simp⟩
 | y::xs,l,h=>by
  have h1:=ZiL (R:=(·<· :Int->Int->Prop)) (c:=fun x=>x-y) (y:=y) (fun x h=>by omega) (fun x h=>by omega) (fun x h=>by omega) (fun x y z a b=>Int.lt_trans a b) h;obtain ⟨e,f⟩:=ZqQ xs _ h1;refine ⟨e,fun z=>?_⟩;rw [List.foldl_cons,f,Zh5 (fun x h=>by omega),List.mem_cons];constructor
  ·rintro ((h|h)|h)
   ·exact .inr (.inl h)
   ·exact .inl h
   ·exact .inr (.inr h)
  ·rintro (h|h|h)
   ·exact .inl (.inr h)
   ·exact .inl (.inl h)
   ·exact .inr h
theorem Zkr (xs:List Int):(dis xs).Pairwise (·<·):=(ZqQ xs [] (by simp)).1
theorem Zcs {xs:List Int} {z:Int}:z∈dis xs↔z∈xs:=by rw [dis,(ZqQ xs [] (by simp)).2];simp
theorem ZBe (xs:List Int):(dis xs).Nodup:=(Zkr xs).imp fun h=>by omega
theorem ZwL {xs l:List Int} (hp:l.Pairwise (·<·)) (e:∀ z,z∈l↔z∈xs):l=dis xs:=Zjs (fun x y a b=>by omega) hp (Zkr xs) fun z=>by rw [e,Zcs]
theorem ZvY {xs l:List Int} (h:∀ z∈xs,z∈l):cnt xs<=l.length:=ZcY (ZBe xs) fun z hz=>h z (Zcs.1 hz)
theorem ZdP (xs:List Int):cnt xs<=xs.length:=ZvY fun _ h=>h
theorem ZAS {xs l:List Int} (a:l.Nodup) (h:∀ z∈l,z∈xs):l.length<=cnt xs:=ZcY a fun z hz=>Zcs.2 (h z hz)
theorem Zgp {xs:List Int} {z:Int} (h:z∈xs):(xs.idxOf z:Int)<(xs.length:Int)/\ix xs (xs.idxOf z:Int)=z:=by
 have h1:=List.idxOf_lt_length_of_mem h;refine ⟨by omega,ZN ?_⟩;rw [List.getElem?_eq_getElem h1,List.getElem_idxOf h1]
theorem ZzC {xs k:List Int} (o:xs.length=k.length) (h:∀ i j:Int,0<=i->i<(xs.length:Int)->0<=j->j<(xs.length:Int)->ix k i=ix k j->ix xs i=ix xs j):cnt xs<=cnt k:=by
 have:cnt xs<=((dis k).map fun z=>ix xs (k.idxOf z:Int)).length:=ZvY fun z hz=>by
  obtain ⟨i,a,c,rfl⟩:=ZR hz;have l:ix k i∈k:=Zl a ω;refine List.mem_map.2 ⟨ix k i,Zcs.2 l,?_⟩;obtain ⟨h1,e⟩:=Zgp l;exact h _ _ ω ω a c e
 rwa [List.length_map] at this
def sgl (cells:List Int) (v:Int):List Int:=tabl cells.length fun w=>if w=v then 2*ix cells w else 2*ix cells w+1
theorem ZhP (cells:List Int) (v:Int):(sgl cells v).length=cells.length:=by unfold sgl;rw [Zj];omega
theorem Zqg {cells:List Int} {v w:Int} (a:0<=w) (h1:w<(cells.length:Int)):ix (sgl cells v) w=if w=v then 2*ix cells w else 2*ix cells w+1:=ZG a h1
theorem ZsG {cells:List Int} {u v:Int} (c:0<=u) (e:u<(cells.length:Int)) (v0:0<=v) (v1:v<(cells.length:Int)) (r:u≠v) (h:ix cells u=ix cells v):cnt cells+1<=cnt (sgl cells v):=by
 have o:∀ w:Int,0<=w->w<(cells.length:Int)->ix (sgl cells v) w∈sgl cells v:=fun w a b=>Zl a (by rw [ZhP];exact b);have:=ZAS (xs:=sgl cells v) (l:=(2*ix cells v)::(dis cells).map fun x=>2*x+1) (by
  rw [List.nodup_cons];refine ⟨fun hm=>?_,?_⟩
  ·obtain ⟨x,_,f⟩:=List.mem_map.1 hm;omega
  ·have:=(Zkr cells).map (fun x=>2*x+1) (S:=(·≠· :Int->Int->Prop)) (fun a b a1=>by omega);exact this) (by
  intro z hz;rcases List.mem_cons.1 hz with rfl|hz
  ·have:=o v v0 v1;rwa [Zqg v0 v1,if_pos rfl] at this
  ·obtain ⟨x,f,rfl⟩:=List.mem_map.1 hz;obtain ⟨i,j,k,rfl⟩:=ZR (Zcs.1 f);by_cases hi:i=v
   ·have:=o u c e;rw [Zqg c e,if_neg r,h] at this;rw [hi];exact this
   ·have:=o i j k;rwa [Zqg j k,if_neg hi] at this)
 simpa [cnt] using this
def keyAt (near:List (List Int)) (cells:List Int) (v:Int):List Int:=ix cells v::sortI ((ix near v).map fun w=>ix cells w)
def rkeys (near:List (List Int)) (cells:List Int):List (List Int):=tabl near.length (keyAt near cells)
def kindsOf (keys:List (List Int)):List (List Int):=keys.foldl (fun l y=>insL (fun x=>cmpL x y) y l) []
theorem Zj8:∀ (xs l:List (List Int)),l.Pairwise LtR->(xs.foldl (fun l y=>insL (fun x=>cmpL x y) y l) l).Pairwise LtR/\(∀ z,z∈xs.foldl (fun l y=>insL (fun x=>cmpL x y) y l) l↔z∈l\/z∈xs)/\(xs.foldl (fun l y=>insL (fun x=>cmpL x y) y l) l).length<=l.length+xs.length
 | [],l,h=>⟨h,by simp,by simp⟩
 | y::xs,l,h=>by
  have h1:=ZiL (R:=LtR) (c:=fun x=>cmpL x y) (y:=y) (fun x h=>(Zaz _ _).1 h) (fun x h=>h) (fun x h=>by
   have:=ZbR x y;show cmpL y x<0;omega) (fun x y z a b=>Zbz _ _ _ a b) h
  obtain ⟨e,f,i⟩:=Zj8 xs _ h1;have j:=Zno (fun x=>cmpL x y) y l;refine ⟨e,fun z=>?_,by rw [List.foldl_cons,List.length_cons];omega⟩;rw [List.foldl_cons,f,Zh5 (fun x h=>(Zaz _ _).1 h),List.mem_cons];constructor
  ·rintro ((h|h)|h)
   ·exact .inr (.inl h)
   ·exact .inl h
   ·exact .inr (.inr h)
  ·rintro (h|h|h)
   ·exact .inl (.inr h)
   ·exact .inl (.inl h)
   ·exact .inr h
theorem Znn (keys:List (List Int)):(kindsOf keys).Pairwise LtR:=(Zj8 keys [] (by simp)).1
theorem ZcD {keys:List (List Int)} {z:List Int}:z∈kindsOf keys↔z∈keys:=by rw [kindsOf,(Zj8 keys [] (by simp)).2.1];simp
theorem ZlH (keys:List (List Int)):(kindsOf keys).length<=keys.length:=by have:=(Zj8 keys [] (by simp)).2.2;simpa [kindsOf] using this
theorem ZxI (x y:List Int) (h:LtR x y):¬ LtR y x:=fun k=>by
 have h:cmpL x y<0:=h;have k:cmpL y x<0:=k;have:=ZbR x y;omega
theorem ZEe {keys l:List (List Int)} (hp:l.Pairwise LtR) (a:∀ z,z∈l↔z∈keys):l=kindsOf keys:=Zjs ZxI hp (Znn keys) fun z=>by rw [a,ZcD]
def rnd (near:List (List Int)) (cells:List Int):List Int:=(rkeys near cells).map fun x=>((kindsOf (rkeys near cells)).idxOf x:Int)
theorem Zd0 (near:List (List Int)) (cells:List Int):(rkeys near cells).length=near.length:=by unfold rkeys;rw [Zj];omega
theorem Zde (near:List (List Int)) (cells:List Int):(rnd near cells).length=near.length:=by unfold rnd;rw [List.length_map,Zd0]
theorem Zho {near:List (List Int)} {cells:List Int} {v:Int} (a:0<=v) (h1:v<(near.length:Int)):ix (rkeys near cells) v=keyAt near cells v:=ZG a h1
theorem ZmP {near:List (List Int)} {cells:List Int} {v:Int} (a:0<=v) (h1:v<(near.length:Int)):ix (rnd near cells) v=((kindsOf (rkeys near cells)).idxOf (keyAt near cells v):Int):=by
 unfold rnd;rw [ZfS a (by rw [Zd0];exact h1),Zho a h1]
theorem ZuZ {near:List (List Int)} {cells:List Int} {v:Int} (a:0<=v) (h1:v<(near.length:Int)):keyAt near cells v∈kindsOf (rkeys near cells):=by
 rw [ZcD,<-Zho a h1];exact Zl a (by rw [Zd0];exact h1)
theorem ZJC {near:List (List Int)} {cells:List Int}:∀ x∈rnd near cells,0<=x/\x<(near.length:Int):=by
 intro x a;obtain ⟨y,e,rfl⟩:=List.mem_map.1 a;have h1:=List.idxOf_lt_length_of_mem (ZcD.2 e);have c:=ZlH (rkeys near cells);rw [Zd0] at c;omega
theorem ZFg {near:List (List Int)} {cells:List Int} {u v:Int} (a:0<=u) (c:u<(near.length:Int)) (v0:0<=v) (v1:v<(near.length:Int)) (h:ix (rnd near cells) u=ix (rnd near cells) v):keyAt near cells u=keyAt near cells v:=by
 rw [ZmP a c,ZmP v0 v1] at h;have h1:=List.idxOf_lt_length_of_mem (ZuZ (cells:=cells) a c);have e:=List.idxOf_lt_length_of_mem (ZuZ (cells:=cells) v0 v1);rw [<-List.getElem_idxOf h1,<-List.getElem_idxOf e];congr 1;omega
theorem Zgi {near:List (List Int)} {cells:List Int} (k:cells.length=near.length):cnt cells<=cnt (rnd near cells):=by
 refine ZzC (by rw [Zde,k]) fun i j a e c f h=>?_;have:=ZFg a ω c ω h;unfold keyAt at this;exact (List.cons.inj this).1
def refM (near:List (List Int)):Nat->List Int->List Int
 | 0,cells=>cells
 | f+1,cells=>if cnt (rnd near cells)=cnt cells then rnd near cells else refM near f (rnd near cells)
def refN (near:List (List Int)) (cells:List Int):List Int:=refM near (near.length+1) cells
theorem Ztp (near:List (List Int)):∀ (f:Nat) (cells:List Int),cells.length=near.length->near.length<f+cnt cells->(refM near f cells).length=near.length/\cnt cells<=cnt (refM near f cells)/\∀ x∈refM near f cells,0<=x/\x<(near.length:Int)
 | 0,cells,hl,hf=>by have:=ZdP cells;omega
 | f+1,cells,hl,hf=>by
  have h1:=Zgi hl;have a:=Zde near cells;rw [refM];by_cases h:cnt (rnd near cells)=cnt cells
  ·rw [if_pos h];exact ⟨a,h1,ZJC⟩
  ·rw [if_neg h];obtain ⟨c,i,e⟩:=Ztp near f (rnd near cells) a ω;exact ⟨c,by omega,e⟩
theorem Zn0 {near:List (List Int)} {cells:List Int} (a:cells.length=near.length):(refN near cells).length=near.length/\cnt cells<=cnt (refN near cells)/\∀ x∈refN near cells,0<=x/\x<(near.length:Int):=Ztp near _ cells a ω
def eC (a b:Zb):Int:=if cmpI a.A b.A=0 then cmpI a.B b.B else cmpI a.A b.A
theorem ZfE {x y:Int}:cmpI x y=0↔x=y:=by
 unfold cmpI;split
 ·omega
 ·split<;>omega
theorem ZuW {x y:Int}:cmpI x y<0↔x<y:=by
 unfold cmpI;split
 ·omega
 ·split<;>omega
theorem ZuA {x y:Int}:0<cmpI x y↔y<x:=by
 unfold cmpI;split
 ·omega
 ·split<;>omega
theorem eC_lt {a b:Zb}:eC a b<0↔eLess a b:=by
 unfold eC eLess;by_cases h:cmpI a.A b.A=0
 ·rw [if_pos h,ZuW];rw [ZfE] at h;omega
 ·rw [if_neg h,ZuW];rw [ZfE] at h;omega
theorem eC_gt {a b:Zb}:0<eC a b↔eLess b a:=by
 unfold eC eLess;by_cases h:cmpI a.A b.A=0
 ·rw [if_pos h,ZuA];rw [ZfE] at h;omega
 ·rw [if_neg h,ZuA];rw [ZfE] at h;omega
theorem Zro {a b:Zb}:eC a b=0↔a=b:=by
 cases a;cases b;unfold eC;simp only [Zb.mk.injEq];split
 ·rename_i h;rw [ZfE] at h ⊢;simp [h]
 ·rename_i h;rw [ZfE] at h ⊢;simp [h]
theorem ZGn (x y:Zb) (h:eLess x y):¬ eLess y x:=fun k=>by unfold eLess at *;omega
theorem Zjd (x y z:Zb) (h:eLess x y) (k:eLess y z):eLess x z:=by unfold eLess at *;omega
def srtE (l:List Zb):List Zb:=l.foldl (fun l y=>insL (fun x=>eC x y) y l) []
theorem Zmn:∀ (xs l:List Zb),l.Pairwise eLess->(xs.foldl (fun l y=>insL (fun x=>eC x y) y l) l).Pairwise eLess/\(∀ z,z∈xs.foldl (fun l y=>insL (fun x=>eC x y) y l) l↔z∈l\/z∈xs)/\(xs.foldl (fun l y=>insL (fun x=>eC x y) y l) l).length<=l.length+xs.length
 | [],l,h=>⟨h,by simp,by simp⟩
 | y::xs,l,h=>by
  have h1:=ZiL (R:=eLess) (c:=fun x=>eC x y) (y:=y) (fun x h=>Zro.1 h) (fun x h=>eC_lt.1 h) (fun x h=>eC_gt.1 h) Zjd h;obtain ⟨a,e,f⟩:=Zmn xs _ h1;have j:=Zno (fun x=>eC x y) y l;refine ⟨a,fun z=>?_,by rw [List.foldl_cons,List.length_cons];omega⟩;rw [List.foldl_cons,e,Zh5 (fun x h=>Zro.1 h),List.mem_cons];constructor
  ·rintro ((h|h)|h)
   ·exact .inr (.inl h)
   ·exact .inl h
   ·exact .inr (.inr h)
  ·rintro (h|h|h)
   ·exact .inl (.inr h)
   ·exact .inl (.inl h)
   ·exact .inr h
theorem ZtW (l:List Zb):(srtE l).Pairwise eLess:=(Zmn l [] (by simp)).1
theorem ZuE {l:List Zb} {z:Zb}:z∈srtE l↔z∈l:=by rw [srtE,(Zmn l [] (by simp)).2.1];simp
theorem ZCK (l:List Zb):(srtE l).length<=l.length:=by have:=(Zmn l [] (by simp)).2.2;simpa [srtE] using this
theorem Zj4 {l q:List Zb} (hp:q.Pairwise eLess) (a:∀ z,z∈q↔z∈l):q=srtE l:=Zjs ZGn hp (ZtW l) fun z=>by rw [a,ZuE]
def mapE (p:List Int) (e:Zb):Zb:=⟨min (ix p e.A) (ix p e.B),max (ix p e.A) (ix p e.B)⟩
def colM (g:Za) (p:List Int):List Int:=tabl p.length fun i=>ix g.Colors (p.idxOf i:Int)
def relab (g:Za) (p:List Int):Za:=⟨colM g p,srtE (g.Edges.map (mapE p))⟩
theorem Zp4 {p:List Int} {n:Int} (hp:Vc.Perm p n) {i:Int} (a:0<=i) (h1:i<n):i∈p:=by
 have e:=hp.len;have hs:=Zlc hp.nd (l':=idP n) (fun x c=>ZQ.2 (hp.rng x c)) (by rw [Zai];omega);exact hs.mem_iff.2 (ZQ.2 ⟨a,h1⟩)
theorem ZmU {p:List Int} (hp:p.Nodup) {i j:Int} (e:0<=i) (h1:i<(p.length:Int)) (k0:0<=j) (k1:j<(p.length:Int)) (h:ix p i=ix p j):i=j:=by
 have a:=Zaa e h1;have c:=Zaa k0 k1;have l1:i.toNat<p.length:=ω;have l2:j.toNat<p.length:=ω;rw [List.getElem?_eq_getElem l1] at a;rw [List.getElem?_eq_getElem l2] at c;have:p[i.toNat]=p[j.toNat]:=by rw [Option.some.inj a,Option.some.inj c,h]
 have:=(List.getElem_inj hp).1 this;omega
theorem ZBD {p:List Int} (hp:p.Nodup) {i:Int} (c:0<=i) (h1:i<(p.length:Int)):(p.idxOf (ix p i):Int)=i:=by
 obtain ⟨a,b⟩:=Zgp (Zl c h1);exact ZmU hp ω a c h1 b
theorem Zbx {g:Za} (hg:ValidG g) {e:Zb} (a:e∈g.Edges):0<=e.A/\e.A<e.B/\e.B<(g.Colors.length:Int):=by
 obtain ⟨k,k0,k1,rfl⟩:=ZR a;exact (hg.edg k k0 k1).1
theorem ZJe {g:Za} (hg:ValidG g):g.Edges.Pairwise eLess:=by
 have h:∀ (d:Nat) (i j:Int),(j-i).toNat=d+1->0<=i->i<j->j<(g.Edges.length:Int)->eLess (ix g.Edges i) (ix g.Edges j):=by
  intro d;induction d with
  | zero=>
   intro i j e c h1 a;obtain rfl:i=j-1:=ω;exact (hg.edg j ω a).2 ω
  | succ d k=>
   intro i j e c h1 a;exact Zjd _ _ _ (k i (j-1) ω c ω ω) ((hg.edg j ω a).2 ω)
 rw [List.pairwise_iff_getElem];intro i j hi l o;have:=h (j-i-1) (i:Int) (j:Int) ω ω ω ω;rwa [ZN (List.getElem?_eq_getElem hi),ZN (List.getElem?_eq_getElem l)] at this
theorem ZAs {g:Za} (cl:(g.Colors.length:Int)<=64) (col:∀ x∈g.Colors,0<=x/\x<=63) (el:(g.Edges.length:Int)<=512) (pw:g.Edges.Pairwise eLess) (edg:∀ e∈g.Edges,0<=e.A/\e.A<e.B/\e.B<(g.Colors.length:Int)):ValidG g:=by
 refine ⟨cl,fun k a b=>col _ (Zl a b),el,fun k a b=>⟨edg _ (Zl a b),fun h=>?_⟩⟩;have:=List.pairwise_iff_getElem.1 pw (k-1).toNat k.toNat ω ω ω;have c:=Zaa (xs:=g.Edges) (i:=k-1) ω ω;have f:=Zaa (xs:=g.Edges) (i:=k) ω ω;rw [List.getElem?_eq_getElem ω] at c f;rwa [Option.some.inj c,Option.some.inj f] at this
theorem Zsl (g:Za) (p:List Int):(colM g p).length=p.length:=by unfold colM;rw [Zj];omega
theorem ZmR {g:Za} (hg:ValidG g) {p:List Int} (hp:Vc.Perm p g.Colors.length):ValidG (relab g p):=by
 have hl:=hp.len;have w:(colM g p).length=p.length:=Zsl g p;refine ZAs (by show ((colM g p).length:Int)<=64;have:=hg.cl;omega) (fun x f=>?_) ?_ (ZtW _) fun e o=>?_
 ·obtain ⟨i,a,c,rfl⟩:=ZR f;have c:i<(colM g p).length:=c;have hi:ix (colM g p) i=ix g.Colors (p.idxOf i:Int):=ZG a ω;show 0<=ix (colM g p) i/\ix (colM g p) i<=63;rw [hi];have r:=Zp4 hp a ω;have:=(Zgp r).1;exact hg.col _ ω ω
 ·have:=ZCK (g.Edges.map (mapE p));rw [List.length_map] at this;show ((srtE (g.Edges.map (mapE p))).length:Int)<=512;have:=hg.el;omega
 ·have o:e∈srtE (g.Edges.map (mapE p)):=o;rw [ZuE] at o;obtain ⟨d,j,rfl⟩:=List.mem_map.1 o;have k:=Zbx hg j;have l:=hp.rng _ (Zl (xs:=p) (i:=d.A) ω ω);have r2:=hp.rng _ (Zl (xs:=p) (i:=d.B) ω ω);have u:ix p d.A≠ix p d.B:=fun h=>by have:=ZmU hp.nd ω ω ω ω h;omega
  show 0<=min _ _/\min _ _<max _ _/\max _ _<((colM g p).length:Int);omega
def adj (es:List Zb) (a b:Int):Bool:=es.any fun e=>(e.A==a&&e.B==b)||(e.A==b&&e.B==a)
theorem Zs3 {es:List Zb} {a b:Int}:adj es a b=true↔∃ e∈es,(e.A=a/\e.B=b)\/(e.A=b/\e.B=a):=by
 unfold adj;simp only [List.any_eq_true,Bool.or_eq_true,Bool.and_eq_true,beq_iff_eq]
def nearM (g:Za):List (List Int):=tabl g.Colors.length fun a=>(idP g.Colors.length).filter fun b=>adj g.Edges a b
theorem Zm0 (g:Za):(nearM g).length=g.Colors.length:=by unfold nearM;rw [Zj];omega
theorem ZrU {g:Za} {a:Int} (c:0<=a) (h1:a<(g.Colors.length:Int)):ix (nearM g) a=(idP g.Colors.length).filter fun b=>adj g.Edges a b:=ZG c h1
theorem Zyz {g:Za} {a x:Int} (c:0<=a) (h1:a<(g.Colors.length:Int)):x∈ix (nearM g) a↔(0<=x/\x<(g.Colors.length:Int))/\adj g.Edges a x=true:=by
 rw [ZrU c h1,List.mem_filter,ZQ]
theorem Zx9 {g:Za} {a:Int} (c:0<=a) (h1:a<(g.Colors.length:Int)):(ix (nearM g) a).length<=g.Colors.length:=by
 rw [ZrU c h1];have:=List.length_filter_le (fun b=>adj g.Edges a b) (idP g.Colors.length);rw [Zai] at this;omega
def flatE (l:List Zb):List Int:=l.flatMap fun e=>[e.A,e.B]
def cmpG (g h:Za):Int:=if cmpL g.Colors h.Colors=0 then cmpL (flatE g.Edges) (flatE h.Edges) else cmpL g.Colors h.Colors
def tgt (cells:List Int):Int:=((dis cells).find? fun t=>decide (2<=cells.count t)).getD (-1)
def vts (cells:List Int) (t:Int):List Int:=(idP cells.length).filter fun v=>ix cells v==t
structure CSt where
 best:Za
 perms:List (List Int)
 nodes:Int
 leaves:Int
 full:Bool
def leafM (g:Za) (p:List Int) (s:CSt):CSt:=
 let c:=if s.perms=[] then -1 else cmpG (relab g p) s.best
 ⟨if c<0 then relab g p else s.best,if c<0 then [p] else if c=0 then s.perms++[p] else s.perms,s.nodes,s.leaves+1,s.full⟩
def srch (g:Za) (near:List (List Int)) (B:Int):Nat->List Int->CSt->CSt
 | 0,_,s=>s
 | d+1,cells,s=>if tgt cells<0 then leafM g cells s else (vts cells (tgt cells)).foldl (fun s v=>if s.full=true then s else if s.nodes=B then { s with full:=true } else srch g near B d (refN near (sgl cells v)) { s with nodes:=s.nodes+1 }) s
def stepM (g:Za) (near:List (List Int)) (B:Int) (d:Nat) (cells:List Int) (s:CSt) (v:Int):CSt:=if s.full=true then s else if s.nodes=B then { s with full:=true } else srch g near B d (refN near (sgl cells v)) { s with nodes:=s.nodes+1 }
theorem ZjG {g:Za} {near:List (List Int)} {B:Int} {d:Nat} {cells:List Int} {s:CSt}:srch g near B (d+1) cells s=if tgt cells<0 then leafM g cells s else (vts cells (tgt cells)).foldl (stepM g near B d cells) s:=rfl
theorem Zk3 {cells:List Int} {t v:Int}:v∈vts cells t↔(0<=v/\v<(cells.length:Int))/\ix cells v=t:=by
 unfold vts;rw [List.mem_filter,ZQ,beq_iff_eq]
theorem Zmg {cells:List Int} {t:Int}:2<=cells.count t↔∃ i j:Int,0<=i/\i<j/\j<(cells.length:Int)/\ix cells i=t/\ix cells j=t:=by
 rw [<-List.replicate_sublist_iff];constructor
 ·intro h;obtain ⟨is,h1,f⟩:=List.sublist_eq_map_getElem h;have x:is.length=2:=by have:=congrArg List.length h1;simp at this;exact this.symm
  obtain ⟨a,b,rfl⟩:∃ a b,is=[a,b]:=by
   match is,x with
   | [a,b],_=>exact ⟨a,b,rfl⟩
  simp only [List.map_cons,List.map_nil,List.replicate,List.cons.injEq,and_true] at h1;have u:a<b:=by simpa using f
  refine ⟨(a.val:Int),(b.val:Int),by omega,by have:a.val<b.val:=u;omega,by have:=b.isLt;omega,?_,?_⟩
  ·rw [ZN (List.getElem?_eq_getElem a.isLt)];exact h1.1.symm
  ·rw [ZN (List.getElem?_eq_getElem b.isLt)];exact h1.2.symm
 ·rintro ⟨i,j,k,a0,o,hi,w⟩;have c:=Zaa (xs:=cells) (i:=i) k ω;have e:=Zaa (xs:=cells) (i:=j) ω o;have:=List.map_getElem_sublist (l:=cells) (is:=[⟨i.toNat,by omega⟩,⟨j.toNat,by omega⟩]) (by simp;omega);rw [List.getElem?_eq_getElem ω] at c e;simp only [List.map_cons,List.map_nil] at this;have r:cells[i.toNat]=t:=by rw [Option.some.inj c,hi]
  have s:cells[j.toNat]=t:=by rw [Option.some.inj e,w]
  simpa [List.replicate,r,s] using this
theorem Zcy {cells:List Int} (c:∀ x∈cells,0<=x):(tgt cells=-1/\cells.Nodup)\/(0<=tgt cells/\2<=cells.count (tgt cells)/\∀ t,2<=cells.count t->tgt cells<=t):=by
 unfold tgt;cases hf:(dis cells).find? fun t=>decide (2<=cells.count t) with
 | none=>
  left;refine ⟨rfl,List.nodup_iff_count.2 fun a=>?_⟩;rw [List.find?_eq_none] at hf;rcases Nat.lt_or_ge (cells.count a) 2 with h|h
  ·omega
  ·have j:a∈cells:=List.count_pos_iff.1 ω;have:=hf a (Zcs.2 j);simp at this;omega
 | some t=>
  right;have h1:=List.find?_some hf;have f:=List.mem_of_find?_eq_some hf;have h1:2<=cells.count t:=by simpa using h1
  refine ⟨c t (Zcs.1 f),h1,fun u l=>?_⟩;have j:u∈dis cells:=Zcs.2 (List.count_pos_iff.1 ω);obtain ⟨_,as,bs,e,k⟩:=List.find?_eq_some_iff_append.1 hf;have hp:=Zkr cells;rw [e] at j hp;show t<=u;rcases List.mem_append.1 j with h|h
  ·have:=k u h;simp at this;omega
  ·rcases List.mem_cons.1 h with h|h
   ·omega
   ·have:=(List.pairwise_cons.1 (List.pairwise_append.1 hp).2.1).1 u h;omega
structure Cel (n:Nat) (cells:List Int):Prop where
 len:cells.length=n
 rng:∀ x∈cells,0<=x/\x<(n:Int)
theorem Cel.ref {near:List (List Int)} {cells:List Int} (a:cells.length=near.length):Cel near.length (refN near cells):=⟨(Zn0 a).1,(Zn0 a).2.2⟩
theorem Cel.perm {n:Nat} {cells:List Int} (h:Cel n cells) (a:cells.Nodup):Vc.Perm cells n:=⟨by rw [h.len],h.rng,a⟩
theorem Cel.more {near:List (List Int)} {cells:List Int} (h:Cel near.length cells) (ht:¬ tgt cells<0) {v:Int} (c:v∈vts cells (tgt cells)):cnt cells+1<=cnt (refN near (sgl cells v)):=by
 obtain ⟨⟨v0,v1⟩,a⟩:=Zk3.1 c;rcases Zcy (cells:=cells) (fun x e=>(h.rng x e).1) with ⟨h1,_⟩|⟨h1,f,_⟩
 ·omega
 obtain ⟨i,j,k,w,l,hi,r⟩:=Zmg.1 f;have hg:=(Zn0 (near:=near) (cells:=sgl cells v) (by rw [ZhP,h.len])).2.1;by_cases o:i=v
 ·have:=ZsG (u:=j) (v:=v) ω l v0 v1 ω (by rw [r,a]);omega
 ·have:=ZsG (u:=i) (v:=v) k ω v0 v1 o (by rw [hi,a]);omega
theorem ZvC {cells:List Int} (a:∀ x∈cells,0<=x) (k:¬ tgt cells<0):vts cells (tgt cells)≠[]:=by
 rcases Zcy a with ⟨h1,_⟩|⟨h1,c,_⟩
 ·omega
 obtain ⟨i,j,e,h,f,hi,l⟩:=Zmg.1 c;exact List.ne_nil_of_mem (Zk3.2 ⟨⟨e,by omega⟩,hi⟩)
structure CInv (B K:Int) (s:CSt):Prop where
 le:s.leaves<=s.nodes+K
 pl:(s.perms.length:Int)<=s.leaves
 n0:0<=s.nodes
 nB:s.nodes<=B
theorem Znb (g:Za) (near:List (List Int)) (B:Int):∀ (d:Nat) (cells:List Int) (s:CSt) (K:Int),CInv B K s->CInv B (K+1) (srch g near B d cells s)
 | 0,cells,s,K,h=>⟨by have:=h.le;show s.leaves<=s.nodes+(K+1);omega,h.pl,h.n0,h.nB⟩
 | d+1,cells,s,K,h=>by
  rw [ZjG];by_cases j:tgt cells<0
  ·rw [if_pos j];have h1:=h.le;have e:=h.pl;refine ⟨by show s.leaves+1<=s.nodes+(K+1);omega,?_,h.n0,h.nB⟩;unfold leafM;dsimp only;generalize (if s.perms=[] then (-1:Int) else cmpG (relab g cells) s.best)=c;by_cases c1:c<0
   ·rw [if_pos c1,List.length_singleton];omega
   ·rw [if_neg c1];by_cases c2:c=0
    ·rw [if_pos c2,List.length_append,List.length_singleton];omega
    ·rw [if_neg c2];omega
  ·rw [if_neg j];have l:∀ (vs:List Int) (s:CSt),CInv B K s->CInv B K (vs.foldl (stepM g near B d cells) s):=by
    intro vs;induction vs with
    | nil=>intro s h;exact h
    | cons v vs o=>
     intro s h;rw [List.foldl_cons];refine o _ ?_;unfold stepM;by_cases k:s.full=true
     ·rw [if_pos k];exact h
     ·rw [if_neg k];by_cases a:s.nodes=B
      ·rw [if_pos a];exact ⟨h.le,h.pl,h.n0,h.nB⟩
      ·rw [if_neg a];have h1:=h.le;have f:=h.n0;have i:=h.nB;have:=Znb g near B d (refN near (sgl cells v)) { s with nodes:=s.nodes+1 } (K-1) ⟨by show s.leaves<=s.nodes+1+(K-1);omega,h.pl,by show 0<=s.nodes+1;omega,by show s.nodes+1<=B;omega⟩;rwa [show K-1+1=K by omega] at this
   have:=l (vts cells (tgt cells)) s h;exact ⟨by have:=this.le;omega,this.pl,this.n0,this.nB⟩
def Bst (g:Za) (s:CSt):Prop:=s.perms≠[]->∃ p,Vc.Perm p g.Colors.length/\s.best=relab g p
theorem Zlf {g:Za} {near:List (List Int)} (j:near.length=g.Colors.length) (B:Int):∀ (d:Nat) (cells:List Int) (s:CSt),Cel near.length cells->near.length<d+cnt cells->Bst g s->Bst g (srch g near B d cells s)/\((srch g near B d cells s).full=false->(srch g near B d cells s).perms≠[])
 | 0,cells,s,a,o,h=>by have:=ZdP cells;have:=a.len;omega
 | d+1,cells,s,a,o,h=>by
  rw [ZjG];rcases Zcy (cells:=cells) (fun x i=>(a.rng x i).1) with ⟨h1,k⟩|⟨h1,k,_⟩
  ·rw [if_pos ω];have hp:Vc.Perm cells g.Colors.length:=by rw [<-j];exact a.perm k
   unfold leafM Bst;dsimp only;generalize a4:(if s.perms=[] then -1 else cmpG (relab g cells) s.best)=c;by_cases f:c<0
   ·rw [if_pos f,if_pos f];exact ⟨fun _=>⟨cells,hp,rfl⟩,fun _=>by simp⟩
   ·have a0:s.perms≠[]:=fun e=>by rw [if_pos e] at a4;omega
    rw [if_neg f,if_neg f];refine ⟨fun _=>h a0,fun _=>?_⟩;split
    ·simp
    ·exact a0
  ·rw [if_neg ω];have a3:∀ (vs:List Int) (s:CSt),(∀ v∈vs,v∈vts cells (tgt cells))->Bst g s->(vs=[]->s.full=false->s.perms≠[])->Bst g (vs.foldl (stepM g near B d cells) s)/\((vs.foldl (stepM g near B d cells) s).full=false->(vs.foldl (stepM g near B d cells) s).perms≠[]):=by
    intro vs;induction vs with
    | nil=>intro s _ h h';exact ⟨h,h' rfl⟩
    | cons v vs ih=>
     intro s hm h _;rw [List.foldl_cons];have w:Bst g (stepM g near B d cells s v)/\((stepM g near B d cells s v).full=false->(stepM g near B d cells s v).perms≠[]):=by
      unfold stepM;by_cases hf:s.full=true
      ·rw [if_pos hf];exact ⟨h,fun e=>by rw [hf] at e;cases e⟩
      ·rw [if_neg hf];by_cases l:s.nodes=B
       ·rw [if_pos l];exact ⟨h,fun e=>by cases e⟩
       ·rw [if_neg l];have a5:=a.more (near:=near) ω (hm v (List.mem_cons_self ..));exact Zlf j B d _ _ (Cel.ref (by rw [ZhP,a.len])) ω h
     exact ih _ (fun u hu=>hm u (List.mem_cons_of_mem _ hu)) w.1 fun _=>w.2
   exact a3 _ s (fun v r=>r) h fun e=>absurd e (ZvC (fun x i=>(a.rng x i).1) ω)
theorem ZJB (i x:Int) (hi:0<=i/\i<=1000000):∀ (m:Nat) (A C:List Int),A.length=m->(A.length:Int)+C.length<=1000000->(A++C).Pairwise (·<=·)->(∀ c∈C,x<c) ->
  ∃ ys,loop (Zew i) ((A.length:Int),A++x::C)=some (.inl (ys,i+1))/\ys.Pairwise (·<=·)/\ys.Perm (A++x::C):=by
 intro m;induction m with
 | zero=>
  intro A C hA hl hs hC;obtain rfl:=List.length_eq_zero_iff.1 hA;refine ⟨x::C,Zc (by simp (disch:=omega) only [pz,Zew,List.nil_append]),?_,List.Perm.refl _⟩;rw [List.pairwise_cons];exact ⟨fun c e=>by have:=hC c e;omega,hs⟩
 | succ m ih=>
  intro A C hA hl hs hC;obtain ⟨w,a,rfl⟩:∃ w a,A=w++[a]:=by
   rcases List.eq_nil_or_concat A with h|⟨w,a,h⟩
   ·rw [h] at hA;simp at hA
   ·exact ⟨w,a,by rw [h,List.concat_eq_append]⟩
  have a5:w.length=m:=by simpa using hA
  rw [List.length_append,List.length_singleton] at hl;have hL:((w++[a]).length:Int)=(w.length:Int)+1:=by rw [List.length_append];simp
  have f:ix ((w++[a])++x::C) ((w.length:Int)+1)=x:=ixMid (by rw [hL]);have j:(w++[a])++x::C=w++a::x::C:=by simp
  have k:ix ((w++[a])++x::C) (w.length:Int)=a:=by rw [j];exact ixMid rfl
  have a8:(((w++[a])++x::C).length:Int)=(w.length:Int)+2+C.length:=by simp;omega
  have w1:(w.length:Int)+1-1=(w.length:Int):=ω;rw [hL];by_cases a6:x<a
  ·have s1:((w++[a])++x::C).set ((w.length:Int)+1).toNat a=w++a::(a::C):=by
    rw [setMid (by rw [hL])];simp
   have s2:(w++a::(a::C)).set (w.length:Int).toNat x=w++x::(a::C):=by
    rw [setMid rfl];simp
   have o:(w++a::(a::C)).set w.length x=w++x::(a::C):=by rw [<-s2,Int.toNat_natCast]
   have u:((w++a::(a::C)).length:Int)=(w.length:Int)+2+C.length:=by simp;omega
   have hB:Zew i ((w.length:Int)+1,(w++[a])++x::C)=some (.inl ((w.length:Int),w++x::(a::C))):=by
    simp (disch:=omega) only [pz,Zew,Zow,f,k,w1,s1,o]
   rw [Zy hB];have l:(w++(a::C)).Pairwise (·<=·):=by simpa using hs
   obtain ⟨ys,h1,r,s⟩:=ih w (a::C) a5 (by simp;omega) l (fun c e=>by
    rcases List.mem_cons.1 e with rfl|e
    ·exact a6
    ·exact hC c e)
   refine ⟨ys,h1,r,s.trans ?_⟩;rw [j];exact (List.Perm.swap a x C).append_left w
  ·refine ⟨(w++[a])++x::C,Zc (by simp (disch:=omega) only [pz,Zew,f,k,w1]),?_,List.Perm.refl _⟩;rw [List.pairwise_append] at hs ⊢;refine ⟨hs.1,?_,fun y hy z hz=>?_⟩
   ·rw [List.pairwise_cons];exact ⟨fun c e=>by have:=hC c e;omega,hs.2.1⟩
   ·rcases List.mem_cons.1 hz with rfl|hz
    ·rw [List.pairwise_append] at hs;have h1:=hs.1;rcases List.mem_append.1 hy with hy|hy
     ·have:=h1.2.2 y hy a (by simp);omega
     ·simp at hy;omega
    ·exact hs.2.2 y hy z hz
theorem ZF9 {xs:List Int} (hl:(xs.length:Int)<=1000000):Zkc xs=some (sortI xs):=by
 unfold Zkc;obtain ⟨⟨u,j⟩,⟨h1,c,a⟩,o⟩:=ZeC (B:=Zm6 xs) (fun i q=>q.2=i/\q.1.Pairwise (·<=·)/\q.1.Perm (xs.take i.toNat)) (i:=0) (n:=xs.length) ω (s:=(([]:List Int),(0:Int))) ⟨rfl,by simp,by simp⟩ fun i q h r ⟨k,l,f⟩=>by
  obtain ⟨u,j⟩:=q;dsimp only at k l f;subst k;have w:(u.length:Int)=j:=by
   have:=f.length_eq;rw [List.length_take] at this;omega
  obtain ⟨x,h1,c,a⟩:=ZJB j (ix xs j) ⟨h,by omega⟩ _ u [] rfl (by simp;omega) (by simpa using l) (by simp);refine ⟨(x,j+1),by simp (disch:=omega) only [pz,Zm6,h1],rfl,c,?_⟩;dsimp only;rw [Zap h r];exact a.trans (f.append_right _)
 dsimp only at h1 c a;rw [o];refine Zc ?_;subst h1;rw [Int.toNat_natCast,List.take_length] at a;have e:u=sortI xs:=Zky (a.trans (ZbK xs).symm) c (Zmi xs);simp (disch:=omega) only [pz,Zm6,e]
theorem ZJ1 {xs:List Int} {i:Int} (a:0<=i) (h1:i<(xs.length:Int)):dis (xs.take (i+1).toNat)=insL (fun x=>x-ix xs i) (ix xs i) (dis (xs.take i.toNat)):=by
 unfold dis;rw [Zap a h1,List.foldl_append];rfl
theorem ZoM {xs:List Int} (h:(xs.length:Int)<=1000000):ZfC xs=some (cnt xs:Int):=by
 unfold ZfC;have e:=Zh (B:=Zl3 xs) (fun k=>(dis (xs.take k.toNat),k)) (i:=0) (n:=xs.length) ω fun k k0 k1=>by
  have a:=ZdP (xs.take k.toNat);rw [List.length_take] at a;have a:(dis (xs.take k.toNat)).length<=_:=a;have hp:=ZAB (l:=dis (xs.take k.toNat)) (n:=ix xs k) ω;rw [<-ZJ1 k0 k1] at hp;simp (disch:=omega) only [pz,Zl3,hp]
 have c:(([]:List Int),(0:Int))=(fun k:Int=>(dis (xs.take k.toNat),k)) 0:=rfl;rw [c,e];refine Zc ?_;simp (disch:=omega) only [pz,Zl3];rfl
theorem cptG {o:Type} {eqb:o->o->Bool} {Le R:o->o->Prop} (u:∀ a b,eqb a b=true↔a=b) (h1:∀ a b,Le a b->a≠b->R a b) (x:∀ a b c,R a b->R b c->R a c):∀ (l:List o) (p:o),(p::l).Pairwise Le ->
  ∃ q,cpt (fun a b=>some (eqb a b)) p l=some q/\(p::q).Pairwise R/\(∀ z,z∈p::q↔z∈p::l)/\q.length<=l.length
 | [],p,_=>⟨[],rfl,by simp,by simp,Nat.le_refl _⟩
 | y::l,p,hs=>by
  rw [List.pairwise_cons] at hs;obtain ⟨q,i,q2,j,k⟩:=cptG u h1 x l y hs.2;have w:=hs.1 y (List.mem_cons_self ..);by_cases e:y=p
  ·subst e;have f:=(u y y).2 rfl;refine ⟨q,?_,q2,fun z=>?_,by simp;omega⟩
   ·rw [cpt,i,f];simp
   ·rw [j];simp
  ·have f:eqb y p=false:=by
    cases h:eqb y p with
    | true=>exact absurd ((u y p).1 h) e
    | false=>rfl
   refine ⟨y::q,?_,?_,fun z=>?_,by simp;omega⟩
   ·rw [cpt,i,f];simp
   ·have r:R p y:=h1 p y w fun h=>e h.symm;rw [List.pairwise_cons];refine ⟨fun z hz=>?_,q2⟩;rcases List.mem_cons.1 hz with rfl|hz
    ·exact r
    ·exact x _ _ _ r ((List.pairwise_cons.1 q2).1 z hz)
   ·rw [List.mem_cons,j];simp
theorem cptGL {j:Type} {eqb:j->j->Bool} {Le R:j->j->Prop} (k:∀ a b,eqb a b=true↔a=b) (h1:∀ a b,Le a b->a≠b->R a b) (o:∀ a b c,R a b->R b c->R a c) {l:List j} (hs:l.Pairwise Le):
  ∃ q,cptL (fun a b=>some (eqb a b)) l=some q/\q.Pairwise R/\∀ z,z∈q↔z∈l:=by
 cases l with
 | nil=>exact ⟨[],rfl,by simp,by simp⟩
 | cons p l=>
  obtain ⟨q,e,q2,f,h⟩:=cptG k h1 o l p hs;exact ⟨p::q,by rw [cptL,e];rfl,q2,f⟩
theorem Zm2 {xs:List Int} (l:(xs.length:Int)<=1000000):ZfX xs=some (cnt xs:Int):=by
 unfold ZfX Zjz;have j:(sortI xs).length=xs.length:=(ZbK xs).length_eq;obtain ⟨q,f,q2,i⟩:=cptGL (eqb:=fun a b:Int=>a==b) (Le:=(·<=·)) (R:=(·<·)) (fun a b=>by simp) (fun a b h k=>by omega) (fun a b c h k=>by omega) (Zmi xs);have e:q=dis xs:=ZwL q2 fun z=>by rw [i];exact (ZbK xs).mem_iff
 rw [Zja ω,Option.bind_some,Zka ω,Option.bind_some,if_pos ω,f,e];rfl
theorem Zpa (cells:List Int) (t:Int):(vts cells t).length=cells.count t:=by
 have c:cells=(idP (cells.length:Int)).map fun j=>ix cells j:=by
  refine ZaC (by rw [List.length_map,Zai];omega) fun i a e=>?_;rw [ZfS a (by rw [Zai];omega),ZcL a ω]
 have:((idP (cells.length:Int)).map fun j=>ix cells j).count t=(vts cells t).length:=by
  rw [List.count,List.countP_map,List.countP_eq_length_filter];rfl
 rw [<-this,<-c]
def PrU (u v i j:Int):Prop:=0<=i/\i<j/\(j<u\/(j=u/\i<v))
def TgI (cells:List Int) (u v a:Int):Prop:=(a=-1/\∀ i j,PrU u v i j->ix cells i≠ix cells j)\/(0<=a/\(∃ i j,PrU u v i j/\ix cells i=a/\ix cells j=a)/\∀ i j,PrU u v i j->ix cells i=ix cells j->a<=ix cells j)
theorem Zz5 {cells:List Int} {u v a0:Int} (l:0<=v/\v<u) (hu:0<=ix cells u) (h:TgI cells u v a0):TgI cells u (v+1) (if ix cells u=ix cells v/\(a0<0\/ix cells u<a0) then ix cells u else a0):=by
 have hp:∀ i j,PrU u (v+1) i j->PrU u v i j\/(i=v/\j=u):=fun i j ⟨a,b,c⟩=>by
  by_cases h:j=u/\i=v
  ·exact .inr ⟨h.2,h.1⟩
  ·exact .inl ⟨a,b,by omega⟩
 have s:∀ i j,PrU u v i j->PrU u (v+1) i j:=fun i j ⟨a,b,c⟩=>⟨a,b,by omega⟩
 have o:PrU u (v+1) v u:=⟨l.1,l.2,.inr ⟨rfl,by omega⟩⟩
 rcases h with ⟨h1,f⟩|⟨h1,⟨i,j,f,w,x⟩,r⟩
 ·by_cases he:ix cells u=ix cells v
  ·rw [if_pos ⟨he,.inl ω⟩];refine .inr ⟨hu,⟨v,u,o,he.symm,rfl⟩,fun i j a1 e=>?_⟩;rcases hp i j a1 with k|⟨rfl,rfl⟩
   ·exact absurd e (f i j k)
   ·omega
  ·rw [if_neg fun k=>he k.1];refine .inl ⟨h1,fun i j a1 e=>?_⟩;rcases hp i j a1 with k|⟨rfl,rfl⟩
   ·exact f i j k e
   ·exact he e.symm
 ·by_cases he:ix cells u=ix cells v/\(a0<0\/ix cells u<a0)
  ·rw [if_pos he];refine .inr ⟨hu,⟨v,u,o,he.1.symm,rfl⟩,fun i' j' a1 e=>?_⟩;rcases hp i' j' a1 with k|⟨rfl,rfl⟩
   ·have:=r i' j' k e;omega
   ·omega
  ·rw [if_neg he];refine .inr ⟨h1,⟨i,j,s i j f,w,x⟩,fun i' j' a1 e=>?_⟩;rcases hp i' j' a1 with k|⟨rfl,rfl⟩
   ·exact r i' j' k e
   ·have:¬ (ix cells j'<a0):=fun k=>he ⟨e.symm,.inr k⟩;omega
theorem Zvs {cells:List Int} (hl:(cells.length:Int)<=1000000) (h0:∀ x∈cells,0<=x):ZjV cells=some (tgt cells):=by
 unfold ZjV;have hx:∀ i,0<=i->i<(cells.length:Int)->0<=ix cells i:=fun i a b=>h0 _ (Zl a b);obtain ⟨⟨a2,u⟩,⟨h1,h2⟩,h3⟩:=ZeC (B:=ZkH cells) (fun u q=>q.2=u/\TgI cells u 0 q.1) (i:=0) (n:=cells.length) ω (s:=((-1:Int),(0:Int))) ⟨rfl,.inl ⟨rfl,fun i j ⟨a,b,c⟩=>by omega⟩⟩ fun u q u0 u1 ⟨g1,g2⟩=>by
  obtain ⟨a2,j⟩:=q;dsimp only at g1 g2;subst g1;obtain ⟨⟨a1,v⟩,⟨k1,k2⟩,k3⟩:=ZeC (B:=Zcq cells j) (fun v q=>q.2=v/\TgI cells j v q.1) (i:=0) (n:=j) u0 (s:=(a2,(0:Int))) ⟨rfl,g2⟩ fun v q v0 v1 ⟨m1,m2⟩=>by
   obtain ⟨o,w⟩:=q;dsimp only at m1 m2;subst m1;have a6:=Zz5 ⟨v0,v1⟩ (hx j u0 u1) m2;generalize hE:(if ix cells j=ix cells w/\(o<0\/ix cells j<o) then ix cells j else o)=o2 at a6;refine ⟨(o2,w+1),?_,rfl,a6⟩;by_cases he:ix cells j=ix cells w
   ·by_cases ho:o<0
    ·rw [if_pos ⟨he,.inl ho⟩] at hE;subst hE;simp (disch:=omega) only [pz,Zcq,Zcr]
    ·by_cases hc:ix cells j<o
     ·rw [if_pos ⟨he,.inr hc⟩] at hE;subst hE;simp (disch:=omega) only [pz,Zcq,Zcr]
     ·rw [if_neg fun k=>by omega] at hE;subst hE;simp (disch:=omega) only [pz,Zcq,Zcr]
   ·rw [if_neg fun k=>he k.1] at hE;subst hE;simp (disch:=omega) only [pz,Zcq,Zcr]
  dsimp only at k1 k2;subst k1;have aa:loop (Zcq cells v) (a1,v)=some (.inl (a1,v+1)):=Zc (by simp (disch:=omega) only [pz,Zcq]);refine ⟨(a1,v+1),by simp (disch:=omega) only [pz,ZkH,k3,aa],rfl,?_⟩;rcases k2 with ⟨h,r⟩|⟨h,⟨i,j,r,y,a4⟩,a5⟩
  ·exact .inl ⟨h,fun i j ⟨f,l,b3⟩=>r i j ⟨f,l,by omega⟩⟩
  ·obtain ⟨c1,c2,c3⟩:=r;exact .inr ⟨h,⟨i,j,⟨c1,c2,.inl ω⟩,y,a4⟩,fun i j ⟨f,l,b3⟩=>a5 i j ⟨f,l,by omega⟩⟩
 dsimp only at h1 h2;rw [h3];subst h1;have e:a2=tgt cells:=by
  rcases Zcy h0 with ⟨t1,t2⟩|⟨t1,t2,t3⟩
  ·rcases h2 with ⟨h,_⟩|⟨h,⟨i,j,⟨f,l,b3⟩,y,a4⟩,_⟩
   ·omega
   ·have:=ZmU t2 f ω ω ω (y.trans a4.symm);omega
  ·obtain ⟨i,j,i0,a7,j1,hi,hj⟩:=Zmg.1 t2;rcases h2 with ⟨_,r⟩|⟨h,⟨i',j',⟨f,l,b3⟩,y,a4⟩,a5⟩
   ·exact absurd (hi.trans hj.symm) (r i j ⟨i0,a7,.inl j1⟩)
   ·have h1:=a5 i j ⟨i0,a7,.inl j1⟩ (hi.trans hj.symm);have h2:=t3 a2 (Zmg.2 ⟨i',j',f,l,by omega,y,a4⟩);omega
 refine Zc ?_;simp (disch:=omega) only [pz,ZkH,e]
theorem ZBJ {cells:List Int} {t k:Int} (h:0<=k):(idP (k+1)).filter (fun v=>ix cells v==t)=(idP k).filter (fun v=>ix cells v==t)++(if ix cells k=t then [k] else []):=by
 unfold idP;rw [ZU h,List.filter_append];by_cases e:ix cells k=t
 ·rw [if_pos e];simp [e]
 ·rw [if_neg e];simp [e]
theorem ZA5 {cells:List Int} (hl:(cells.length:Int)<=1000000) (hr:∀ x∈cells,0<=x/\x<(cells.length:Int)):ZjW cells=some (if tgt cells<0 then [] else vts cells (tgt cells)):=by
 unfold ZjW;have w:∀ c:Int,0<=c->c<(cells.length:Int)->loop (Zcu cells c) (([]:List Int),0)=some (if 1<((vts cells c).length:Int) then .inr (vts cells c) else .inl (c+1)):=fun c f c1=>by
  have a4:=Zh (B:=Zcu cells c) (fun k=>((idP k).filter (fun v=>ix cells v==c),k)) (i:=0) (n:=cells.length) ω fun k k0 k1=>by
   have a3:=List.length_filter_le (fun v=>ix cells v==c) (idP k);rw [Zai] at a3;have u:=ZBJ (cells:=cells) (t:=c) k0;by_cases e:ix cells k=c
   ·rw [if_pos e] at u;simp (disch:=omega) only [pz,Zcu,u]
   ·rw [if_neg e,List.append_nil] at u;simp (disch:=omega) only [pz,Zcu,u]
  have r:(([]:List Int),(0:Int))=(fun k:Int=>((idP k).filter (fun v=>ix cells v==c),k)) 0:=rfl;rw [r,a4];refine Zc ?_;show Zcu cells c (vts cells c,(cells.length:Int))=_;by_cases h:1<((vts cells c).length:Int)
  ·rw [if_pos h];simp (disch:=omega) only [pz,Zcu]
  ·rw [if_neg h];simp (disch:=omega) only [pz,Zcu]
 rcases Za1 (B:=Zif cells) (fun k=>k) (fun c=>1<((vts cells c).length:Int)) (i:=0) (n:=cells.length) ω (fun c f c1 s=>by
   have:=w c f c1;rw [if_neg s] at this;simp (disch:=omega) only [pz,Zif,this]) with ⟨c,f,c1,hP,hmin,he⟩|⟨hall,he⟩
 ·rw [he];have a2:2<=cells.count c:=by rw [<-Zpa];omega
  have ht:tgt cells=c:=by
   rcases Zcy (fun x l=>(hr x l).1) with ⟨a,j⟩|⟨a,j,o⟩
   ·have:=List.nodup_iff_count.1 j c;omega
   ·have h1:=o c a2;rcases Int.lt_or_le (tgt cells) c with k|k
    ·have:=hmin (tgt cells) a k;rw [Zpa] at this;omega
    ·omega
  rw [if_neg ω,ht];have:=w c f c1;rw [if_pos hP] at this;exact Zc (by simp (disch:=omega) only [pz,Zif,this])
 ·rw [he];have ht:tgt cells<0:=by
   rcases Zcy (fun x l=>(hr x l).1) with ⟨a,j⟩|⟨a,j,o⟩
   ·omega
   ·have hm:tgt cells∈cells:=List.count_pos_iff.1 ω;have:=hall (tgt cells) a (hr _ hm).2;rw [Zpa] at this;omega
  rw [if_pos ht];exact Zc (by simp (disch:=omega) only [pz,Zif])
theorem Zsd {l:List (List Int)} (h:l.Pairwise LtR):StrictL l:=fun i j e k f=>by
 have:=List.pairwise_iff_getElem.1 h i.toNat j.toNat ω ω ω;have a:=Zaa (xs:=l) (i:=i) e ω;have c:=Zaa (xs:=l) (i:=j) ω f;rw [List.getElem?_eq_getElem ω] at a c;rwa [Option.some.inj a,Option.some.inj c] at this
theorem Zs6 {xs:List (List Int)} {z:List Int} (h:z∈xs):(xs.idxOf z:Int)<(xs.length:Int)/\ix xs (xs.idxOf z:Int)=z:=by
 have h1:=List.idxOf_lt_length_of_mem h;refine ⟨by omega,ZN ?_⟩;rw [List.getElem?_eq_getElem h1,List.getElem_idxOf h1]
theorem ZxO {l:List (List Int)} (hs:StrictL l) {i j:Int} (a:0<=i) (c:i<(l.length:Int)) (f:0<=j) (o:j<(l.length:Int)) (h:ix l i=ix l j):i=j:=by
 have e:=(Zaz (ix l i) (ix l j)).2 h;have r:=(Zaz (ix l j) (ix l i)).2 h.symm;rcases Int.lt_trichotomy i j with k|k|k
 ·have:=hs i j a k o;omega
 ·exact k
 ·have:=hs j i f k c;omega
theorem ZH9 {l:List (List Int)} {p:List Int} (hs:StrictL l) (hl:(l.length:Int)<=1048576) (hr:∀ x∈l,(x.length:Int)<=1048576) (hm:p∈l):
  ZdZ l p (fun r s=>Zal r s)=some ((l.idxOf p:Int),true):=by
 unfold ZdZ;generalize a1:ZbB l p (fun r s=>Zal r s)=B;obtain ⟨a,hi⟩:=Zs6 hm;generalize hI:(l.idxOf p:Int)=I at a hi ⊢;have b:0<=I:=ω;have eI:cmpL (ix l I) p=0:=(Zaz _ _).2 hi;have a8:∀ (d:Nat) (lo hi:Int),(hi-lo).toNat<=d->0<=lo->lo<=hi->hi<=(l.length:Int)->(∀ j,0<=j->j<lo->cmpL (ix l j) p<0)->(∀ j,hi<=j->j<(l.length:Int)->0<=cmpL (ix l j) p)->loop B (lo,hi)=some (I,true):=by
  intro d;induction d with
  | zero=>
   intro lo a0 w f h1 u h i;obtain rfl:lo=a0:=ω;have ab:lo<=I:=by
    rcases Int.lt_or_le I lo with c|c
    ·have:=h I b c;omega
    ·exact c
   have a4:I=lo:=by
    rcases Int.lt_or_le lo I with c|c
    ·have v:=hs lo I f c a;rw [hi] at v;have:=i lo ω ω;omega
    ·omega
   subst a4;have a5:=hr (ix l I) (Zl f a);have k:=Zbl (a:=ix l I) (b:=p) ω;refine Zc ?_;rw [<-a1];simp (disch:=omega) only [pz,ZbB,k]
  | succ d ih=>
   intro lo a0 w f h1 u h i;by_cases aa:lo<a0
   ·have hm:=ZwI f h1 (show a0<=1048576 by omega);have a9:lo<=(lo+a0)/2/\(lo+a0)/2<a0:=ω;have a5:=hr (ix l ((lo+a0)/2)) (Zl ω ω);have k:=Zbl (a:=ix l ((lo+a0)/2)) (b:=p) ω;have o:gNn 1=some ():=rfl;by_cases e:cmpL (ix l ((lo+a0)/2)) p<0
    ·have hB:B (lo,a0)=some (.inl ((lo+a0)/2+1,a0)):=by
      rw [<-a1];simp only [ZbB,hm,o];simp (disch:=omega) only [pz,k]
     rw [Zy hB];refine ih _ _ ω ω ω u (fun j a b=>?_) i;by_cases hj:j=(lo+a0)/2
     ·rw [hj];exact e
     ·have:=hs j ((lo+a0)/2) a ω ω;exact Zbz _ _ _ this e
    ·have hB:B (lo,a0)=some (.inl (lo,(lo+a0)/2)):=by
      rw [<-a1];simp only [ZbB,hm,o];simp (disch:=omega) only [pz,k]
     rw [Zy hB];refine ih _ _ ω f ω ω h fun j a b=>?_;by_cases hj:j=(lo+a0)/2
     ·rw [hj];omega
     ·have v:=hs ((lo+a0)/2) j ω ω b;rcases Int.lt_or_le (cmpL (ix l j) p) 0 with c|c
      ·exact absurd (Zbz _ _ _ v c) e
      ·exact c
   ·exact ih lo a0 ω f h1 u h i
 exact a8 _ 0 l.length (Nat.le_refl _) ω ω ω (fun j a b=>by omega) fun j a b=>by omega
structure Nr (near:List (List Int)):Prop where
 n:near.length<=64
 row:∀ a∈near,a.length<=64/\∀ w∈a,0<=w/\w<(near.length:Int)
theorem Nr.ix {near:List (List Int)} (h:Nr near) {v:Int} (c:0<=v) (h1:v<(near.length:Int)):(Vc.ix near v).length<=64/\∀ j,0<=j->j<((Vc.ix near v).length:Int)->0<=Vc.ix (Vc.ix near v) j/\Vc.ix (Vc.ix near v) j<(near.length:Int):=by
 obtain ⟨a,b⟩:=h.row _ (Zl c h1);exact ⟨a,fun j e f=>b _ (Zl e f)⟩
theorem ZH5 {near:List (List Int)} {cells:List Int} {v:Int}:(keyAt near cells v).length=(Vc.ix near v).length+1:=by
 unfold keyAt;rw [List.length_cons,(ZbK _).length_eq,List.length_map]
theorem Nr.keys {near:List (List Int)} (h:Nr near) {cells:List Int}:∀ x∈rkeys near cells,x.length<=65:=fun x e=>by
 obtain ⟨i,c,a,rfl⟩:=ZR e;rw [Zd0] at a;rw [Zho c a,ZH5];have:=(h.ix c a).1;omega
theorem ZdK {e h:Type} [Inhabited e] {xs:List e} {f:e->h} {k:Int} (a:0<=k) (h1:k<(xs.length:Int)):(xs.take (k+1).toNat).map f=(xs.take k.toNat).map f++[f (Vc.ix xs k)]:=by
 rw [Zap a h1,List.map_append];rfl
theorem around {near:List (List Int)} {cells:List Int} {v k:Int} (k0:0<=k) (k1:k<((Vc.ix near v).length:Int)):((Vc.ix near v).take (k+1).toNat).map (fun w=>ix cells w)=((Vc.ix near v).take k.toNat).map (fun w=>ix cells w)++[ix cells (ix (Vc.ix near v) k)]:=ZdK k0 k1
theorem ZEk {keys:List (List Int)} {i:Int} (a:0<=i) (h1:i<(keys.length:Int)):kindsOf (keys.take (i+1).toNat)=insL (fun x=>cmpL x (ix keys i)) (ix keys i) (kindsOf (keys.take i.toNat)):=by
 unfold kindsOf;rw [Zap a h1,List.foldl_append];rfl
theorem Zy5 {near:List (List Int)} {cells:List Int} {k:Int} (k0:0<=k):tabl (k+1) (keyAt near cells)=tabl k (keyAt near cells)++[keyAt near cells k]:=ZU k0
theorem Zug {near:List (List Int)} {cells:List Int} (hN:Nr near) (hl:cells.length=near.length):ZgF near cells=some (rnd near cells):=by
 unfold ZgF;have hn:=hN.n
 -- the keys
 have h1:=Zh (B:=Zmo near cells) (fun k=>(tabl k (keyAt near cells),k)) (i:=0) (n:=near.length) ω fun k k0 k1=>by
  obtain ⟨a,b⟩:=hN.ix k0 k1;have a1:=Zh (B:=ZiH near cells (tabl k (keyAt near cells)) k) (fun j=>(((Vc.ix near k).take j.toNat).map (fun w=>ix cells w),j)) (i:=0) (n:=(Vc.ix near k).length) ω fun j f h=>by
   have hb:=b j f h;have ao:(((Vc.ix near k).take j.toNat).map (fun w=>ix cells w)).length<=64:=by rw [List.length_map,List.length_take];omega
   simp (disch:=omega) only [pz,ZiH,around f h]
  have e0:(([]:List Int),(0:Int))=(fun j:Int=>(((Vc.ix near k).take j.toNat).map (fun w=>ix cells w),j)) 0:=by simp
  have ab:=ZF9 (xs:=(Vc.ix near k).map (fun w=>ix cells w)) (by rw [List.length_map];omega);have au:(sortI ((Vc.ix near k).map (fun w=>ix cells w))).length<=64:=by rw [(ZbK _).length_eq,List.length_map];omega
  have ac:gApp 8 [ix cells k] (sortI ((Vc.ix near k).map (fun w=>ix cells w)))=some (keyAt near cells k):=by
   rw [ZaQ (by simp;omega) (by simp;omega)];rfl
  have af:(tabl k (keyAt near cells)).length<=64:=by rw [Zj];omega
  have a0:loop (ZiH near cells (tabl k (keyAt near cells)) k) (([]:List Int),0)=some (.inl (tabl (k+1) (keyAt near cells),k+1)):=by
   rw [e0,a1];refine Zc ?_;rw [Zy5 k0];simp (disch:=omega) only [pz,ZiH,ab,ac]
  simp (disch:=omega) only [pz,Zmo,a0]
 have e1:(([]:List (List Int)),(0:Int))=(fun k:Int=>(tabl k (keyAt near cells),k)) 0:=rfl;rw [e1,h1];show loop _ (rkeys near cells,(near.length:Int))=_
 -- the kinds
 generalize hK:rkeys near cells=keys;have a5:keys.length=near.length:=by rw [<-hK,Zd0]
 have a6:∀ x∈keys,x.length<=65:=by rw [<-hK];exact hN.keys
 have h2:=Zh (B:=Zf8 near keys) (fun k=>(kindsOf (keys.take k.toNat),k)) (i:=0) (n:=near.length) ω fun k k0 k1=>by
  have a9:=ZlH (keys.take k.toNat);rw [List.length_take] at a9;have hp:=Zxl (l:=kindsOf (keys.take k.toNat)) (y:=ix keys k) ω (fun x o=>by
   have:=a6 x (List.mem_of_mem_take (ZcD.1 o));omega)
  rw [<-ZEk k0 ω] at hp;simp (disch:=omega) only [pz,Zf8,hp]
 have e2:(([]:List (List Int)),(0:Int))=(fun k:Int=>(kindsOf (keys.take k.toNat),k)) 0:=rfl
 -- the numbers
 have ar:(kindsOf keys).length<=64:=by have:=ZlH keys;omega
 have r:∀ x∈kindsOf keys,x.length<=65:=fun x o=>a6 x (ZcD.1 o);have aa:=Zsd (Znn keys);have a3:(rnd near cells).length=near.length:=Zde near cells;have h3:=Zh (B:=ZgN near keys (kindsOf keys)) (fun k=>((rnd near cells).take k.toNat,k)) (i:=0) (n:=near.length) ω fun k k0 k1=>by
  have hm:ix keys k∈kindsOf keys:=ZcD.2 (Zl k0 ω);obtain ⟨s,u⟩:=Zs6 hm;have a4:ix (rnd near cells) k=((kindsOf keys).idxOf (ix keys k):Int):=by
   rw [ZmP k0 k1,hK,<-hK,Zho k0 k1]
  generalize hI:((kindsOf keys).idxOf (ix keys k):Int)=I at s u a4;have ae:0<=I:=ω;have a1:=Zh (B:=Zfk keys (kindsOf keys) k) (fun j=>((rnd near cells).take k.toNat++(if I<j then [I] else []),j)) (i:=0) (n:=(kindsOf keys).length) ω fun j f h=>by
   have hc:=ZbM (a:=ix (kindsOf keys) j) (b:=ix keys k) (by have:=r _ (Zl f h);omega);have af:((rnd near cells).take k.toNat).length<=64:=by rw [List.length_take];omega
   by_cases he:j=I
   ·have hz:cmpL (ix (kindsOf keys) j) (ix keys k)=0:=(Zaz _ _).2 (by rw [he];exact u);rw [if_neg ω,if_pos ω,List.append_nil];simp (disch:=omega) only [pz,Zfk,hc,hz];rw [he]
   ·have hz:¬ cmpL (ix (kindsOf keys) j) (ix keys k)=0:=fun e=>he (ZxO aa f h ae s (by rw [(Zaz _ _).1 e,u]));have v:(if I<j+1 then [I] else [])=(if I<j then [I] else []):=by
     by_cases c:I<j
     ·rw [if_pos c,if_pos ω]
     ·rw [if_neg c,if_neg ω]
    rw [v];simp (disch:=omega) only [pz,Zfk,hc,hz]
  have v:((rnd near cells).take k.toNat,(0:Int))=(fun j:Int=>((rnd near cells).take k.toNat++(if I<j then [I] else []),j)) 0:=by
   show _=(_++(if I<0 then [I] else []),(0:Int));rw [if_neg ω,List.append_nil]
  have a0:loop (Zfk keys (kindsOf keys) k) ((rnd near cells).take k.toNat,0)=some (.inl ((rnd near cells).take (k+1).toNat,k+1)):=by
   rw [v,a1];refine Zc ?_;rw [if_pos s,Zap k0 ω,a4];simp (disch:=omega) only [pz,Zfk]
  simp (disch:=omega) only [pz,ZgN,a0]
 have e4:(([]:List Int),(0:Int))=(fun k:Int=>((rnd near cells).take k.toNat,k)) 0:=rfl;have h4:loop (ZgN near keys (kindsOf keys)) (([]:List Int),0)=some (.inr (.inr (rnd near cells))):=by
  rw [e4,h3];refine Zc ?_;rw [Int.toNat_natCast,<-a3,List.take_length,a3];simp (disch:=omega) only [pz,ZgN]
 have h5:loop (Zf8 near keys) (([]:List (List Int)),0)=some (.inr (rnd near cells)):=by
  rw [e2,h2];refine Zc ?_;rw [Int.toNat_natCast,<-a5,List.take_length,a5];simp (disch:=omega) only [pz,Zf8,h4]
 exact Zc (by simp (disch:=omega) only [pz,Zmo,h5])
theorem ZCQ {a b:List Int} (h:(a.length:Int)<=1000):ZcC a b=some (decide (a=b)):=by
 by_cases e:a=b
 ·rw [(Zpq ω).eq e,decide_eq_true e]
 ·rw [(Zpq ω).ne e,decide_eq_false e]
theorem ZtT {near:List (List Int)} {cells:List Int} (hN:Nr near) (hl:cells.length=near.length):Zlq near cells=some (rnd near cells):=by
 unfold Zlq;have hn:=hN.n;have a8:gMake 24 ([]:List Int) (cells.length:Int) (cells.length:Int)=some (tabl near.length fun i=>if i<0 then keyAt near cells i else []):=by
  rw [Zas ω ω ω,Int.toNat_natCast];congr 1;refine ZaC (by rw [List.length_replicate,Zj];omega) fun i e h=>?_;rw [List.length_replicate] at h;rw [Zci e ω,ZG e ω,if_neg ω]
 rw [a8,Option.bind_some];have h1:=Zh (B:=Zk5 near cells) (fun k=>(k,tabl near.length fun i=>if i<k then keyAt near cells i else [])) (i:=0) (n:=near.length) ω fun k k0 k1=>by
  obtain ⟨a,b⟩:=hN.ix k0 k1;generalize hX:(tabl near.length fun i=>if i<k then keyAt near cells i else [])=X;have ab:X.length=near.length:=by rw [<-hX,Zj];omega
  have aa:=Zh (B:=ZgI cells k X (ix cells k) (Vc.ix near k)) (fun j=>(((Vc.ix near k).take j.toNat).map (fun w=>ix cells w),j)) (i:=0) (n:=(Vc.ix near k).length) ω fun j j0 j1=>by
   have r:=b j j0 j1;have au:(((Vc.ix near k).take j.toNat).map (fun w=>ix cells w)).length<=64:=by rw [List.length_map,List.length_take];omega
   simp (disch:=omega) only [pz,ZgI,around j0 j1]
  have e0:(([]:List Int),(0:Int))=(fun j:Int=>(((Vc.ix near k).take j.toNat).map (fun w=>ix cells w),j)) 0:=by simp
  have a0:=Zka (p:=(Vc.ix near k).map (fun w=>ix cells w)) (by rw [List.length_map];omega);have af:(sortI ((Vc.ix near k).map (fun w=>ix cells w))).length<=64:=by rw [(ZbK _).length_eq,List.length_map];omega
  have ac:gApp 8 [ix cells k] (sortI ((Vc.ix near k).map (fun w=>ix cells w)))=some (keyAt near cells k):=by
   rw [ZaQ (by simp;omega) (by simp;omega)];rfl
  have hset:X.set k.toNat (keyAt near cells k)=tabl near.length fun i=>if i<k+1 then keyAt near cells i else []:=by
   rw [<-hX];refine Zaj k0 k1 (fun i e h i2=>?_) ?_
   ·by_cases c:i<k
    ·rw [if_pos c,if_pos ω]
    ·rw [if_neg c,if_neg ω]
   ·rw [if_pos ω]
  have a4:loop (ZgI cells k X (ix cells k) (Vc.ix near k)) (([]:List Int),0)=some (.inl (k+1,tabl near.length fun i=>if i<k+1 then keyAt near cells i else [])):=by
   rw [e0,aa];refine Zc ?_;rw [<-hset];simp (disch:=omega) only [pz,ZgI,a0,ac]
  simp (disch:=omega) only [pz,Zk5,a4]
 rw [h1];have e1:(tabl near.length fun i=>if i<(near.length:Int) then keyAt near cells i else [])=rkeys near cells:=ZJ fun i e h=>by rw [if_pos h]
 rw [e1];generalize hK:rkeys near cells=keys;have aw:keys.length=near.length:=by rw [<-hK,Zd0]
 have a1:∀ x∈keys,x.length<=65:=by rw [<-hK];exact hN.keys
 have ae:Zj7 keys=some keys:=by
  unfold Zj7;rw [ZaQ (by simp;omega) (by simp;omega)];rfl
 have a0:=Zvh (q:=keys) ω (fun x o=>by have:=a1 x o;omega);have af:=Zhm keys;obtain ⟨q,q1,q2,q3,q4⟩:=ZDr (f:=fun s u=>ZcC s u) (fun a b ha=>ZCQ ha) (l:=sortRows keys) (fun x o=>by have:=a1 x (Zbh.1 o);omega) (ZiN keys);have hq:q=kindsOf keys:=ZEe q2 fun z=>by rw [q3,Zbh]
 have a5:Zip (sortRows keys) (fun s u=>ZcC s u)=some (kindsOf keys):=by
  unfold Zip;rw [if_pos ω,q1,hq]
 have ax:(kindsOf keys).length<=64:=by have:=ZlH keys;omega
 have v:∀ x∈kindsOf keys,x.length<=65:=fun x o=>a1 x (ZcD.1 o);have a7:=Zsd (Znn keys);have y:gMake 8 (0:Int) (cells.length:Int) (cells.length:Int)=some (tabl near.length fun i=>if i<0 then ix (rnd near cells) i else 0):=by
  rw [Zas ω ω ω,Int.toNat_natCast];congr 1;refine ZaC (by rw [List.length_replicate,Zj];omega) fun i e h=>?_;rw [List.length_replicate] at h;rw [Zci e ω,ZG e ω,if_neg ω]
 have h3:=Zh (B:=Zhu near cells keys (kindsOf keys)) (fun k=>(k,tabl near.length fun i=>if i<k then ix (rnd near cells) i else 0)) (i:=0) (n:=near.length) ω fun k k0 k1=>by
  have hm:ix keys k∈kindsOf keys:=ZcD.2 (Zl k0 ω);have r:=ZH9 a7 ω (fun x o=>by have:=v x o;omega) hm;have ad:ix (rnd near cells) k=((kindsOf keys).idxOf (ix keys k):Int):=by
   rw [ZmP k0 k1,hK,<-hK,Zho k0 k1]
  rw [<-ad] at r;have hset:(tabl near.length fun i=>if i<k then ix (rnd near cells) i else 0).set k.toNat (ix (rnd near cells) k)=tabl near.length fun i=>if i<k+1 then ix (rnd near cells) i else 0:=by
   refine Zaj k0 k1 (fun i e h i2=>?_) ?_
   ·by_cases c:i<k
    ·rw [if_pos c,if_pos ω]
    ·rw [if_neg c,if_neg ω]
   ·rw [if_pos ω]
  generalize (tabl near.length fun i=>if i<k then ix (rnd near cells) i else 0)=X at hset ⊢;have ab:X.length=near.length:=by
   have:=congrArg List.length hset;rw [List.length_set,Zj] at this;omega
  simp (disch:=omega) only [pz,Zhu,r,hset]
 have e3:(tabl near.length fun i=>if i<(near.length:Int) then ix (rnd near cells) i else 0)=rnd near cells:=by
  have:=Zbk (rnd near cells);rw [Zde] at this;refine Eq.trans (ZJ fun i e h=>?_) this;rw [if_pos h]
 have h4:loop (Zhu near cells keys (kindsOf keys)) (0,tabl near.length fun i=>if i<0 then ix (rnd near cells) i else 0)=some (.inr (rnd near cells)):=by
  rw [h3,e3];exact Zc (by simp (disch:=omega) only [pz,Zhu])
 exact Zc (by simp (disch:=omega) only [pz,Zk5,ae,a0,a5,y,h4])
theorem ZvP {near:List (List Int)} (k:Nr near):∀ (f:Nat) (c:List Int),c.length=near.length->near.length<f+1+cnt c->loop (Zeq near) ((cnt c:Int),rnd near c)=some (refM near (f+1) c)
 | 0,c,a,hf=>by
  have h1:=Zgi a;have j:=ZdP (rnd near c);have e:=Zde near c;have i:=k.n;have l:=ZoM (xs:=rnd near c) ω;rw [refM,if_pos ω];exact Zc (by simp (disch:=omega) only [pz,Zeq,l])
 | f+1,c,a,hf=>by
  have h1:=Zgi a;have e:=Zde near c;have i:=k.n;have l:=ZoM (xs:=rnd near c) ω;rw [refM];by_cases h:cnt (rnd near c)=cnt c
  ·rw [if_pos h];exact Zc (by simp (disch:=omega) only [pz,Zeq,l])
  ·rw [if_neg h];have o:=Zug (cells:=rnd near c) k e;have hB:Zeq near ((cnt c:Int),rnd near c)=some (.inl ((cnt (rnd near c):Int),rnd near (rnd near c))):=by simp (disch:=omega) only [pz,Zeq,l,o]
   rw [Zy hB];exact ZvP k f (rnd near c) e ω
theorem Zv1 {near:List (List Int)} {c:List Int} (h:Nr near) (a:c.length=near.length):Zib near c=some (refN near c):=by
 unfold Zib;have e:=h.n;have k:=ZoM (xs:=c) ω;have j:=Zug h a;have:=ZvP h near.length c a ω;simp (disch:=omega) only [pz,k,j,this];rfl
theorem Zvm {near:List (List Int)} (l:Nr near):∀ (f:Nat) (c:List Int),c.length=near.length->near.length<f+1+cnt c->loop (ZeX near) c=some (refM near (f+1) c)
 | 0,c,e,hf=>by
  have h1:=Zgi e;have k:=ZdP (rnd near c);have i:=Zde near c;have j:=l.n;have r:=Zm2 (xs:=rnd near c) ω;have a:=Zm2 (xs:=c) ω;have o:=ZtT l e;rw [refM,if_pos ω];exact Zc (by simp (disch:=omega) only [pz,ZeX,r,a,o])
 | f+1,c,e,hf=>by
  have h1:=Zgi e;have i:=Zde near c;have j:=l.n;have r:=Zm2 (xs:=rnd near c) ω;have a:=Zm2 (xs:=c) ω;have o:=ZtT l e;rw [refM];by_cases h:cnt (rnd near c)=cnt c
  ·rw [if_pos h];exact Zc (by simp (disch:=omega) only [pz,ZeX,r,a,o])
  ·rw [if_neg h];have hB:ZeX near c=some (.inl (rnd near c)):=by simp (disch:=omega) only [pz,ZeX,r,a,o]
   rw [Zy hB];exact Zvm l f (rnd near c) i ω
theorem Zwu {near:List (List Int)} {c:List Int} (e:Nr near) (a:c.length=near.length):ZkJ near c=some (refN near c):=Zvm e near.length c a ω
def tb (n:Int) (F:Int->Int->Bool):List (List Bool):=tabl n fun a=>tabl n fun b=>F a b
theorem Zml (n:Int) (F:Int->Int->Bool):(tb n F).length=n.toNat:=Zj
theorem tb_ix {n a:Int} {F:Int->Int->Bool} (c:0<=a) (e:a<n):ix (tb n F) a=tabl n fun b=>F a b:=ZG c e
theorem Zsc {n a b:Int} {F:Int->Int->Bool} (c:0<=a) (e:a<n) (f:0<=b) (h:b<n):ix (ix (tb n F) a) b=F a b:=by rw [tb_ix c e];exact ZG f h
theorem Zfu {n a:Int} {F:Int->Int->Bool} (c:0<=a) (e:a<n):(ix (tb n F) a).length=n.toNat:=by rw [tb_ix c e,Zj]
theorem Zo4 {n:Int} {F G:Int->Int->Bool} (h:∀ a b,0<=a->a<n->0<=b->b<n->F a b=G a b):tb n F=tb n G:=ZJ fun a c e=>ZJ fun b f i=>h a b c e f i
theorem ZlI {n A B:Int} {F:Int->Int->Bool} (c:0<=A) (e:A<n) (f:0<=B) (h:B<n):(tb n F).set A.toNat ((ix (tb n F) A).set B.toNat true)=tb n fun a b=>F a b||(a==A&&b==B):=by
 unfold tb;refine Zaj c e (fun i k l hi=>ZJ fun b _ _=>?_) ?_
 ·simp [hi]
 ·rw [ZG c e];refine Zaj f h (fun j o r u=>?_) ?_
  ·simp [u]
  ·simp
theorem Zsv {n A B:Int} {F:Int->Int->Bool} (c:0<=A) (e:A<n) (f:0<=B) (i:B<n):((tb n F).set A.toNat ((ix (tb n F) A).set B.toNat true)).set B.toNat ((ix ((tb n F).set A.toNat ((ix (tb n F) A).set B.toNat true)) B).set A.toNat true)=tb n fun a b=>F a b||((A==a&&B==b)||(A==b&&B==a)):=by
 rw [ZlI c e f i,ZlI f i c e];refine Zo4 fun a b _ _ _ _=>?_;rw [Bool.eq_iff_iff];simp only [Bool.or_eq_true,Bool.and_eq_true,beq_iff_eq];constructor
 ·rintro ((h|⟨rfl,rfl⟩)|⟨rfl,rfl⟩)
  ·exact .inl h
  ·exact .inr (.inl ⟨rfl,rfl⟩)
  ·exact .inr (.inr ⟨rfl,rfl⟩)
 ·rintro (h|⟨rfl,rfl⟩|⟨rfl,rfl⟩)
  ·exact .inl (.inl h)
  ·exact .inl (.inr ⟨rfl,rfl⟩)
  ·exact .inr ⟨rfl,rfl⟩
theorem ZCP {es:List Zb} {k:Int} (k0:0<=k) (k1:k<(es.length:Int)) (a b:Int):adj (es.take (k+1).toNat) a b=(adj (es.take k.toNat) a b||(((ix es k).A==a&&(ix es k).B==b)||((ix es k).A==b&&(ix es k).B==a))):=by
 unfold adj;rw [Zap k0 k1,List.any_append];simp
theorem ZrJ {g:Za} (x:g.Colors.length<=64) (he:g.Edges.length<=1000000) (hg:∀ e∈g.Edges,(0<=e.A/\e.A<(g.Colors.length:Int))/\0<=e.B/\e.B<(g.Colors.length:Int)):Zfh g=some (tb g.Colors.length (adj g.Edges)):=by
 unfold Zfh;have h1:=Zh (B:=ZkW g) (fun k=>(tabl k (fun _=>List.replicate g.Colors.length false),k)) (i:=0) (n:=g.Colors.length) ω fun k k0 k1=>by
  have a0:gMake 1 false (g.Colors.length:Int) (g.Colors.length:Int)=some (List.replicate g.Colors.length false):=by
   rw [Zas ω ω ω,Int.toNat_natCast]
  have hl:(tabl k (fun _=>List.replicate g.Colors.length false)).length<=64:=by rw [Zj];omega
  have a1:tabl (k+1) (fun _=>List.replicate g.Colors.length false)=_:=ZU k0;simp (disch:=omega) only [pz,ZkW,a0,a1]
 have r:(([]:List (List Bool)),(0:Int))=(fun k:Int=>(tabl k (fun _=>List.replicate g.Colors.length false),k)) 0:=rfl;have s:=Zh (B:=Zg1 g) (fun k=>(k,tb g.Colors.length (adj (g.Edges.take k.toNat)))) (i:=0) (n:=g.Edges.length) ω fun k k0 k1=>by
  obtain ⟨⟨x0,x1⟩,c,f⟩:=hg (ix g.Edges k) (Zl k0 k1);have hs:=Zsv (F:=adj (g.Edges.take k.toNat)) x0 x1 c f;have ht:(tb (g.Colors.length:Int) fun a b=>adj (g.Edges.take k.toNat) a b||(((ix g.Edges k).A==a&&(ix g.Edges k).B==b)||((ix g.Edges k).A==b&&(ix g.Edges k).B==a)))=tb g.Colors.length (adj (g.Edges.take (k+1).toNat)):=Zo4 fun a b _ _ _ _=>(ZCP k0 k1 a b).symm;rw [ht] at hs;have l:=ZlI (F:=adj (g.Edges.take k.toNat)) x0 x1 c f;have l1:=Zml (g.Colors.length:Int) (adj (g.Edges.take k.toNat));have l2:=Zfu (F:=adj (g.Edges.take k.toNat)) x0 x1;have u:(ix ((tb (g.Colors.length:Int) (adj (g.Edges.take k.toNat))).set (ix g.Edges k).A.toNat ((ix (tb (g.Colors.length:Int) (adj (g.Edges.take k.toNat))) (ix g.Edges k).A).set (ix g.Edges k).B.toNat true)) (ix g.Edges k).B).length=g.Colors.length:=by rw [l,Zfu c f];omega
  generalize tb (g.Colors.length:Int) (adj (g.Edges.take k.toNat))=X at hs l1 l2 u ⊢;have y:(X.set (ix g.Edges k).A.toNat ((ix X (ix g.Edges k).A).set (ix g.Edges k).B.toNat true)).length=g.Colors.length:=by rw [List.length_set];omega
  simp (disch:=omega) only [pz,Zg1];rw [hs]
 have v:tabl (g.Colors.length:Int) (fun _=>List.replicate g.Colors.length false)=tb g.Colors.length (adj (g.Edges.take (0:Int).toNat)):=by
  refine ZJ fun i i0 i1=>?_;refine ZaC (by rw [List.length_replicate,Zj];omega) fun j o h=>?_;rw [List.length_replicate] at h;rw [Zci o h,ZG o h];simp [adj]
 have w:loop (Zg1 g) (0,tabl (g.Colors.length:Int) (fun _=>List.replicate g.Colors.length false))=some (.inr (tb g.Colors.length (adj g.Edges))):=by
  rw [v,s,Int.toNat_natCast,List.take_length];exact Zc (by simp (disch:=omega) only [pz,Zg1])
 rw [r,h1];exact Zc (by simp (disch:=omega) only [pz,ZkW,w])
theorem ZIO {g:Za} (hg:ValidG g):Zkd g=some (nearM g):=by
 unfold Zkd;have a5:=hg.cl;have a6:=hg.el;have ht:=ZrJ (g:=g) ω ω (fun e he=>by have:=Zbx hg he;exact ⟨⟨this.1,by omega⟩,by omega,this.2.2⟩);have e:Za.mk g.Colors g.Edges=g:=rfl;rw [e,ht,Option.bind_some];have x:=Zml (g.Colors.length:Int) (adj g.Edges);rw [Int.toNat_natCast] at x;have h1:=Zh (B:=Zlr (tb g.Colors.length (adj g.Edges))) (fun k=>(tabl k (fun a=>(idP g.Colors.length).filter fun b=>adj g.Edges a b),k)) (i:=0) (n:=g.Colors.length) ω fun k k0 k1=>by
  have a7:(tabl k (fun a=>(idP g.Colors.length).filter fun b=>adj g.Edges a b)).length<=64:=by rw [Zj];omega
  have w:=Zfu (F:=adj g.Edges) k0 k1;have a2:=Zh (B:=Zey (tb g.Colors.length (adj g.Edges)) (tabl k (fun a=>(idP g.Colors.length).filter fun b=>adj g.Edges a b)) k) (fun j=>((idP j).filter (fun b=>adj g.Edges k b),j)) (i:=0) (n:=g.Colors.length) ω fun j h o=>by
   have f:=Zsc (F:=adj g.Edges) k0 k1 h o;have a1:=List.length_filter_le (fun b=>adj g.Edges k b) (idP j);rw [Zai] at a1;have u:(idP (j+1)).filter (fun b=>adj g.Edges k b)=(idP j).filter (fun b=>adj g.Edges k b)++(if adj g.Edges k j=true then [j] else []):=by
    unfold idP;rw [ZU h,List.filter_append];by_cases c:adj g.Edges k j=true
    ·rw [if_pos c];simp [c]
    ·rw [if_neg c];simp [c]
   cases l:adj g.Edges k j with
   | true=>
    rw [l] at f u;rw [if_pos rfl] at u;generalize tb (g.Colors.length:Int) (adj g.Edges)=X at f x w ⊢;simp (disch:=omega) only [pz,Zey,f,u]
   | false=>
    rw [l] at f u;rw [if_neg (by simp),List.append_nil] at u;generalize tb (g.Colors.length:Int) (adj g.Edges)=X at f x w ⊢;simp (disch:=omega) only [pz,Zey,f,u]
  have r:(([]:List Int),(0:Int))=(fun j:Int=>((idP j).filter (fun b=>adj g.Edges k b),j)) 0:=rfl;have u:tabl (k+1) (fun a=>(idP g.Colors.length).filter fun b=>adj g.Edges a b)=tabl k (fun a=>(idP g.Colors.length).filter fun b=>adj g.Edges a b)++[(idP g.Colors.length).filter fun b=>adj g.Edges k b]:=ZU k0;have a0:loop (Zey (tb g.Colors.length (adj g.Edges)) (tabl k (fun a=>(idP g.Colors.length).filter fun b=>adj g.Edges a b)) k) (([]:List Int),0)=some (.inl (tabl (k+1) (fun a=>(idP g.Colors.length).filter fun b=>adj g.Edges a b),k+1)):=by
   rw [r,a2,u];refine Zc ?_;generalize tb (g.Colors.length:Int) (adj g.Edges)=X at x w ⊢;simp (disch:=omega) only [pz,Zey]
  simp (disch:=omega) only [pz,Zlr,a0]
 have s:(([]:List (List Int)),(0:Int))=(fun k:Int=>(tabl k (fun a=>(idP g.Colors.length).filter fun b=>adj g.Edges a b),k)) 0:=rfl;rw [s,h1];exact Zc (by simp (disch:=omega) only [pz,Zlr];rfl)
theorem Zpe {g:Za} (hg:ValidG g):Nr (nearM g):=by
 have k:=hg.cl;have e:=Zm0 g;refine ⟨by omega,fun a h=>?_⟩;obtain ⟨v,v0,v1,rfl⟩:=ZR h;rw [e] at v1;have:=Zx9 v0 v1;exact ⟨by omega,fun w j=>by rw [e];exact ((Zyz v0 v1).1 j).1⟩
def nb (es:List Zb) (v:Int):List Int:=es.filterMap fun e=>if e.A=v then some e.B else if e.B=v then some e.A else none
theorem Zu9 {es:List Zb} {k:Int} (k0:0<=k) (k1:k<(es.length:Int)) (v:Int):nb (es.take (k+1).toNat) v=nb (es.take k.toNat) v++(if (ix es k).A=v then [(ix es k).B] else if (ix es k).B=v then [(ix es k).A] else []):=by
 unfold nb;rw [Zap k0 k1,List.filterMap_append];congr 1;by_cases c:(ix es k).A=v
 ·simp [c]
 ·by_cases d:(ix es k).B=v
  ·simp [c,d]
  ·simp [c,d]
theorem ZoB (es:List Zb) (v:Int):(nb es v).length<=es.length:=List.length_filterMap_le _ _
theorem ZFW {g:Za} (hg:ValidG g) {v:Int} (v0:0<=v) (v1:v<(g.Colors.length:Int)):sortI (nb g.Edges v)=(idP g.Colors.length).filter fun b=>adj g.Edges v b:=by
 refine Zky ((ZbK _).trans ?_) (Zmi _) (((Zqc _).filter _));rw [List.perm_ext_iff_of_nodup]
 ·intro x;unfold nb;rw [List.mem_filterMap,List.mem_filter,ZQ,Zs3];constructor
  ·rintro ⟨e,r,h⟩;have k:=Zbx hg r;by_cases c:e.A=v
   ·rw [if_pos c] at h;obtain rfl:=Option.some.inj h;exact ⟨⟨by omega,by omega⟩,e,r,.inl ⟨c,rfl⟩⟩
   ·rw [if_neg c] at h;by_cases d:e.B=v
    ·rw [if_pos d] at h;obtain rfl:=Option.some.inj h;exact ⟨⟨by omega,by omega⟩,e,r,.inr ⟨rfl,d⟩⟩
    ·rw [if_neg d] at h;cases h
  ·rintro ⟨_,e,r,⟨c,d⟩|⟨c,d⟩⟩
   ·exact ⟨e,r,by rw [if_pos c,d]⟩
   ·have k:=Zbx hg r;exact ⟨e,r,by rw [if_neg ω,if_pos d,c]⟩
 ·unfold nb List.Nodup;rw [List.pairwise_filterMap];refine (ZJe hg).imp_of_mem fun {a b} ha l u x i y o w=>?_;have va:=Zbx hg ha;have vb:=Zbx hg l;subst w;unfold eLess at u;by_cases c:a.A=v
  ·rw [if_pos c] at i;obtain rfl:=Option.some.inj i;by_cases d:b.A=v
   ·rw [if_pos d] at o;have:=Option.some.inj o;omega
   ·rw [if_neg d] at o;by_cases f:b.B=v
    ·rw [if_pos f] at o;have:=Option.some.inj o;omega
    ·rw [if_neg f] at o;cases o
  ·rw [if_neg c] at i;by_cases f:a.B=v
   ·rw [if_pos f] at i;obtain rfl:=Option.some.inj i;by_cases d:b.A=v
    ·rw [if_pos d] at o;have:=Option.some.inj o;omega
    ·rw [if_neg d] at o;by_cases j:b.B=v
     ·rw [if_pos j] at o;have:=Option.some.inj o;omega
     ·rw [if_neg j] at o;cases o
   ·rw [if_neg f] at i;cases i
 ·exact (ZkX _).filter _
theorem ZHF {g:Za} (hg:ValidG g):Zmt g=some (nearM g):=by
 unfold Zmt;have a1:=hg.cl;have a2:=hg.el;have a0:gMake 24 ([]:List Int) (g.Colors.length:Int) (g.Colors.length:Int)=some (tabl g.Colors.length fun v=>nb (g.Edges.take (0:Int).toNat) v):=by
  rw [Zas ω ω ω,Int.toNat_natCast];congr 1;refine ZaC (by rw [List.length_replicate,Zj];omega) fun i a f=>?_;rw [List.length_replicate] at f;rw [Zci a ω,ZG a ω];rfl
 rw [a0,Option.bind_some];have h1:=Zh (B:=Zmj g) (fun k=>(k,tabl g.Colors.length fun v=>nb (g.Edges.take k.toNat) v)) (i:=0) (n:=g.Edges.length) ω fun k k0 k1=>by
  obtain ⟨h,ab,j⟩:=Zbx hg (Zl k0 k1);have s1:(tabl g.Colors.length fun v=>nb (g.Edges.take k.toNat) v).set (ix g.Edges k).A.toNat (nb (g.Edges.take k.toNat) (ix g.Edges k).A++[(ix g.Edges k).B])=tabl g.Colors.length fun v=>if v=(ix g.Edges k).A then nb (g.Edges.take k.toNat) v++[(ix g.Edges k).B] else nb (g.Edges.take k.toNat) v:=
   Zaj h ω (fun i a f hi=>by rw [if_neg hi]) (by rw [if_pos rfl])
  have s2:(tabl g.Colors.length fun v=>if v=(ix g.Edges k).A then nb (g.Edges.take k.toNat) v++[(ix g.Edges k).B] else nb (g.Edges.take k.toNat) v).set (ix g.Edges k).B.toNat (nb (g.Edges.take k.toNat) (ix g.Edges k).B++[(ix g.Edges k).A])=tabl g.Colors.length fun v=>nb (g.Edges.take (k+1).toNat) v:=by
   refine Zaj ω j (fun i a f hi=>?_) ?_
   ·rw [Zu9 k0 k1];by_cases c:i=(ix g.Edges k).A
    ·rw [if_pos c,if_pos c.symm]
    ·rw [if_neg c,if_neg fun e=>c e.symm,if_neg fun e=>hi e.symm,List.append_nil]
   ·rw [Zu9 k0 k1,if_neg ω,if_pos rfl]
  have x1:ix (tabl (g.Colors.length:Int) fun v=>nb (g.Edges.take k.toNat) v) (ix g.Edges k).A=nb (g.Edges.take k.toNat) (ix g.Edges k).A:=ZG h ω;have x2:ix (tabl (g.Colors.length:Int) fun v=>if v=(ix g.Edges k).A then nb (g.Edges.take k.toNat) v++[(ix g.Edges k).B] else nb (g.Edges.take k.toNat) v) (ix g.Edges k).B=nb (g.Edges.take k.toNat) (ix g.Edges k).B:=by rw [ZG ω j,if_neg ω]
  have n1:=ZoB (g.Edges.take k.toNat) (ix g.Edges k).A;have n2:=ZoB (g.Edges.take k.toNat) (ix g.Edges k).B;rw [List.length_take] at n1 n2;have l1:(tabl (g.Colors.length:Int) fun v=>nb (g.Edges.take k.toNat) v).length=g.Colors.length:=by rw [Zj];omega
  have l2:(tabl (g.Colors.length:Int) fun v=>if v=(ix g.Edges k).A then nb (g.Edges.take k.toNat) v++[(ix g.Edges k).B] else nb (g.Edges.take k.toNat) v).length=g.Colors.length:=by rw [Zj];omega
  generalize (tabl (g.Colors.length:Int) fun v=>nb (g.Edges.take k.toNat) v)=X at s1 x1 l1 ⊢;generalize (tabl (g.Colors.length:Int) fun v=>if v=(ix g.Edges k).A then nb (g.Edges.take k.toNat) v++[(ix g.Edges k).B] else nb (g.Edges.take k.toNat) v)=Y at s1 s2 x2 l2;simp (disch:=omega) only [pz,Zmj,x1,s1,x2,s2]
 rw [h1,Int.toNat_natCast,List.take_length];have l0:(tabl (g.Colors.length:Int) fun v=>nb g.Edges v).length=g.Colors.length:=by rw [Zj];omega
 have l:=Zh (B:=ZgO (tabl g.Colors.length fun v=>nb g.Edges v)) (fun k=>(k,tabl g.Colors.length fun v=>if v<k then (idP g.Colors.length).filter (fun b=>adj g.Edges v b) else nb g.Edges v)) (i:=0) (n:=g.Colors.length) ω fun k k0 k1=>by
  have s1:(tabl g.Colors.length fun v=>if v<k then (idP g.Colors.length).filter (fun b=>adj g.Edges v b) else nb g.Edges v).set k.toNat ((idP g.Colors.length).filter fun b=>adj g.Edges k b)=tabl g.Colors.length fun v=>if v<k+1 then (idP g.Colors.length).filter (fun b=>adj g.Edges v b) else nb g.Edges v:=by
   refine Zaj k0 k1 (fun i a f hi=>?_) ?_
   ·by_cases c:i<k
    ·rw [if_pos c,if_pos ω]
    ·rw [if_neg c,if_neg ω]
   ·rw [if_pos ω]
  have x1:ix (tabl (g.Colors.length:Int) fun v=>if v<k then (idP g.Colors.length).filter (fun b=>adj g.Edges v b) else nb g.Edges v) k=nb g.Edges k:=by rw [ZG k0 k1,if_neg ω]
  have u:=ZoB g.Edges k;have w:=Zka (p:=nb g.Edges k) ω;rw [ZFW hg k0 k1] at w;have l1:(tabl (g.Colors.length:Int) fun v=>if v<k then (idP g.Colors.length).filter (fun b=>adj g.Edges v b) else nb g.Edges v).length=g.Colors.length:=by rw [Zj];omega
  generalize (tabl (g.Colors.length:Int) fun v=>if v<k then (idP g.Colors.length).filter (fun b=>adj g.Edges v b) else nb g.Edges v)=X at s1 x1 l1 ⊢;generalize (tabl (g.Colors.length:Int) fun v=>nb g.Edges v)=Y at l0 ⊢;simp (disch:=omega) only [pz,ZgO,x1,w,s1]
 have o:(tabl (g.Colors.length:Int) fun v=>nb g.Edges v)=tabl g.Colors.length fun v=>if v<0 then (idP g.Colors.length).filter (fun b=>adj g.Edges v b) else nb g.Edges v:=ZJ fun i a f=>by rw [if_neg ω]
 have r:(tabl (g.Colors.length:Int) fun v=>if v<(g.Colors.length:Int) then (idP g.Colors.length).filter (fun b=>adj g.Edges v b) else nb g.Edges v)=nearM g:=ZJ fun i a f=>by rw [if_pos f]
 have s:loop (ZgO (tabl g.Colors.length fun v=>nb g.Edges v)) (0,tabl g.Colors.length fun v=>nb g.Edges v)=some (.inr (nearM g)):=by
  have x:=l;rw [<-o,r] at x;rw [x];generalize (tabl (g.Colors.length:Int) fun v=>nb g.Edges v)=Y at l0 ⊢;exact Zc (by simp (disch:=omega) only [pz,ZgO])
 refine Zc ?_;simp (disch:=omega) only [pz,Zmj,s]
theorem compareE (a b:Zb):Zbo a b=some (eC a b):=by
 unfold Zbo;simp only [Zwz,or_ok,Option.bind_some];rfl
theorem eC_ok:CmpOk eC where
 swo:=by
  have t:∀ x y,ltC eC x y=true↔eLess x y:=fun x y=>by unfold ltC;rw [decide_eq_true_eq,eC_lt]
  have f:∀ x y,ltC eC x y=false↔¬ eLess x y:=fun x y=>by rw [<-t,Bool.not_eq_true]
  exact ⟨fun x=>(f x x).2 (by unfold eLess;omega),fun x y z h k=>(t x z).2 (Zjd _ _ _ ((t _ _).1 h) ((t _ _).1 k)),fun x y z h k=>(f x z).2 (by
   have h:=(f _ _).1 h;have k:=(f _ _).1 k;unfold eLess at *;omega)⟩
 tot:=fun x y h k=>by
  unfold ltC at h k;simp only [decide_eq_false_iff_not] at h k;rw [eC_lt] at h k;unfold eLess at h k;cases x;cases y;simp only [Zb.mk.injEq] at *;omega
def mkE (e:Zb):Zb:=⟨min e.A e.B,max e.A e.B⟩
theorem Zrh {es:List Zb} (hl:es.length<=1000000):Zgf es=some (srtE (es.map mkE)):=by
 unfold Zgf;have h1:=Zh (B:=ZlQ es) (fun k=>((es.take k.toNat).map mkE,k)) (i:=0) (n:=es.length) ω fun k k0 k1=>by
  have a3:((es.take k.toNat).map mkE).length<=1000000:=by rw [List.length_map,List.length_take];omega
  have hm:((es.take (k+1).toNat).map mkE)=(es.take k.toNat).map mkE++[mkE (ix es k)]:=ZdK k0 k1;have e:Zb.mk (if (ix es k).B<(ix es k).A then (ix es k).B else (ix es k).A) (if (ix es k).B>(ix es k).A then (ix es k).B else (ix es k).A)=mkE (ix es k):=by
   unfold mkE;congr 1
   ·by_cases c:(ix es k).B<(ix es k).A
    ·rw [if_pos c];omega
    ·rw [if_neg c];omega
   ·by_cases c:(ix es k).B>(ix es k).A
    ·rw [if_pos c];omega
    ·rw [if_neg c];omega
  rw [hm,<-e];simp (disch:=omega) only [pz,ZlQ]
 have f:(([]:List Zb),(0:Int))=(fun k:Int=>((es.take k.toNat).map mkE,k)) 0:=rfl;rw [f,h1,Int.toNat_natCast,List.take_length];have hf:(fun a c=>(Zbo a c).getD 0)=eC:=by funext a c;rw [compareE];rfl
 have hs:Zhx (es.map mkE) (fun j l=>Zbo j l)=some (sortC eC (es.map mkE)):=by
  unfold Zhx;rw [if_pos ⟨⟨eC,compareE,eC_ok⟩,by rw [List.length_map];omega⟩,hf]
 have w:(sortC eC (es.map mkE)).Perm (es.map mkE):=List.mergeSort_perm _ _;have a0:(sortC eC (es.map mkE)).Pairwise fun a b=>¬ eLess b a:=by
  have:=List.pairwise_mergeSort (le:=fun x y=>!ltC eC y x) (fun a b c h k=>by
   simp only [Bool.not_eq_true',ltC,decide_eq_false_iff_not,eC_lt] at *;unfold eLess at *;omega) (fun a b=>by
   simp only [Bool.or_eq_true,Bool.not_eq_true',ltC,decide_eq_false_iff_not,eC_lt];unfold eLess;omega) (es.map mkE)
  refine List.Pairwise.imp (fun {a b} h=>?_) this;simpa [ltC,eC_lt] using h
 obtain ⟨q,o,q2,r⟩:=cptGL (eqb:=fun (a b:Zb)=>a.A==b.A&&a.B==b.B) (Le:=fun a b=>¬ eLess b a) (R:=eLess) (fun a b=>by
   cases a;cases b;simp) (fun a b h k=>by
   cases a;cases b;unfold eLess at *;simp only [Zb.mk.injEq,ne_eq] at *;omega) Zjd a0
 have s:Ziw (sortC eC (es.map mkE))=some (srtE (es.map mkE)):=by
  have u:q=srtE (es.map mkE):=Zj4 q2 fun z=>by rw [r,w.mem_iff]
  unfold Ziw;rw [if_pos (by rw [w.length_eq,List.length_map];omega),o,u]
 exact Zc (by simp (disch:=omega) only [pz,ZlQ,hs,s])
theorem Zri {g:Za} {p:List Int} (hp:Vc.Perm p g.Colors.length) {k:Int} (k0:0<=k) (k1:k<(g.Colors.length:Int)):
  (tabl g.Colors.length fun i=>if (p.idxOf i:Int)<k then ix g.Colors (p.idxOf i:Int) else 0).set (ix p k).toNat (ix g.Colors k)=tabl g.Colors.length fun i=>if (p.idxOf i:Int)<k+1 then ix g.Colors (p.idxOf i:Int) else 0:=by
 have l:=hp.len;have h:=hp.rng _ (Zl (xs:=p) k0 ω);refine Zaj h.1 h.2 (fun i a f hi=>?_) ?_
 ·have j:(p.idxOf i:Int)≠k:=fun e=>hi (by
   have:=(Zgp (Zp4 hp a f)).2;rw [e] at this;exact this.symm)
  by_cases c:(p.idxOf i:Int)<k
  ·rw [if_pos c,if_pos ω]
  ·rw [if_neg c,if_neg ω]
 ·rw [ZBD hp.nd k0 ω,if_pos ω]
theorem ZrG {g:Za} {p:List Int}:(tabl g.Colors.length fun i=>if (p.idxOf i:Int)<0 then ix g.Colors (p.idxOf i:Int) else 0)=List.replicate g.Colors.length 0:=by
 refine ZaC (by rw [List.length_replicate,Zj];omega) fun i a c=>?_;rw [Zj] at c;rw [Zci a ω,ZG a ω,if_neg ω]
theorem Zvn {g:Za} {p:List Int} (hp:Vc.Perm p g.Colors.length):(tabl g.Colors.length fun i=>if (p.idxOf i:Int)<(g.Colors.length:Int) then ix g.Colors (p.idxOf i:Int) else 0)=colM g p:=by
 have e:=hp.len;unfold colM;rw [e];refine ZJ fun i a c=>?_;have:=(Zgp (Zp4 hp a c)).1;rw [if_pos ω]
def mvE (p:List Int) (e:Zb):Zb:=⟨ix p e.A,ix p e.B⟩
theorem mv_mk (p:List Int) (es:List Zb):(es.map (mvE p)).map mkE=es.map (mapE p):=by rw [List.map_map];rfl
theorem ZEm {g:Za} (hg:ValidG g) {p:List Int} (hp:Vc.Perm p g.Colors.length):ZgZ g p=some (relab g p):=by
 unfold ZgZ;have u:=hg.cl;have w:=hg.el;have hl:=hp.len;have j:gMake 8 (0:Int) (g.Colors.length:Int) (g.Colors.length:Int)=some (tabl g.Colors.length fun i=>if (p.idxOf i:Int)<0 then ix g.Colors (p.idxOf i:Int) else 0):=by
  rw [Zas ω ω ω,Int.toNat_natCast,ZrG]
 rw [j,Option.bind_some];have h1:=Zh (B:=Zlh g p) (fun k=>(k,tabl g.Colors.length fun i=>if (p.idxOf i:Int)<k then ix g.Colors (p.idxOf i:Int) else 0)) (i:=0) (n:=g.Colors.length) ω fun k k0 k1=>by
  have hs:=Zri hp k0 k1;have x:=hp.rng _ (Zl (xs:=p) k0 ω);have r:(tabl (g.Colors.length:Int) fun i=>if (p.idxOf i:Int)<k then ix g.Colors (p.idxOf i:Int) else 0).length=g.Colors.length:=by rw [Zj];omega
  generalize (tabl (g.Colors.length:Int) fun i=>if (p.idxOf i:Int)<k then ix g.Colors (p.idxOf i:Int) else 0)=X at hs r ⊢;simp (disch:=omega) only [pz,Zlh,hs]
 rw [h1,Zvn hp];have a:=Zh (B:=Zil g p (colM g p)) (fun k=>(k,(g.Edges.take k.toNat).map (mvE p))) (i:=0) (n:=g.Edges.length) ω fun k k0 k1=>by
  have f:=Zbx hg (Zl k0 k1);have o:((g.Edges.take k.toNat).map (mvE p)).length<=512:=by rw [List.length_map,List.length_take];omega
  have l:((g.Edges.take (k+1).toNat).map (mvE p))=(g.Edges.take k.toNat).map (mvE p)++[Zb.mk (ix p (ix g.Edges k).A) (ix p (ix g.Edges k).B)]:=ZdK k0 k1;simp (disch:=omega) only [pz,Zil,l]
 have c:((0:Int),([]:List Zb))=(fun k:Int=>(k,(g.Edges.take k.toNat).map (mvE p))) 0:=rfl;have h:=Zrh (es:=g.Edges.map (mvE p)) (by rw [List.length_map];omega);rw [mv_mk] at h;have e:loop (Zil g p (colM g p)) (0,([]:List Zb))=some (.inr (relab g p)):=by
  rw [c,a,Int.toNat_natCast,List.take_length];exact Zc (by simp (disch:=omega) only [pz,Zil,h];rfl)
 exact Zc (by simp (disch:=omega) only [pz,Zlh,e])
def rwE (n:Int) (F:Int->Int->Bool) (a:Int):List Zb:=((idP n).filter fun b=>decide (a<b)&&F a b).map fun b=>⟨a,b⟩
def ofE (n k:Int) (F:Int->Int->Bool):List Zb:=(idP k).flatMap (rwE n F)
theorem ZuX (n:Int) (F:Int->Int->Bool) (a:Int):(rwE n F a).length<=n.toNat:=by
 unfold rwE;rw [List.length_map];have:=List.length_filter_le (fun b=>decide (a<b)&&F a b) (idP n);rwa [Zai] at this
theorem Ztu {n k:Int} {F:Int->Int->Bool} (h:0<=k):ofE n (k+1) F=ofE n k F++rwE n F k:=by
 unfold ofE idP;rw [ZU h,List.flatMap_append];simp
theorem ZDu {F:Int->Int->Bool} {a k:Int} (h:0<=k):rwE (k+1) F a=rwE k F a++(if a<k/\F a k=true then [⟨a,k⟩] else []):=by
 unfold rwE idP;rw [ZU h,List.filter_append,List.map_append];by_cases c:a<k/\F a k=true
 ·rw [if_pos c];simp [c.1,c.2]
 ·rw [if_neg c];have:(decide (a<k)&&F a k)=false:=by
   rw [Bool.eq_false_iff];intro h;rw [Bool.and_eq_true,decide_eq_true_eq] at h;exact c h
  simp [this]
theorem ZGt {F:Int->Int->Bool} {a:Int} (h:0<=a):rwE (a+1) F a=[]:=by
 unfold rwE;have:((idP (a+1)).filter fun b=>decide (a<b)&&F a b)=[]:=by
  rw [List.filter_eq_nil_iff];intro b c;have:=ZQ.1 c;simp;omega
 rw [this];rfl
theorem ZFb {n:Int} {F:Int->Int->Bool} {e:Zb}:e∈ofE n n F↔(0<=e.A/\e.A<n)/\(0<=e.B/\e.B<n)/\e.A<e.B/\F e.A e.B=true:=by
 unfold ofE rwE;rw [List.mem_flatMap];constructor
 ·rintro ⟨a,k,j⟩;obtain ⟨b,c,rfl⟩:=List.mem_map.1 j;rw [List.mem_filter,Bool.and_eq_true,decide_eq_true_eq] at c;exact ⟨ZQ.1 k,ZQ.1 c.1,c.2.1,c.2.2⟩
 ·rintro ⟨h1,f,h,i⟩;refine ⟨e.A,ZQ.2 h1,List.mem_map.2 ⟨e.B,?_,rfl⟩⟩;rw [List.mem_filter,Bool.and_eq_true,decide_eq_true_eq];exact ⟨ZQ.2 f,h,i⟩
theorem ZcP (n:Int):(idP n).Pairwise (·<·):=by
 have h:=List.Pairwise.and (Zqc n) (ZkX n);exact h.imp fun ⟨a,b⟩=>by omega
theorem Zxs (n:Int) (F:Int->Int->Bool):(ofE n n F).Pairwise eLess:=by
 unfold ofE;rw [List.pairwise_flatMap];refine ⟨fun a k=>?_,(ZcP n).imp fun {a b} e x c y j=>?_⟩
 ·unfold rwE;rw [List.pairwise_map];exact ((ZcP n).filter _).imp fun h=>.inr ⟨rfl,h⟩
 ·unfold rwE at c j;obtain ⟨_,_,rfl⟩:=List.mem_map.1 c;obtain ⟨_,_,rfl⟩:=List.mem_map.1 j;exact .inl e
theorem ZAT {cs:List Int} {F:Int->Int->Bool} (x:cs.length<=64):ZjT cs (tb cs.length F)=some ⟨cs,ofE cs.length cs.length F⟩:=by
 unfold ZjT;rw [Zqo ω,Option.bind_some];have hl:=Zml (cs.length:Int) F;rw [Int.toNat_natCast] at hl;obtain ⟨⟨j,a0⟩,⟨h1,h,o⟩,r⟩:=ZeC (B:=Zk2 cs (tb cs.length F) cs) (fun k q=>q.1=k/\q.2=ofE cs.length k F/\(q.2.length:Int)<=64*k) (i:=0) (n:=cs.length) ω (s:=((0:Int),([]:List Zb))) ⟨rfl,rfl,by simp⟩ fun k q k0 k1 ⟨l,f,u⟩=>by
  obtain ⟨j,a0⟩:=q;dsimp only at l f u;subst l;have a2:=Zfu (F:=F) k0 k1;have a5:=Zh (B:=Zfy cs (tb cs.length F) j) (fun b=>(b,a0++rwE b F j)) (i:=j+1) (n:=cs.length) ω fun b y v=>by
   have c:=Zsc (F:=F) k0 k1 (show 0<=b by omega) v;have a7:=ZuX b F j;have a1:=ZDu (F:=F) (a:=j) (k:=b) ω;have a6:(a0++rwE b F j).length<=10000:=by rw [List.length_append];omega
   cases e:F j b with
   | true=>
    rw [e] at c;rw [if_pos ⟨by omega,e⟩] at a1;generalize tb (cs.length:Int) F=X at c hl a2 ⊢;rw [a1,<-List.append_assoc];generalize a0++rwE b F j=Y at a6 ⊢;simp (disch:=omega) only [pz,Zfy,c]
   | false=>
    rw [e] at c;rw [if_neg (by simp [e]),List.append_nil] at a1;generalize tb (cs.length:Int) F=X at c hl a2 ⊢;rw [a1];simp (disch:=omega) only [pz,Zfy,c]
  have w:(j+1,a0)=(fun b=>(b,a0++rwE b F j)) (j+1):=by
   show _=(_,_++_);rw [ZGt k0,List.append_nil]
  have a3:loop (Zfy cs (tb cs.length F) j) (j+1,a0)=some (.inl (j+1,ofE cs.length (j+1) F)):=by
   rw [w,a5];refine Zc ?_;rw [Ztu k0,<-f];simp (disch:=omega) only [pz,Zfy]
  refine ⟨(j+1,ofE cs.length (j+1) F),by simp (disch:=omega) only [pz,Zk2,a3],rfl,rfl,?_⟩;dsimp only;rw [Ztu k0,<-f,List.length_append];have:=ZuX (cs.length:Int) F j;omega
 dsimp only at h1 h o;rw [r];subst h1;rw [h];exact Zc (by simp (disch:=omega) only [pz,Zk2])
theorem ZBo {g:Za} (hg:ValidG g) {p:List Int} (hp:Vc.Perm p g.Colors.length):ZgJ g p=some (relab g p):=by
 unfold ZgJ;have a8:=hg.cl;have a9:=hg.el;have hl:=hp.len;have a3:gMake 8 (0:Int) (p.length:Int) (p.length:Int)=some (tabl g.Colors.length fun i=>if (p.idxOf i:Int)<0 then ix g.Colors (p.idxOf i:Int) else 0):=by
  rw [Zas ω ω ω,Int.toNat_natCast,ZrG];congr 2;omega
 rw [a3,Option.bind_some];have h1:=Zh (B:=Zk1 g p) (fun k=>(k,tabl g.Colors.length fun i=>if (p.idxOf i:Int)<k then ix g.Colors (p.idxOf i:Int) else 0)) (i:=0) (n:=g.Colors.length) ω fun k k0 k1=>by
  have hs:=Zri hp k0 k1;have hr:=hp.rng _ (Zl (xs:=p) k0 ω);have hX:(tabl (g.Colors.length:Int) fun i=>if (p.idxOf i:Int)<k then ix g.Colors (p.idxOf i:Int) else 0).length=g.Colors.length:=by rw [Zj];omega
  generalize (tabl (g.Colors.length:Int) fun i=>if (p.idxOf i:Int)<k then ix g.Colors (p.idxOf i:Int) else 0)=X at hs hX ⊢;simp (disch:=omega) only [pz,Zk1,hs]
 rw [h1,Zvn hp];have a1:(colM g p).length=g.Colors.length:=by rw [Zsl];omega
 have a0:=ZrJ (g:=⟨colM g p,[]⟩) (by show (colM g p).length<=64;omega) (by simp) (fun e he=>by simp at he);have a0:Zfh ⟨colM g p,[]⟩=some (tb g.Colors.length (adj ((g.Edges.take (0:Int).toNat).map (mvE p)))):=by
  rw [a0];show some (tb ((colM g p).length:Int) (adj []))=_;rw [a1];rfl
 have r:=Zh (B:=Zii g p (colM g p)) (fun k=>(k,tb g.Colors.length (adj ((g.Edges.take k.toNat).map (mvE p))))) (i:=0) (n:=g.Edges.length) ω fun k k0 k1=>by
  have s:=Zbx hg (Zl k0 k1);obtain ⟨x0,x1⟩:=hp.rng _ (Zl (xs:=p) (i:=(ix g.Edges k).A) ω ω);obtain ⟨f,j⟩:=hp.rng _ (Zl (xs:=p) (i:=(ix g.Edges k).B) ω ω);have hs:=Zsv (F:=adj ((g.Edges.take k.toNat).map (mvE p))) x0 x1 f j;have ht:(tb (g.Colors.length:Int) fun a b=>adj ((g.Edges.take k.toNat).map (mvE p)) a b||((ix p (ix g.Edges k).A==a&&ix p (ix g.Edges k).B==b)||(ix p (ix g.Edges k).A==b&&ix p (ix g.Edges k).B==a)))=tb g.Colors.length (adj ((g.Edges.take (k+1).toNat).map (mvE p))):=Zo4 fun a b _ _ _ _=>by
   rw [ZdK k0 k1];unfold adj;rw [List.any_append];simp [mvE]
  rw [ht] at hs;have o:=ZlI (F:=adj ((g.Edges.take k.toNat).map (mvE p))) x0 x1 f j;have l1:=Zml (g.Colors.length:Int) (adj ((g.Edges.take k.toNat).map (mvE p)));have l2:=Zfu (F:=adj ((g.Edges.take k.toNat).map (mvE p))) x0 x1;have u:(ix ((tb (g.Colors.length:Int) (adj ((g.Edges.take k.toNat).map (mvE p)))).set (ix p (ix g.Edges k).A).toNat ((ix (tb (g.Colors.length:Int) (adj ((g.Edges.take k.toNat).map (mvE p)))) (ix p (ix g.Edges k).A)).set (ix p (ix g.Edges k).B).toNat true)) (ix p (ix g.Edges k).B)).length=g.Colors.length:=by rw [o,Zfu f j];omega
  generalize tb (g.Colors.length:Int) (adj ((g.Edges.take k.toNat).map (mvE p)))=X at hs l1 l2 u ⊢;have v:(X.set (ix p (ix g.Edges k).A).toNat ((ix X (ix p (ix g.Edges k).A)).set (ix p (ix g.Edges k).B).toNat true)).length=g.Colors.length:=by rw [List.length_set];omega
  simp (disch:=omega) only [pz,Zii];rw [hs]
 have x:=ZAT (cs:=colM g p) (F:=adj (g.Edges.map (mvE p))) ω;rw [a1] at x;have hE:ofE (g.Colors.length:Int) g.Colors.length (adj (g.Edges.map (mvE p)))=srtE (g.Edges.map (mapE p)):=by
  refine Zj4 (Zxs _ _) fun z=>?_;rw [ZFb,Zs3,List.mem_map];constructor
  ·rintro ⟨_,_,l,e,he,h⟩;obtain ⟨d,c,rfl⟩:=List.mem_map.1 he;refine ⟨d,c,?_⟩;unfold mapE;have h:(ix p d.A=z.A/\ix p d.B=z.B)\/(ix p d.A=z.B/\ix p d.B=z.A):=h;cases z;simp only [Zb.mk.injEq];dsimp only at h l;omega
  ·rintro ⟨d,c,rfl⟩;have s:=Zbx hg c;have w:=hp.rng _ (Zl (xs:=p) (i:=d.A) ω ω);have r2:=hp.rng _ (Zl (xs:=p) (i:=d.B) ω ω);have a7:ix p d.A≠ix p d.B:=fun h=>by have:=ZmU hp.nd ω ω ω ω h;omega
   unfold mapE;refine ⟨by dsimp only;omega,by dsimp only;omega,by dsimp only;omega,mvE p d,List.mem_map_of_mem c,?_⟩;show (ix p d.A=min _ _/\ix p d.B=max _ _)\/(ix p d.A=max _ _/\ix p d.B=min _ _);omega
 rw [hE] at x;have l:loop (Zii g p (colM g p)) (0,tb g.Colors.length (adj ((g.Edges.take (0:Int).toNat).map (mvE p))))=some (.inr (relab g p)):=by
  rw [r,Int.toNat_natCast,List.take_length];exact Zc (by simp (disch:=omega) only [pz,Zii,x];rfl)
 exact Zc (by simp (disch:=omega) only [pz,Zk1,a0,l])
theorem ZtC {es:List Zb} {k:Int} (k0:0<=k) (k1:k<(es.length:Int)):flatE (es.take (k+1).toNat)=flatE (es.take k.toNat)++[(ix es k).A,(ix es k).B]:=by
 unfold flatE;rw [Zap k0 k1,List.flatMap_append];simp
theorem ZeE (es:List Zb):(flatE es).length=2*es.length:=by
 induction es with
 | nil=>rfl
 | cons e es a=>unfold flatE at *;rw [List.flatMap_cons,List.length_append,a];simp;omega
theorem Zq2 {g:Za} (j:g.Edges.length<=1000000):Zgy g=some (flatE g.Edges):=by
 unfold Zgy;have h1:=Zh (B:=ZlJ g) (fun k=>(flatE (g.Edges.take k.toNat),k)) (i:=0) (n:=g.Edges.length) ω fun k k0 k1=>by
  have h:=ZeE (g.Edges.take k.toNat);rw [List.length_take] at h;have e:gApp 8 (flatE (g.Edges.take k.toNat)) [(ix g.Edges k).A,(ix g.Edges k).B]=some (flatE (g.Edges.take (k+1).toNat)):=by
   rw [ZaQ (by simp;omega) (by simp;omega),ZtC k0 k1]
  simp (disch:=omega) only [pz,ZlJ,e]
 have a:(([]:List Int),(0:Int))=(fun k:Int=>(flatE (g.Edges.take k.toNat),k)) 0:=rfl;rw [a,h1,Int.toNat_natCast,List.take_length];exact Zc (by simp (disch:=omega) only [pz,ZlJ])
theorem ZuI {es:List Zb} (j:es.length<=1000000):ZgP es=some (flatE es):=by
 unfold ZgP;have h1:=Zh (B:=ZjK es) (fun k=>(flatE (es.take k.toNat),k)) (i:=0) (n:=es.length) ω fun k k0 k1=>by
  have h:=ZeE (es.take k.toNat);rw [List.length_take] at h;have e:gApp 8 (flatE (es.take k.toNat)) [(ix es k).A,(ix es k).B]=some (flatE (es.take (k+1).toNat)):=by
   rw [ZaQ (by simp;omega) (by simp;omega),ZtC k0 k1]
  simp (disch:=omega) only [pz,ZjK,e]
 have a:(([]:List Int),(0:Int))=(fun k:Int=>(flatE (es.take k.toNat),k)) 0:=rfl;rw [a,h1,Int.toNat_natCast,List.take_length];exact Zc (by simp (disch:=omega) only [pz,ZjK])
theorem Zyu {g h:Za} (j:g.Colors.length<=1000000) (h1:g.Edges.length<=1000000) (e:h.Edges.length<=1000000):ZhQ g h=some (cmpG g h):=by
 unfold ZhQ cmpG;have f:Za.mk g.Colors g.Edges=g:=rfl;have i:Za.mk h.Colors h.Edges=h:=rfl;have c1:=ZbM (a:=g.Colors) (b:=h.Colors) ω;have k:=ZeE g.Edges;have c2:=ZbM (a:=flatE g.Edges) (b:=flatE h.Edges) ω;have k1:=Zq2 (g:=g) h1;have k2:=Zq2 (g:=h) e;by_cases c:cmpL g.Colors h.Colors=0
 ·rw [if_pos c];simp (disch:=omega) only [pz,c1,f,i,k1,k2,c2]
 ·rw [if_neg c];simp (disch:=omega) only [pz,c1]
theorem ZH6 {g h:Za} (f:g.Colors.length<=1000000) (h1:g.Edges.length<=1000000) (e:h.Edges.length<=1000000):Zid g h=some (cmpG g h):=by
 unfold Zid cmpG;have c1:=Zbl (a:=g.Colors) (b:=h.Colors) ω;have i:=ZeE g.Edges;have c2:=Zbl (a:=flatE g.Edges) (b:=flatE h.Edges) ω;have k1:=ZuI (es:=g.Edges) h1;have k2:=ZuI (es:=h.Edges) e;by_cases c:cmpL g.Colors h.Colors=0
 ·rw [if_pos c];simp (disch:=omega) only [pz,c1,k1,k2,c2]
 ·rw [if_neg c];simp (disch:=omega) only [pz,c1]
def spS (g:Za) (near:List (List Int)) (B:Int) (s:CSt):ZA:=⟨g,near,s.best,s.perms,s.nodes,s.leaves,B,s.full⟩
def ipS (g:Za) (near:List (List Int)) (B:Int) (s:CSt):Zt:=⟨⟨B-s.nodes,s.full⟩,g,near,s.nodes,s.leaves,s.best,s.perms⟩
theorem Zm3 {g:Za} {p:List Int} {s:CSt} (h:s.perms=[]\/cmpG (relab g p) s.best<0):leafM g p s=⟨relab g p,[p],s.nodes,s.leaves+1,s.full⟩:=by
 unfold leafM;dsimp only;have a:(if s.perms=[] then (-1:Int) else cmpG (relab g p) s.best)<0:=by
  by_cases c:s.perms=[]
  ·rw [if_pos c];omega
  ·rw [if_neg c];exact h.resolve_left c
 rw [if_pos a,if_pos a]
theorem Zvv {g:Za} {p:List Int} {s:CSt} (h:s.perms≠[]) (a:cmpG (relab g p) s.best=0):leafM g p s=⟨s.best,s.perms++[p],s.nodes,s.leaves+1,s.full⟩:=by
 unfold leafM;dsimp only;rw [if_neg h,a];simp
theorem ZvM {g:Za} {p:List Int} {s:CSt} (h:s.perms≠[]) (a:0<cmpG (relab g p) s.best):leafM g p s=⟨s.best,s.perms,s.nodes,s.leaves+1,s.full⟩:=by
 unfold leafM;dsimp only;rw [if_neg h,if_neg ω,if_neg ω,if_neg ω]
theorem ZvF {g:Za} (hg:ValidG g) {s:CSt} (a:Bst g s) (h:s.perms≠[]):s.best.Edges.length<=512:=by
 obtain ⟨p,hp,e⟩:=a h;rw [e];have:=(ZmR hg hp).el;omega
section
variable {g:Za} {B:Int} (hg:ValidG g) (hB:B<=20000)
include hg hB
theorem ZHP {rf:ZA->List Int->Option ZA} {cells:List Int} {s:CSt} {K:Int} (hp:Vc.Perm cells g.Colors.length) (ht:tgt cells<0) (hK:K<=1000) (hi:CInv B K s) (i:Bst g s):
  q_spec_l22Find_run rf (spS g (nearM g) B s) cells=some (spS g (nearM g) B (leafM g cells s)):=by
 have a4:=hg.cl;have a7:=hg.el;have hl:=hp.len;have k:=hi.le;have l:=hi.pl;have o:=hi.nB;have r:=hi.n0;have w:=Zvs (cells:=cells) ω (fun x j=>(hp.rng x j).1);have hr:ZgJ (Za.mk g.Colors g.Edges) cells=some (relab g cells):=ZBo hg hp;have e:=ZmR hg hp;have a5:=e.cl;have a6:=e.el;have a0:=Zqo (p:=cells) ω;unfold q_spec_l22Find_run spS;dsimp only;by_cases u:s.perms=[]
 ·rw [Zm3 (.inl u)];have f:(s.perms.length:Int)=0:=by rw [u];rfl
  have a1:gApp 24 ([]:List (List Int)) [cells]=some [cells]:=rfl;simp (disch:=omega) only [pz,w,hr,Zdr,ZdY,a0,a1]
 ·have f:0<s.perms.length:=List.length_pos_iff.2 u;have a8:=ZvF hg i u;have a:ZhQ (Za.mk (relab g cells).Colors (relab g cells).Edges) (Za.mk s.best.Colors s.best.Edges)=some (cmpG (relab g cells) s.best):=Zyu (g:=relab g cells) (h:=s.best) ω ω ω;have a1:gApp 24 ([]:List (List Int)) [cells]=some [cells]:=rfl;rcases Int.lt_trichotomy (cmpG (relab g cells) s.best) 0 with c|c|c
  ·rw [Zm3 (.inr c)];simp (disch:=omega) only [pz,w,hr,Zdr,ZdY,a0,a,a1]
  ·rw [Zvv u c];simp (disch:=omega) only [pz,w,hr,Zdr,ZdY,a0,a,c]
  ·rw [ZvM u c];simp (disch:=omega) only [pz,w,hr,Zdr,ZdY,a0,a]
theorem Zx6 {cells:List Int} {s:CSt} {K:Int} (hp:Vc.Perm cells g.Colors.length) (hK:K<=1000) (hi:CInv B K s) (i:Bst g s):
  Zex (ipS g (nearM g) B s) cells=some (ipS g (nearM g) B (leafM g cells s)):=by
 have x:=hg.cl;have a2:=hg.el;have hl:=hp.len;have j:=hi.le;have k:=hi.pl;have l:=hi.nB;have o:=hi.n0;have w:ZgZ (Za.mk g.Colors g.Edges) cells=some (relab g cells):=ZEm hg hp;have e:=ZmR hg hp;have a0:=e.cl;have a1:=e.el;unfold Zex ipS;dsimp only;by_cases r:s.perms=[]
 ·rw [Zm3 (.inl r)];have f:(s.perms.length:Int)=0:=by rw [r];rfl
  have u:gApp 24 ([]:List (List Int)) [cells]=some [cells]:=rfl;simp (disch:=omega) only [pz,w,Zdh,ZdI,u]
 ·have f:0<s.perms.length:=List.length_pos_iff.2 r;have a3:=ZvF hg i r;have a:Zid (Za.mk (relab g cells).Colors (relab g cells).Edges) (Za.mk s.best.Colors s.best.Edges)=some (cmpG (relab g cells) s.best):=ZH6 (g:=relab g cells) (h:=s.best) ω ω ω;have u:gApp 24 ([]:List (List Int)) [cells]=some [cells]:=rfl;rcases Int.lt_trichotomy (cmpG (relab g cells) s.best) 0 with c|c|c
  ·rw [Zm3 (.inr c)];simp (disch:=omega) only [pz,w,Zdh,ZdI,a,u]
  ·rw [Zvv r c];simp (disch:=omega) only [pz,w,Zdh,ZdI,a,c]
  ·rw [ZvM r c];simp (disch:=omega) only [pz,w,Zdh,ZdI,a]
end
theorem ZhX {g:Za} {near:List (List Int)} {B:Int} {d:Nat} {cells:List Int}:∀ (vs:List Int) {s:CSt},s.full=true->vs.foldl (stepM g near B d cells) s=s
 | [],s,_=>rfl
 | v::vs,s,h=>by
  rw [List.foldl_cons];have:stepM g near B d cells s v=s:=by unfold stepM;rw [if_pos h]
  rw [this,ZhX vs h]
theorem ZuR {g:Za} {near:List (List Int)} {B:Int} {d:Nat} {cells:List Int} {s:CSt} {v:Int} (h:s.nodes=B):stepM g near B d cells s v={ s with full:=true }:=by
 unfold stepM;by_cases a:s.full=true
 ·rw [if_pos a];cases s;dsimp only at a;rw [a]
 ·rw [if_neg a,if_pos h]
theorem Zrn {g:Za} {near:List (List Int)} {B:Int} {d:Nat} {cells:List Int} {s:CSt} {v:Int} (h:¬ s.nodes=B) (a:s.full=false):stepM g near B d cells s v=srch g near B d (refN near (sgl cells v)) { s with nodes:=s.nodes+1 }:=by
 unfold stepM;rw [if_neg (by rw [a];simp),if_neg h]
theorem ZAv {n:Nat} {cells:List Int} {t k:Int} (k0:0<=k) (k1:k<(n:Int)):((idP (n:Int)).drop k.toNat).filter (fun v=>ix cells v==t)=(if ix cells k=t then [k] else [])++((idP (n:Int)).drop (k+1).toNat).filter (fun v=>ix cells v==t):=by
 rw [ZaB k0 (by rw [Zai];omega),ZcL k0 k1,List.filter_cons];by_cases c:ix cells k=t
 ·rw [if_pos c,if_pos (by simpa using c)];rfl
 ·rw [if_neg c,if_neg (by simpa using c)];rfl
section
variable {g:Za} {B:Int} (hg:ValidG g) (hB:B<=20000)
include hg hB
theorem Zt4:∀ (d m:Nat) (cells:List Int) (s:CSt) (K:Int),d<=m->Cel (nearM g).length cells->(nearM g).length<d+cnt cells->K<=1000->CInv B K s->Bst g s ->
  pn_spec_l22Find_run m (spS g (nearM g) B s) cells=some (spS g (nearM g) B (srch g (nearM g) B d cells s))
 | 0,m,cells,s,K,hm,u,hd,hK,hi,r=>by have:=ZdP cells;have:=u.len;omega
 | d+1,m,cells,s,K,hm,u,hd,hK,hi,r=>by
  obtain ⟨m',rfl⟩:∃ m',m=m'+1:=⟨m-1,by omega⟩
  have hN:=Zpe hg;have hn:=hN.n;have aj:=Zm0 g;have ah:=u.len;show q_spec_l22Find_run (pn_spec_l22Find_run m') _ _=_;rw [ZjG];have a0:∀ x∈cells,0<=x:=fun x hx=>(u.rng x hx).1;by_cases ht:tgt cells<0
  ·rw [if_pos ht];have ar:cells.Nodup:=by
    rcases Zcy a0 with ⟨_,h⟩|⟨h,_⟩
    ·exact h
    ·omega
   have hp:Vc.Perm cells g.Colors.length:=by rw [<-aj];exact u.perm ar
   exact ZHP hg hB hp ht hK hi r
  ·rw [if_neg ht];have au:=Zvs (cells:=cells) ω a0;have al:∀ j,0<=j->j<(cells.length:Int)->0<=ix cells j/\ix cells j<64:=fun j a b=>by
    have:=u.rng _ (Zl a b);omega
   have ax:∀ (y:Nat) (k:Int) (s:CSt),k+y=(cells.length:Int)->0<=k->CInv B K s->Bst g s->∀ (f:ZA),f.qg=g->f.qnear=nearM g ->
     loop (ZbH (pn_spec_l22Find_run m') f cells (tgt cells)) (k,s.nodes,s.leaves,B,s.full,s.best.Colors,s.best.Edges,s.perms)=some (spS g (nearM g) B ((((idP (cells.length:Int)).drop k.toNat).filter (fun v=>ix cells v==tgt cells)).foldl (stepM g (nearM g) B d cells) s)):=by
    intro y;induction y with
    | zero=>
     intro k s hk k0 hi r f l o;obtain rfl:k=(cells.length:Int):=ω;have e:(idP (cells.length:Int)).drop ((cells.length:Int)).toNat=[]:=List.drop_eq_nil_of_le (by rw [Zai];omega);rw [e];refine Zc ?_;unfold ZbH;dsimp only;rw [l,o];simp (disch:=omega) only [pz,];rfl
    | succ y ih=>
     intro k s hk k0 hi r f l o;have a1:k<(cells.length:Int):=ω;have a7:=ZAv (n:=cells.length) (cells:=cells) (t:=tgt cells) k0 a1;have i1:=hi.le;have i2:=hi.pl;have i3:=hi.nB;have i4:=hi.n0;by_cases ab:ix cells k=tgt cells
     ·rw [if_pos ab] at a7;rw [a7,List.singleton_append,List.foldl_cons];by_cases ag:s.nodes=B
      ·rw [ZuR ag,ZhX _ rfl];refine Zc ?_;unfold ZbH ZfK;dsimp only;rw [l,o];simp (disch:=omega) only [pz,];rfl
      ·cases hf:s.full with
       | true=>
        have aq:stepM g (nearM g) B d cells s k=s:=by unfold stepM;rw [if_pos hf]
        rw [aq,ZhX _ hf];refine Zc ?_;unfold ZbH ZfK;dsimp only;rw [l,o];simp (disch:=omega) only [pz,];unfold spS;rw [hf]
       | false=>
        rw [Zrn ag hf];have aw:k∈vts cells (tgt cells):=Zk3.2 ⟨⟨k0,a1⟩,ab⟩;have b2:=u.more ht aw;have ai:=ZhP cells k;have aa:Cel (nearM g).length (refN (nearM g) (sgl cells k)):=Cel.ref (by rw [ai,ah]);have a2:CInv B (K-1) { s with nodes:=s.nodes+1 }:=⟨by show s.leaves<=s.nodes+1+(K-1);omega,i2,by show 0<=s.nodes+1;omega,by show s.nodes+1<=B;omega⟩
        have ad:=Zt4 d m' (refN (nearM g) (sgl cells k)) { s with nodes:=s.nodes+1 } (K-1) ω aa ω ω a2 r;have a4:=Znb g (nearM g) B d (refN (nearM g) (sgl cells k)) _ _ a2;rw [show K-1+1=K by omega] at a4;have a8:=(Zlf aj B d (refN (nearM g) (sgl cells k)) { s with nodes:=s.nodes+1 } aa ω r).1;generalize srch g (nearM g) B d (refN (nearM g) (sgl cells k)) { s with nodes:=s.nodes+1 }=s1 at ad a4 a8 ⊢;have av:=Zh (B:=Zc8 (pn_spec_l22Find_run m') f cells k s.nodes s.leaves B s.best.Colors s.best.Edges s.perms s.full) (fun j=>(tabl j fun w=>if w=k then 2*ix cells w else 2*ix cells w+1,j)) (i:=0) (n:=cells.length) ω fun j j0 j1=>by
         obtain ⟨x0,x1⟩:=al j j0 j1;have ac:(tabl j fun w=>if w=k then 2*ix cells w else 2*ix cells w+1).length<=64:=by rw [Zj];omega
         have a6:(tabl (j+1) fun w=>if w=k then 2*ix cells w else 2*ix cells w+1)=_:=ZU j0;by_cases c:j=k
         ·rw [if_pos c] at a6;have hw:2*ix cells j+1-1=2*ix cells j:=ω;rw [a6];generalize (tabl j fun w=>if w=k then 2*ix cells w else 2*ix cells w+1)=X at ac ⊢;simp (disch:=omega) only [pz,Zc8,Zf9,hw]
         ·rw [if_neg c] at a6;rw [a6];generalize (tabl j fun w=>if w=k then 2*ix cells w else 2*ix cells w+1)=X at ac ⊢;simp (disch:=omega) only [pz,Zc8,Zf9]
        have e0:(([]:List Int),(0:Int))=(fun j:Int=>(tabl j fun w=>if w=k then 2*ix cells w else 2*ix cells w+1,j)) 0:=rfl;have ao:=Zv1 (c:=sgl cells k) hN (by rw [ai,ah]);have ak:loop (Zc8 (pn_spec_l22Find_run m') f cells k s.nodes s.leaves B s.best.Colors s.best.Edges s.perms s.full) (([]:List Int),0)=some (.inl (k+1,s1.nodes,s1.leaves,B,s1.full,s1.best.Colors,s1.best.Edges,s1.perms)):=by
         rw [e0,av];refine Zc ?_;show Zc8 _ _ _ _ _ _ _ _ _ _ _ (sgl cells k,(cells.length:Int))=_;have af:pn_spec_l22Find_run m' (ZA.mk (Za.mk g.Colors g.Edges) (nearM g) (Za.mk s.best.Colors s.best.Edges) s.perms (s.nodes+1) s.leaves B s.full) (refN (nearM g) (sgl cells k))=some (spS g (nearM g) B s1):=ad;unfold Zc8;dsimp only;rw [l,o];simp (disch:=omega) only [pz,ao,af];rfl
        have a9:ZbH (pn_spec_l22Find_run m') f cells (tgt cells) (k,s.nodes,s.leaves,B,s.full,s.best.Colors,s.best.Edges,s.perms)=some (.inl (k+1,s1.nodes,s1.leaves,B,s1.full,s1.best.Colors,s1.best.Edges,s1.perms)):=by
         have a5:=ak;rw [hf] at a5;unfold ZbH ZfK;dsimp only;simp (disch:=omega) only [pz,a5,hf]
        rw [<-hf,Zy a9];exact ih (k+1) s1 ω ω a4 a8 f l o
     ·rw [if_neg ab,List.nil_append] at a7;rw [a7];have a9:ZbH (pn_spec_l22Find_run m') f cells (tgt cells) (k,s.nodes,s.leaves,B,s.full,s.best.Colors,s.best.Edges,s.perms)=some (.inl (k+1,s.nodes,s.leaves,B,s.full,s.best.Colors,s.best.Edges,s.perms)):=by
       unfold ZbH;dsimp only;simp (disch:=omega) only [pz,]
      rw [Zy a9];exact ih (k+1) s ω ω hi r f l o
   have:=ax cells.length 0 s ω ω hi r (spS g (nearM g) B s) rfl rfl;unfold q_spec_l22Find_run;rw [au,Option.bind_some,dec_f ω];exact this
theorem Zu2:∀ (d m:Nat) (cells:List Int) (s:CSt) (K:Int),d<=m->Cel (nearM g).length cells->(nearM g).length<d+cnt cells->K<=1000->CInv B K s->Bst g s ->
  pn_impl_explorer_search m (ipS g (nearM g) B s) cells=some (ipS g (nearM g) B (srch g (nearM g) B d cells s))
 | 0,m,cells,s,K,hm,r,hd,hK,hi,u=>by have:=ZdP cells;have:=r.len;omega
 | d+1,m,cells,s,K,hm,r,hd,hK,hi,u=>by
  obtain ⟨m',rfl⟩:∃ m',m=m'+1:=⟨m-1,by omega⟩
  have hN:=Zpe hg;have hn:=hN.n;have al:=Zm0 g;have ai:=r.len;show q_impl_explorer_search (pn_impl_explorer_search m') _ _=_;rw [ZjG];have a2:∀ x∈cells,0<=x:=fun x hx=>(r.rng x hx).1;have a1:=ZA5 (cells:=cells) ω (fun x hx=>by have:=r.rng x hx;omega);by_cases ht:tgt cells<0
  ·rw [if_pos ht] at a1 ⊢;have au:cells.Nodup:=by
    rcases Zcy a2 with ⟨_,h⟩|⟨h,_⟩
    ·exact h
    ·omega
   have hp:Vc.Perm cells g.Colors.length:=by rw [<-al];exact r.perm au
   have ay:=Zx6 hg hB hp hK hi u;have ap:Zex (Zt.mk (Zac.mk (B-s.nodes) s.full) (Za.mk g.Colors g.Edges) (nearM g) s.nodes s.leaves (Za.mk s.best.Colors s.best.Edges) s.perms) cells=some (ipS g (nearM g) B (leafM g cells s)):=ay;unfold q_impl_explorer_search;rw [a1];show (Zex _ cells).bind _=_;unfold ipS;dsimp only;rw [ap];rfl
  ·rw [if_neg ht] at a1 ⊢;have am:∀ j,0<=j->j<(cells.length:Int)->0<=ix cells j/\ix cells j<64:=fun j a b=>by
    have:=r.rng _ (Zl a b);omega
   have b6:(vts cells (tgt cells)).length<=64:=by
    have:=List.length_filter_le (fun v=>ix cells v==tgt cells) (idP (cells.length:Int));rw [Zai] at this;unfold vts;omega
   have b2:(vts cells (tgt cells)).length≠0:=fun e=>ZvC a2 ht (List.length_eq_zero_iff.1 e);have a6:∀ v∈vts cells (tgt cells),v∈vts cells (tgt cells):=fun v h=>h;generalize hV:vts cells (tgt cells)=V at a1 b6 b2 a6 ⊢;have a6:∀ v∈V,v∈vts cells (tgt cells):=by rw [hV];exact a6
   have aw:∀ (m2:Nat) (k:Int) (s:CSt),k+m2=(V.length:Int)->0<=k->CInv B K s->Bst g s->∀ (o:Zt),o.qgraph=g->o.qlists=nearM g ->
     loop (Zco (pn_impl_explorer_search m') o cells V) (k,B-s.nodes,s.full,s.nodes,s.leaves,s.best.Colors,s.best.Edges,s.perms)=some (ipS g (nearM g) B ((V.drop k.toNat).foldl (stepM g (nearM g) B d cells) s)):=by
    intro m2;induction m2 with
    | zero=>
     intro k s hk k0 hi u o f l;obtain rfl:k=(V.length:Int):=ω;have e:V.drop ((V.length:Int)).toNat=[]:=List.drop_eq_nil_of_le ω;rw [e];refine Zc ?_;unfold Zco;dsimp only;rw [f,l];simp (disch:=omega) only [pz,];rfl
    | succ m2 ih=>
     intro k s hk k0 hi u o f l;have a3:k<(V.length:Int):=ω;have y:=hi.le;have i2:=hi.pl;have i3:=hi.nB;have i4:=hi.n0;rw [ZaB k0 a3,List.foldl_cons];have a7:=a6 _ (Zl k0 a3);generalize hv:ix V k=v at a7 ⊢;obtain ⟨⟨v0,v1⟩,_⟩:=Zk3.1 a7;cases hf:s.full with
     | true=>
      have b0:stepM g (nearM g) B d cells s v=s:=by unfold stepM;rw [if_pos hf]
      rw [b0,ZhX _ hf];refine Zc ?_;unfold Zco;dsimp only;rw [f,l];simp (disch:=omega) only [pz,];unfold ipS;rw [hf]
     | false=>
      by_cases ah:s.nodes=B
      ·rw [ZuR ah,ZhX _ rfl];refine Zc ?_;unfold Zco ZlU;dsimp only;rw [f,l];simp (disch:=omega) only [pz,];rfl
      ·rw [Zrn ah hf];have bb:=r.more ht a7;have aj:=ZhP cells v;have aa:Cel (nearM g).length (refN (nearM g) (sgl cells v)):=Cel.ref (by rw [aj,ai]);have a4:CInv B (K-1) { s with nodes:=s.nodes+1 }:=⟨by show s.leaves<=s.nodes+1+(K-1);omega,i2,by show 0<=s.nodes+1;omega,by show s.nodes+1<=B;omega⟩
       have a8:=Zu2 d m' (refN (nearM g) (sgl cells v)) { s with nodes:=s.nodes+1 } (K-1) ω aa ω ω a4 u;have a5:=Znb g (nearM g) B d (refN (nearM g) (sgl cells v)) _ _ a4;rw [show K-1+1=K by omega] at a5;have a9:=(Zlf al B d (refN (nearM g) (sgl cells v)) { s with nodes:=s.nodes+1 } aa ω u).1;generalize srch g (nearM g) B d (refN (nearM g) (sgl cells v)) { s with nodes:=s.nodes+1 }=s1 at a8 a5 a9 ⊢;have av:=Zh (B:=ZeG (pn_impl_explorer_search m') o cells k s.nodes s.leaves s.best.Colors s.best.Edges s.perms v (B-s.nodes-1) false) (fun j=>(j,tabl cells.length fun w=>if w<j then 2*ix cells w+1 else 0)) (i:=0) (n:=cells.length) ω fun j j0 j1=>by
        obtain ⟨x0,x1⟩:=am j j0 j1;have hset:(tabl cells.length fun w=>if w<j then 2*ix cells w+1 else 0).set j.toNat (2*ix cells j+1)=tabl cells.length fun w=>if w<j+1 then 2*ix cells w+1 else 0:=by
         refine Zaj j0 j1 (fun i i0 y hi=>?_) ?_
         ·by_cases c:i<j
          ·rw [if_pos c,if_pos ω]
          ·rw [if_neg c,if_neg ω]
         ·rw [if_pos ω]
        have hX:(tabl (cells.length:Int) fun w=>if w<j then 2*ix cells w+1 else 0).length=cells.length:=by rw [Zj];omega
        generalize (tabl (cells.length:Int) fun w=>if w<j then 2*ix cells w+1 else 0)=X at hset hX ⊢;simp (disch:=omega) only [pz,ZeG,hset]
       have b1:gMake 8 (0:Int) (cells.length:Int) (cells.length:Int)=some (tabl cells.length fun w=>if w<0 then 2*ix cells w+1 else 0):=by
        rw [Zas ω ω ω,Int.toNat_natCast];congr 1;refine ZaC (by rw [List.length_replicate,Zj];omega) fun i i0 y=>?_;rw [List.length_replicate] at y;rw [Zci i0 ω,ZG i0 ω,if_neg ω]
       have hS:(tabl cells.length fun w=>if w<(cells.length:Int) then 2*ix cells w+1 else 0).set v.toNat (2*ix cells v+1-1)=sgl cells v:=by
        unfold sgl;refine Zaj v0 v1 (fun i i0 y hi=>?_) ?_
        ·rw [if_neg hi,if_pos y]
        ·rw [if_pos rfl];omega
       have ak:ix (tabl cells.length fun w=>if w<(cells.length:Int) then 2*ix cells w+1 else 0) v=2*ix cells v+1:=by rw [ZG v0 v1,if_pos v1]
       have hX:(tabl (cells.length:Int) fun w=>if w<(cells.length:Int) then 2*ix cells w+1 else 0).length=cells.length:=by rw [Zj];omega
       obtain ⟨ab,ac⟩:=am v v0 v1;have az:=Zwu (c:=sgl cells v) hN (by rw [aj,ai]);have aq:loop (ZeG (pn_impl_explorer_search m') o cells k s.nodes s.leaves s.best.Colors s.best.Edges s.perms v (B-s.nodes-1) false) (0,tabl cells.length fun w=>if w<0 then 2*ix cells w+1 else 0)=some (.inl (k+1,B-s1.nodes,s1.full,s1.nodes,s1.leaves,s1.best.Colors,s1.best.Edges,s1.perms)):=by
        rw [av];refine Zc ?_;have ad:pn_impl_explorer_search m' (Zt.mk (Zac.mk (B-s.nodes-1) false) (Za.mk g.Colors g.Edges) (nearM g) (s.nodes+1) s.leaves (Za.mk s.best.Colors s.best.Edges) s.perms) (refN (nearM g) (sgl cells v))=some (ipS g (nearM g) B s1):=by
         rw [<-a8];unfold ipS;rw [<-hf,show B-s.nodes-1=B-(s.nodes+1) by omega]
        generalize (tabl (cells.length:Int) fun w=>if w<(cells.length:Int) then 2*ix cells w+1 else 0)=X at hS ak hX ⊢;unfold ZeG;dsimp only;rw [f,l];simp (disch:=omega) only [pz,ak,hS,az,ad];rfl
       have b4:Zco (pn_impl_explorer_search m') o cells V (k,B-s.nodes,false,s.nodes,s.leaves,s.best.Colors,s.best.Edges,s.perms)=some (.inl (k+1,B-s1.nodes,s1.full,s1.nodes,s1.leaves,s1.best.Colors,s1.best.Edges,s1.perms)):=by
        unfold Zco ZlU ZpD;dsimp only;simp (disch:=omega) only [pz,hv,b1,aq]
       rw [Zy b4];exact ih (k+1) s1 ω ω a5 a9 o f l
   have:=aw V.length 0 s ω ω hi u (ipS g (nearM g) B s) rfl rfl;unfold q_impl_explorer_search;rw [a1,Option.bind_some,beq_f ω];exact this
end
end Go.Proofs.YtdmledeildfidaaGreatDoor
