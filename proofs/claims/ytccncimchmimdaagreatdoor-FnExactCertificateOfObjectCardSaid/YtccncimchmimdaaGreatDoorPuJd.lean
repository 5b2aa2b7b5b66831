import Derived.Test.YtccncimchmimdaaGreatDoorPuJa
import Derived.Test.YtccncimchmimdaaGreatDoorPuEv
import Derived.Test.YtccncimchmimdaaGreatDoorCeFns
namespace Go.Proofs.YtccncimchmimdaaGreatDoor
open Go Go.Vc
set_option linter.unusedSimpArgs false
set_option linter.unusedVariables false
def qd (p a:Int):Nat->Int
 | 0=>a
 | i+1=>qd p a i/p
def pwN (p:Int):Nat->Int
 | 0=>1
 | i+1=>pwN p i*p
def dig (p:Int) (k:Int) (a:Int):List Int:=tabl k fun j=>qd p a j.toNat%p
def nmN (p:Int) (xs:List Int):Nat->Int
 | 0=>0
 | m+1=>nmN p xs m*p+ix xs ((xs.length:Int)-1-(m:Int))
def nm (p:Int) (xs:List Int):Int:=nmN p xs xs.length
def axAt (p c:Int) (ws:List Int) (off:Int) (xs:List Int):List Int:=tabl xs.length fun i=>if off<=i/\i<off+(ws.length:Int) then (ix xs i+c*ix ws (i-off))%p else ix xs i
def cnvN (p:Int) (as bs xs:List Int):Nat->List Int
 | 0=>xs
 | i+1=>axAt p (ix as (i:Int)) bs (i:Int) (cnvN p as bs xs i)
def rstN (p:Int) (poly:List Int) (xs:List Int):Nat->List Int
 | 0=>xs
 | m+1=>axAt p (p-ix (rstN p poly xs m) ((xs.length:Int)-1-(m:Int))) poly ((xs.length:Int)-1-(m:Int)-((poly.length:Int)-1)) (rstN p poly xs m)
def In (p:Int) (xs:List Int):Prop:=∀ i,0<=i->i<(xs.length:Int)->0<=ix xs i/\ix xs i<p
theorem Zge {p a:Int} (g:0<=a) (hp:2<=p):∀ i:Nat,0<=qd p a i/\qd p a i<=a
 | 0=>⟨g,Int.le_refl _⟩
 | i+1=>by
  obtain ⟨b,c⟩:=Zge g hp i
  have e:0<=qd p a i/p:=Int.ediv_nonneg b ω
  have f:qd p a i/p<=qd p a i:=Int.ediv_le_self _ b
  exact ⟨e,Int.le_trans f c⟩
theorem ZrE {p a:Int} {i:Int} (h:0<=i):qd p a (i+1).toNat=qd p a i.toNat/p:=by
 rw [show (i+1).toNat=i.toNat+1 by omega];rfl
theorem ZaF {p k a:Int} (h:0<=k):((dig p k a).length:Int)=k:=by unfold dig;rw [Zn];omega
theorem ZbQ {p k a:Int} (hp:2<=p):In p (dig p k a):=fun i c b=>by
 unfold dig at b ⊢
 rw [Zn] at b
 rw [ZM c ω]
 exact ⟨Int.emod_nonneg _ ω,Int.emod_lt_of_pos _ ω⟩
theorem Zl7 {p a k:Int} (x:0<=a) (r:a<=4611686018427387904) (hp:2<=p) (s:p<=64) (hk:0<=k) (t:k<=64):Za1 a p k=some (dig p k a):=by
 unfold Za1
 have y:=Zm (B:=Zdp p) (fun i=>(qd p a i.toNat,k-i,tabl i fun j=>qd p a j.toNat%p)) (i:=0) (n:=k) hk fun i u v=>by
  obtain ⟨c,w⟩:=Zge x hp i.toNat
  have f:=Int.tmod_eq_emod_of_nonneg (b:=p) c
  have g:=Int.tdiv_eq_ediv_of_nonneg (b:=p) c
  obtain ⟨h,l⟩:=Zge x hp (i.toNat+1)
  have hl:(tabl i fun j=>qd p a j.toNat%p).length=i.toNat:=Zn
  have e:k-(i+1)=k-i-1:=ω
  have a2:0<=qd p a i.toNat/p:=h
  have a3:qd p a i.toNat/p<=a:=l
  simp (disch:=omega) only [pz,Zdp,f,g,gApp1,hl,ZrE,ZY,e]
 have o:(a,k,([]:List Int))=(fun i:Int=>(qd p a i.toNat,k-i,tabl i fun j=>qd p a j.toNat%p)) 0:=by simp [qd,ZGy]
 rw [o,y]
 refine Ze ?_
 simp (disch:=omega) only [pz,Zdp,Int.sub_self]
 rfl
theorem ZQ {α:Type} {n:Int} {f g:Int->α} (h:∀ i,0<=i->i<n->f i=g i):tabl n f=tabl n g:=by
 unfold tabl
 apply List.map_congr_left
 intro j a
 rw [List.mem_range] at a
 exact h j ω ω
theorem Zah {α:Type} [Inhabited α] {n:Int} {f g:Int->α} {k:Int} (b:0<=k) (c:k<n) (j:∀ i,0<=i->i<n->i≠k->g i=f i) {y:α} (l:y=g k):(tabl n f).set k.toNat y=tabl n g:=by
 apply ZaG
 ·rw [List.length_set,Zn,Zn]
 ·intro i a e
  rw [List.length_set,Zn] at e
  by_cases h:k=i
  ·subst h
   rw [Zdr b (by rw [Zn];omega),ZM b c,l]
  ·rw [ZjB b a h,ZM a ω,ZM a ω,j i a ω ω]
theorem Zbl {α:Type} [Inhabited α] (xs:List α):tabl xs.length (fun i=>ix xs i)=xs:=by
 apply ZaG
 ·rw [Zn];omega
 ·intro i a b
  rw [Zn] at b
  rw [ZM a ω]
theorem ZfT {α:Type} [Inhabited α] {n:Int} {z:α}:List.replicate n.toNat z=tabl n fun _=>z:=by
 apply ZaG
 ·rw [Zn,List.length_replicate]
 ·intro i a b
  rw [List.length_replicate] at b
  rw [ZM a ω,Zce a ω]
theorem ZjA {p a k:Int} (ha:0<=a) (w:a<=4611686018427387904) (hp:2<=p) (x:p<=64) (hk:0<=k) (y:k<=64):ZaS a p k=some (dig p k a):=by
 unfold ZaS
 rw [Zav hk ω ω]
 show loop (ZcC p (List.replicate k.toNat 0)) (a,0,List.replicate k.toNat 0)=_
 have a2:=Zm (B:=ZcC p (List.replicate k.toNat 0)) (fun i=>(qd p a i.toNat,i,tabl k fun j=>if j<i then qd p a j.toNat%p else 0)) (i:=0) (n:=k) hk fun i g h=>by
  obtain ⟨e,g2⟩:=Zge ha hp i.toNat
  have l:=Int.tmod_eq_emod_of_nonneg (b:=p) e
  have o:=Int.tdiv_eq_ediv_of_nonneg (b:=p) e
  obtain ⟨r,s⟩:=Zge ha hp (i.toNat+1)
  have hl:(tabl k fun j=>if j<i then qd p a j.toNat%p else 0).length=k.toNat:=Zn
  have c:(List.replicate k.toNat (0:Int)).length=k.toNat:=List.length_replicate
  have a5:0<=qd p a i.toNat/p:=r
  have a6:qd p a i.toNat/p<=a:=s
  have hset:(tabl k fun j=>if j<i then qd p a j.toNat%p else 0).set i.toNat (qd p a i.toNat%p)=tabl k fun j=>if j<i+1 then qd p a j.toNat%p else 0:=by
   apply Zah g h
   ·intro j t f j2
    by_cases hj:j<i
    ·rw [if_pos hj,if_pos ω]
    ·rw [if_neg hj,if_neg ω]
   ·rw [if_pos ω]
  simp (disch:=omega) only [pz,ZcC,l,o,hl,c,ZrE,hset]
 have u:(a,(0:Int),List.replicate k.toNat (0:Int))=(fun i:Int=>(qd p a i.toNat,i,tabl k fun j=>if j<i then qd p a j.toNat%p else 0)) 0:=by
  show _=(a,(0:Int),_)
  rw [ZfT]
  congr 2
 rw [u,a2]
 refine Ze ?_
 have c:(List.replicate k.toNat (0:Int)).length=k.toNat:=List.length_replicate
 have v:(tabl k fun j=>if j<k then qd p a j.toNat%p else 0)=dig p k a:=by
  unfold dig
  exact ZQ fun j t f=>by rw [if_pos f]
 simp (disch:=omega) only [pz,ZcC,c,v]
theorem Zbf {p:Int} (hp:2<=p):∀ m:Nat,1<=pwN p m
 | 0=>Int.le_refl _
 | m+1=>by
  have h:=Zbf hp m
  have:1*2<=pwN p m*p:=Int.mul_le_mul h hp ω ω
  show 1<=pwN p m*p
  omega
theorem Zlj {p:Int} (hp:2<=p) {m:Nat}:∀ d:Nat,pwN p m<=pwN p (m+d)
 | 0=>Int.le_refl _
 | d+1=>by
  have h:=Zlj (m:=m) hp d
  have a:=Zbf hp (m+d)
  have:pwN p (m+d)*1<=pwN p (m+d)*p:=Int.mul_le_mul_of_nonneg_left ω ω
  show _<=pwN p (m+d)*p
  omega
theorem ZlG {p:Int} {xs:List Int} (hp:2<=p) (a:In p xs):∀ m:Nat,m<=xs.length->0<=nmN p xs m/\nmN p xs m<pwN p m
 | 0,_=>⟨Int.le_refl _,by show (0:Int)<1;omega⟩
 | m+1,hm=>by
  obtain ⟨b,e⟩:=ZlG hp a m ω
  obtain ⟨f,g⟩:=a ((xs.length:Int)-1-m) ω ω
  have h:0<=nmN p xs m*p:=Int.mul_nonneg b ω
  have c:(nmN p xs m+1)*p<=pwN p m*p:=Int.mul_le_mul_of_nonneg_right ω ω
  rw [Int.add_mul,Int.one_mul] at c
  refine ⟨?_,?_⟩
  ·show 0<=nmN p xs m*p+ix xs ((xs.length:Int)-1-(m:Int))
   omega
  ·show nmN p xs m*p+ix xs ((xs.length:Int)-1-(m:Int))<pwN p m*p
   omega
theorem Zvz {p:Int} {xs:List Int} (hp:2<=p) (h:p<=64) (a:In p xs) (hl:xs.length<=64) (y:pwN p xs.length<=64):Za6 xs p=some (nm p xs):=by
 unfold Za6
 have x:=Zm (B:=Zey xs p) (fun m=>(nmN p xs m.toNat,(xs.length:Int)-1-m)) (i:=0) (n:=xs.length) ω fun m j k=>by
  obtain ⟨c,l⟩:=ZlG hp a m.toNat ω
  obtain ⟨o,r⟩:=ZlG hp a (m.toNat+1) ω
  have e:=Zlj hp (m:=m.toNat+1) (xs.length-(m.toNat+1))
  rw [show m.toNat+1+(xs.length-(m.toNat+1))=xs.length by omega] at e
  have w:nmN p xs (m.toNat+1)=nmN p xs m.toNat*p+ix xs ((xs.length:Int)-1-(m.toNat:Int)):=rfl
  rw [show (m.toNat:Int)=m by omega] at w
  have es:(m+1).toNat=m.toNat+1:=ω
  have s:0<=nmN p xs m.toNat*p:=Int.mul_nonneg c ω
  obtain ⟨t,u⟩:=a ((xs.length:Int)-1-m) ω ω
  have b:(xs.length:Int)-1-(m+1)=(xs.length:Int)-1-m-1:=ω
  simp (disch:=omega) only [pz,Zey,es,w,b]
 have f:((0:Int),IntKind.i64.wrap ((xs.length:Int)-1))=(fun m:Int=>(nmN p xs m.toNat,(xs.length:Int)-1-m)) 0:=by
  show _=((0:Int),_)
  rw [wr64 ω ω]
  simp
 rw [f,x]
 refine Ze ?_
 have g:(xs.length:Int)-1-(xs.length:Int)=-1:=ω
 have b:(xs.length:Int).toNat=xs.length:=ω
 simp (disch:=omega) only [pz,Zey,g,b]
 rfl
theorem Zrz (xs:List Int) (p:Int):ZiS xs p=Za6 xs p:=rfl
theorem Zbb {p c off:Int} {ws xs:List Int}:(axAt p c ws off xs).length=xs.length:=by unfold axAt;rw [Zn];omega
theorem ZkC {p c off:Int} {ws xs:List Int} (hp:2<=p) (e:In p xs):In p (axAt p c ws off xs):=fun i a b=>by
 rw [Zbb] at b
 unfold axAt
 rw [ZM a ω]
 split
 ·exact ⟨Int.emod_nonneg _ ω,Int.emod_lt_of_pos _ ω⟩
 ·exact e i a b
theorem Zgj {ρ:Type} {B:Int×List Int->Option ((Int×List Int) ⊕ ρ)} {p c off:Int} {ws xs:List Int} (k:0<=off) (l:off+(ws.length:Int)<=xs.length)
  (hs:∀ j r,0<=j->j<(ws.length:Int)->r.length=xs.length->ix r (off+j)=ix xs (off+j)->B (j,r)=some (.inl (j+1,r.set (off+j).toNat ((ix xs (off+j)+c*ix ws j)%p)))):
  loop B (0,xs)=loop B ((ws.length:Int),axAt p c ws off xs):=by
 have u:=Zm (B:=B) (fun j=>(j,tabl xs.length fun i=>if off<=i/\i<off+j then (ix xs i+c*ix ws (i-off))%p else ix xs i)) (i:=0) (n:=ws.length) ω fun j a b=>by
  show B (j,_)=_
  rw [hs j _ a b (by rw [Zn];omega) (by rw [ZM ω ω,if_neg ω])]
  congr 3
  apply Zah ω ω
  ·intro i e f o
   by_cases h:off<=i/\i<off+j
   ·rw [if_pos h,if_pos ω]
   ·rw [if_neg h,if_neg ω]
  ·rw [if_pos ω,show off+j-off=j by omega]
 have g:((0:Int),xs)=(fun j:Int=>(j,tabl xs.length fun i=>if off<=i/\i<off+j then (ix xs i+c*ix ws (i-off))%p else ix xs i)) 0:=by
  show _=((0:Int),_)
  congr 1
  refine (Zbl xs).symm.trans (ZQ fun i e f=>?_)
  rw [if_neg ω]
 rw [g,u]
 rfl
structure Fd (f:Zf):Prop where
 p2:2<=f.Prime
 p64:f.Prime<=64
 k1:1<=f.Degree
 k6:f.Degree<=6
 pl:(f.Poly.length:Int)=f.Degree+1
 mon:ix f.Poly f.Degree=1
 rng:In f.Prime f.Poly
 w64:pwN f.Prime f.Degree.toNat<=64
def sumA (f:Zf) (a b c:Int):Int:=nm f.Prime (axAt f.Prime c (dig f.Prime f.Degree b) 0 (dig f.Prime f.Degree a))
theorem ZhZ {a b p:Int} (e:0<=a) (f:a<=p) (c:0<=b) (g:b<=p) (hp:p<=64):0<=a*b/\a*b<=4096:=by
 refine ⟨Int.mul_nonneg e c,?_⟩
 have:=Int.mul_le_mul (Int.le_trans f hp) (Int.le_trans g hp) c ω
 omega
theorem Zvp {f:Zf} (e:Fd f) (a b c:Int):Za6 (axAt f.Prime c (dig f.Prime f.Degree b) 0 (dig f.Prime f.Degree a)) f.Prime=some (sumA f a b c):=by
 have:=e.p2;have:=e.p64;have:=e.k1;have:=e.k6
 have g:=ZaF (p:=f.Prime) (k:=f.Degree) (a:=a) ω
 refine Zvz ω ω (ZkC ω (ZbQ ω)) (by rw [Zbb];omega) ?_
 rw [Zbb,show (dig f.Prime f.Degree a).length=f.Degree.toNat by omega]
 exact e.w64
theorem Zsv {f:Zf} (hf:Fd f) {a b c:Int} (ha:0<=a) (r:a<=4096) (h:0<=b) (s:b<=4096) (i:0<=c) (e:c<=f.Prime):ZfV f a b c=some (sumA f a b c):=by
 have:=hf.p2;have:=hf.p64;have:=hf.k1;have:=hf.k6
 have a3:=ZaF (p:=f.Prime) (k:=f.Degree) (a:=a) ω
 have a4:=ZaF (p:=f.Prime) (k:=f.Degree) (a:=b) ω
 unfold ZfV
 rw [Zl7 ha ω ω ω ω ω,Zl7 h ω ω ω ω ω]
 show loop (ZgL f c (dig f.Prime f.Degree b)) (0,dig f.Prime f.Degree a)=_
 rw [Zgj (p:=f.Prime) (c:=c) (off:=0) (ws:=dig f.Prime f.Degree b) ω ω fun j ys g t hy he=>by
  rw [Int.zero_add] at he ⊢
  obtain ⟨u,v⟩:=ZbQ (p:=f.Prime) (k:=f.Degree) (a:=a) ω j g ω
  obtain ⟨l,w⟩:=ZbQ (p:=f.Prime) (k:=f.Degree) (a:=b) ω j g ω
  obtain ⟨x,y⟩:=ZhZ i e l ω hf.p64
  have o:=Int.tmod_eq_emod_of_nonneg (b:=f.Prime) (a:=ix (dig f.Prime f.Degree a) j+c*ix (dig f.Prime f.Degree b) j) ω
  simp (disch:=omega) only [pz,ZgL,he,o]]
 refine Ze ?_
 simp (disch:=omega) only [pz,ZgL,Zbb,Zvp hf a b c]
theorem ZAz {x y p:Int} (a:0<=x) (b:0<=y) (hp:2<=p) (c:y<p):(x+-1*y+p)%p=(x+(p-1)*y)%p:=by
 have:x+(p-1)*y=(x+-1*y+p)+p*(y-1):=by
  rw [Int.sub_mul,Int.mul_sub,Int.one_mul];omega
 rw [this,Int.add_mul_emod_self_left]
theorem Zuz {f:Zf} (y:Fd f) {a b c s:Int} (ha:0<=a) (u:a<=4096) (g:0<=b) (v:b<=4096) (hs:(s=1/\c=1)\/(s=-1/\c=f.Prime-1)):Zg5 f a b s=some (sumA f a b c):=by
 have:=y.p2;have:=y.p64;have:=y.k1;have:=y.k6
 have a2:=ZaF (p:=f.Prime) (k:=f.Degree) (a:=a) ω
 have a3:=ZaF (p:=f.Prime) (k:=f.Degree) (a:=b) ω
 unfold Zg5
 rw [ZjA ha ω ω ω ω ω,ZjA g ω ω ω ω ω]
 show loop (Zfh f s (dig f.Prime f.Degree a) (dig f.Prime f.Degree b)) (0,dig f.Prime f.Degree a)=_
 rw [Zgj (p:=f.Prime) (c:=c) (off:=0) (ws:=dig f.Prime f.Degree b) ω ω fun j ys e w hy he=>by
  rw [Int.zero_add] at he ⊢
  obtain ⟨i,x⟩:=ZbQ (p:=f.Prime) (k:=f.Degree) (a:=a) ω j e ω
  obtain ⟨l,o⟩:=ZbQ (p:=f.Prime) (k:=f.Degree) (a:=b) ω j e ω
  have hm:-64<=s*ix (dig f.Prime f.Degree b) j/\s*ix (dig f.Prime f.Degree b) j<=64/\0<=ix (dig f.Prime f.Degree a) j+s*ix (dig f.Prime f.Degree b) j+f.Prime:=by
   rcases hs with ⟨h,_⟩|⟨h,_⟩<;>subst h<;>omega
  have r:=Int.tmod_eq_emod_of_nonneg (b:=f.Prime) (a:=ix (dig f.Prime f.Degree a) j+s*ix (dig f.Prime f.Degree b) j+f.Prime) ω
  have t:(ix (dig f.Prime f.Degree a) j+s*ix (dig f.Prime f.Degree b) j+f.Prime)%f.Prime=(ix (dig f.Prime f.Degree a) j+c*ix (dig f.Prime f.Degree b) j)%f.Prime:=by
   rcases hs with ⟨h,h'⟩|⟨h,h'⟩<;>subst h<;>subst h'
   ·rw [Int.add_emod_right]
   ·exact ZAz i l ω o
  simp (disch:=omega) only [pz,Zfh,he,r,t]]
 refine Ze ?_
 simp (disch:=omega) only [pz,Zfh,Zbb,Zrz,Zvp y a b c]
theorem Zr8 {xs:List Int} (h:(xs.length:Int)<=1048576):ZaX xs=some xs:=by
 unfold ZaX
 rw [ZaZ (by simp;omega) (by simp;omega)]
 rfl
theorem ZbS {p:Int} {poly xs:List Int}:∀ m,(rstN p poly xs m).length=xs.length
 | 0=>rfl
 | m+1=>by show (axAt _ _ _ _ _).length=_;rw [Zbb,ZbS m]
theorem Zjr {p:Int} {poly xs:List Int} (hp:2<=p) (a:In p xs):∀ m,In p (rstN p poly xs m)
 | 0=>a
 | m+1=>ZkC hp (Zjr hp a m)
theorem ZrA {p:Int} {poly xs:List Int} {m:Int} (h:0<=m):rstN p poly xs (m+1).toNat=axAt p (p-ix (rstN p poly xs m.toNat) ((xs.length:Int)-1-m)) poly ((xs.length:Int)-1-m-((poly.length:Int)-1)) (rstN p poly xs m.toNat):=by
 rw [show (m+1).toNat=m.toNat+1 by omega]
 show axAt _ _ _ _ _=_
 rw [show (m.toNat:Int)=m by omega]
theorem Zzl {poly g:List Int} (r:(g.length:Int)<=1048576) (o:1<=(poly.length:Int)) (h:(poly.length:Int)-1<=g.length):loop (ρ:=(Int×List Int) ⊕ List Int) (Zcn poly) g=some (.inr (g.take ((poly.length:Int)-1).toNat)):=by
 have l:=Zm (B:=Zcn poly) (fun j=>g.take ((g.length:Int)-j).toNat) (i:=0) (n:=(g.length:Int)-((poly.length:Int)-1)) ω fun j c f=>by
  have k:(g.take ((g.length:Int)-j).toNat).length=((g.length:Int)-j).toNat:=by rw [List.length_take];omega
  have e:(List.take ((((g.length:Int)-j).toNat:Int)-1).toNat (g.take ((g.length:Int)-j).toNat)).drop (0:Int).toNat=g.take ((g.length:Int)-(j+1)).toNat:=by
   rw [show (0:Int).toNat=0 from rfl,List.drop_zero,List.take_take]
   congr 1
   omega
  simp (disch:=omega) only [pz,Zcn,k,Zb4,e]
 have a:g=(fun j:Int=>g.take ((g.length:Int)-j).toNat) 0:=by simp
 conv=>lhs;rw [a]
 rw [l]
 refine Ze ?_
 have b:(g.length:Int)-((g.length:Int)-((poly.length:Int)-1))=(poly.length:Int)-1:=ω
 have k:(g.take ((poly.length:Int)-1).toNat).length=((poly.length:Int)-1).toNat:=by rw [List.length_take];omega
 simp (disch:=omega) only [pz,Zcn,b,k]
theorem Zzp {p y:Int} {poly ys:List Int} (hp:2<=p) (f:p<=64) (hP:In p poly) (hy:In p ys) (hl:(ys.length:Int)<=4096) (r:1<=(poly.length:Int)) (s:(poly.length:Int)-1<=y) (g:y<ys.length):
  ZbB poly p (y,ys)=some (.inl (y-1,axAt p (p-ix ys y) poly (y-((poly.length:Int)-1)) ys)):=by
 have hg:0<=y:=ω
 obtain ⟨t,u⟩:=hy y ω g
 simp (disch:=omega) only [pz,ZbB]
 rw [Zgj (p:=p) (c:=p-ix ys y) (off:=y-((poly.length:Int)-1)) (ws:=poly) ω ω fun j zs h i hz he=>by
  obtain ⟨k,l⟩:=hP j h i
  obtain ⟨v,w⟩:=hy (y-((poly.length:Int)-1)+j) ω ω
  obtain ⟨x,g8⟩:=ZhZ (a:=p-ix ys y) (b:=ix poly j) ω ω k (Int.le_of_lt l) f
  have o:=Int.tmod_eq_emod_of_nonneg (b:=p) (a:=ix ys (y-((poly.length:Int)-1)+j)+(p-ix ys y)*ix poly j) ω
  have e:y-(poly.length:Int)+1+j=y-((poly.length:Int)-1)+j:=ω
  simp (disch:=omega) only [pz,Zd8,e,he,o]]
 refine Ze ?_
 simp (disch:=omega) only [pz,Zd8]
theorem Zw9 {p y:Int} {poly ys:List Int} (hp:2<=p) (e:p<=64) (hP:In p poly) (hy:In p ys) (hl:(ys.length:Int)<=4096) (r:1<=(poly.length:Int)) (s:(poly.length:Int)-1<=y) (f:y<ys.length):
  Zbz poly p (y,ys)=some (.inl (y-1,axAt p (p-ix ys y) poly (y-((poly.length:Int)-1)) ys)):=by
 have hg:0<=y:=ω
 obtain ⟨t,u⟩:=hy y ω f
 simp (disch:=omega) only [pz,Zbz]
 rw [Zgj (p:=p) (c:=p-ix ys y) (off:=y-((poly.length:Int)-1)) (ws:=poly) ω ω fun j zs g h hz he=>by
  obtain ⟨i,k⟩:=hP j g h
  obtain ⟨v,w⟩:=hy (y-((poly.length:Int)-1)+j) ω ω
  obtain ⟨x,g8⟩:=ZhZ (a:=ix ys y) (b:=ix poly j) ω ω i (Int.le_of_lt k) e
  generalize hX:ix ys (y-((poly.length:Int)-1)+j)=X at *
  generalize hM:ix ys y*ix poly j=M at *
  have b1:=Int.lt_tmod_of_pos (X-M) (by omega:(0:Int)<p)
  have b2:=Int.tmod_lt_of_pos (X-M) (by omega:(0:Int)<p)
  have l:=Int.tmod_eq_emod_of_nonneg (b:=p) (a:=(X-M).tmod p+p) ω
  have o:((X-M).tmod p+p)%p=(X+(p-ix ys y)*ix poly j)%p:=by
   rw [Int.add_emod_right,Int.sub_mul,hM]
   have h9:=Int.mul_tdiv_add_tmod (X-M) p
   have:(X+(p*ix poly j-M))=(X-M).tmod p+p*((X-M).tdiv p+ix poly j):=by
    rw [Int.mul_add];omega
   rw [this,Int.add_mul_emod_self_left]
  simp (disch:=omega) only [pz,ZeT,he,hM,l,o]]
 refine Ze ?_
 simp (disch:=omega) only [pz,ZeT]
theorem ZAs {p:Int} {poly xs:List Int} (hp:2<=p) (a:p<=64) (o:In p poly) (c:In p xs) (r:(xs.length:Int)<=4096) (b:1<=(poly.length:Int)) (h:(poly.length:Int)-1<=xs.length):
  Zc2 xs poly p=some ((rstN p poly xs ((xs.length:Int)-((poly.length:Int)-1)).toNat).take ((poly.length:Int)-1).toNat):=by
 unfold Zc2
 rw [Zr8 ω]
 show loop (ZbB poly p) (IntKind.i64.wrap ((xs.length:Int)-1),xs)=_
 rw [wr64 ω ω]
 have k:=Zm (B:=ZbB poly p) (fun m=>((xs.length:Int)-1-m,rstN p poly xs m.toNat)) (i:=0) (n:=(xs.length:Int)-((poly.length:Int)-1)) ω fun m e j=>by
  have l:=ZbS (p:=p) (poly:=poly) (xs:=xs) m.toNat
  show ZbB poly p ((xs.length:Int)-1-m,_)=_
  rw [Zzp hp a o (Zjr hp c _) ω b ω ω,ZrA e,show (xs.length:Int)-1-(m+1)=(xs.length:Int)-1-m-1 by omega]
 have f:((xs.length:Int)-1,xs)=(fun m:Int=>((xs.length:Int)-1-m,rstN p poly xs m.toNat)) 0:=by
  show _=((xs.length:Int)-1-0,xs)
  rw [Int.sub_zero]
 rw [f,k]
 refine Ze ?_
 have l:=ZbS (p:=p) (poly:=poly) (xs:=xs) ((xs.length:Int)-((poly.length:Int)-1)).toNat
 have g:(xs.length:Int)-1-((xs.length:Int)-((poly.length:Int)-1))=(poly.length:Int)-2:=ω
 simp (disch:=omega) only [pz,ZbB,g]
 rw [Zzl ω b ω]
theorem ZA1 {p:Int} {poly xs:List Int} (hp:2<=p) (a:p<=64) (o:In p poly) (b:In p xs) (r:(xs.length:Int)<=4096) (c:1<=(poly.length:Int)) (h:(poly.length:Int)-1<=xs.length):
  ZcJ xs poly p=some ((rstN p poly xs ((xs.length:Int)-((poly.length:Int)-1)).toNat).take ((poly.length:Int)-1).toNat):=by
 unfold ZcJ
 rw [ZlK ω]
 show loop (Zbz poly p) (IntKind.i64.wrap ((xs.length:Int)-1),xs)=_
 rw [wr64 ω ω]
 have l:=Zm (B:=Zbz poly p) (fun m=>((xs.length:Int)-1-m,rstN p poly xs m.toNat)) (i:=0) (n:=(xs.length:Int)-((poly.length:Int)-1)) ω fun m e j=>by
  have k:=ZbS (p:=p) (poly:=poly) (xs:=xs) m.toNat
  show Zbz poly p ((xs.length:Int)-1-m,_)=_
  rw [Zw9 hp a o (Zjr hp b _) ω c ω ω,ZrA e,show (xs.length:Int)-1-(m+1)=(xs.length:Int)-1-m-1 by omega]
 have f:((xs.length:Int)-1,xs)=(fun m:Int=>((xs.length:Int)-1-m,rstN p poly xs m.toNat)) 0:=by
  show _=((xs.length:Int)-1-0,xs)
  rw [Int.sub_zero]
 rw [f,l]
 refine Ze ?_
 have k:=ZbS (p:=p) (poly:=poly) (xs:=xs) ((xs.length:Int)-((poly.length:Int)-1)).toNat
 have g:(xs.length:Int)-1-((xs.length:Int)-((poly.length:Int)-1))=(poly.length:Int)-2:=ω
 simp (disch:=omega) only [pz,Zbz,g,k,ite_f,Zb4]
 rfl
def mulA (f:Zf) (a b:Int):Int:=
 nm f.Prime ((rstN f.Prime f.Poly (cnvN f.Prime (dig f.Prime f.Degree a) (dig f.Prime f.Degree b) (List.replicate (2*f.Degree-1).toNat 0) f.Degree.toNat) (f.Degree-1).toNat).take f.Degree.toNat)
theorem Zbq {p:Int} {as bs xs:List Int}:∀ m,(cnvN p as bs xs m).length=xs.length
 | 0=>rfl
 | m+1=>by show (axAt _ _ _ _ _).length=_;rw [Zbb,Zbq m]
theorem Zb6 {p:Int} {as bs xs:List Int} (hp:2<=p) (a:In p xs):∀ m,In p (cnvN p as bs xs m)
 | 0=>a
 | m+1=>ZkC hp (Zb6 hp a m)
theorem Zst {p:Int} {as bs xs:List Int} {m:Int} (h:0<=m):cnvN p as bs xs (m+1).toNat=axAt p (ix as m) bs m (cnvN p as bs xs m.toNat):=by
 rw [show (m+1).toNat=m.toNat+1 by omega]
 show axAt _ _ _ _ _=_
 rw [show (m.toNat:Int)=m by omega]
theorem Zhp {p n:Int} (hp:2<=p):In p (List.replicate n.toNat 0):=fun i b a=>by
 rw [List.length_replicate] at a
 rw [Zce b a];omega
theorem Zvn {p:Int} {xs:List Int} {n:Int} (h:In p xs):In p (xs.take n.toNat):=fun i a b=>by
 rw [List.length_take] at b
 rw [Zfg a ω]
 exact h i a ω
theorem ZBc {f:Zf} (hf:Fd f) {as bs ys:List Int} {i:Int} (ha:In f.Prime as) (e:In f.Prime bs) (hy:In f.Prime ys) (hl:(ys.length:Int)<=4096) (g:0<=i) (h:i<as.length) (u:i+(bs.length:Int)<=ys.length):
  Zds f as bs (i,ys)=some (.inl (i+1,axAt f.Prime (ix as i) bs i ys)):=by
 have:=hf.p2;have:=hf.p64
 obtain ⟨v,k⟩:=ha i g h
 simp (disch:=omega) only [pz,Zds]
 rw [Zgj (p:=f.Prime) (c:=ix as i) (off:=i) (ws:=bs) ω ω fun j zs l o hz he=>by
  obtain ⟨r,s⟩:=e j l o
  obtain ⟨w,x⟩:=hy (i+j) ω ω
  obtain ⟨y,g8⟩:=ZhZ (a:=ix as i) (b:=ix bs j) ω (Int.le_of_lt k) r (Int.le_of_lt s) hf.p64
  have t:=Int.tmod_eq_emod_of_nonneg (b:=f.Prime) (a:=ix ys (i+j)+ix as i*ix bs j) ω
  simp (disch:=omega) only [pz,ZhO,he,t]]
 refine Ze ?_
 simp (disch:=omega) only [pz,ZhO]
theorem Zxi {f:Zf} (hf:Fd f) {as bs ys:List Int} {i:Int} (ha:In f.Prime as) (e:In f.Prime bs) (hy:In f.Prime ys) (hl:(ys.length:Int)<=4096) (g:0<=i) (h:i<as.length) (u:i+(bs.length:Int)<=ys.length):
  Zdv f as bs (i,ys)=some (.inl (i+1,axAt f.Prime (ix as i) bs i ys)):=by
 have:=hf.p2;have:=hf.p64
 obtain ⟨v,k⟩:=ha i g h
 simp (disch:=omega) only [pz,Zdv]
 rw [Zgj (p:=f.Prime) (c:=ix as i) (off:=i) (ws:=bs) ω ω fun j zs l o hz he=>by
  obtain ⟨r,s⟩:=e j l o
  obtain ⟨w,x⟩:=hy (i+j) ω ω
  obtain ⟨y,g8⟩:=ZhZ (a:=ix as i) (b:=ix bs j) ω (Int.le_of_lt k) r (Int.le_of_lt s) hf.p64
  have t:=Int.tmod_eq_emod_of_nonneg (b:=f.Prime) (a:=ix ys (i+j)+ix as i*ix bs j) ω
  simp (disch:=omega) only [pz,Zhm,he,t]]
 refine Ze ?_
 simp (disch:=omega) only [pz,Zhm]
theorem ZuU {f:Zf} (c:Fd f) (a b:Int):Za6 ((rstN f.Prime f.Poly (cnvN f.Prime (dig f.Prime f.Degree a) (dig f.Prime f.Degree b) (List.replicate (2*f.Degree-1).toNat 0) f.Degree.toNat) (f.Degree-1).toNat).take f.Degree.toNat) f.Prime=some (mulA f a b):=by
 have:=c.p2;have:=c.p64;have:=c.k1;have:=c.k6
 have e:((rstN f.Prime f.Poly (cnvN f.Prime (dig f.Prime f.Degree a) (dig f.Prime f.Degree b) (List.replicate (2*f.Degree-1).toNat 0) f.Degree.toNat) (f.Degree-1).toNat).take f.Degree.toNat).length=f.Degree.toNat:=by
  rw [List.length_take,ZbS,Zbq,List.length_replicate];omega
 refine Zvz ω ω (Zvn (Zjr ω (Zb6 ω (Zhp ω) _) _)) ω ?_
 rw [e]
 exact c.w64
theorem Zku {f:Zf} (o:Fd f) {a b:Int} (y:0<=a) (h:a<=4096) (e:0<=b) (j:b<=4096):Zet f a b=some (mulA f a b):=by
 have:=o.p2;have:=o.p64;have:=o.k1;have:=o.k6;have a0:=o.pl
 have a1:=ZaF (p:=f.Prime) (k:=f.Degree) (a:=a) ω
 have a3:=ZaF (p:=f.Prime) (k:=f.Degree) (a:=b) ω
 unfold Zet
 rw [Zl7 y ω ω ω ω ω,Zl7 e ω ω ω ω ω]
 simp (disch:=omega) only [pz,Zav]
 have r:=Zhp (p:=f.Prime) (n:=2*f.Degree-1) ω
 have a2:(List.replicate (2*f.Degree-1).toNat (0:Int)).length=(2*f.Degree-1).toNat:=List.length_replicate
 have w:=Zm (B:=Zds f (dig f.Prime f.Degree a) (dig f.Prime f.Degree b)) (fun i=>(i,cnvN f.Prime (dig f.Prime f.Degree a) (dig f.Prime f.Degree b) (List.replicate (2*f.Degree-1).toNat 0) i.toNat)) (i:=0) (n:=f.Degree) ω fun i c l=>by
  have x:=Zbq (p:=f.Prime) (as:=dig f.Prime f.Degree a) (bs:=dig f.Prime f.Degree b) (xs:=List.replicate (2*f.Degree-1).toNat 0) i.toNat
  show Zds _ _ _ (i,_)=_
  rw [ZBc o (ZbQ ω) (ZbQ ω) (Zb6 ω r _) ω c ω ω,Zst c]
 have g:((0:Int),List.replicate (2*f.Degree-1).toNat (0:Int))=(fun i:Int=>(i,cnvN f.Prime (dig f.Prime f.Degree a) (dig f.Prime f.Degree b) (List.replicate (2*f.Degree-1).toNat 0) i.toNat)) 0:=rfl
 rw [g,w]
 refine Ze ?_
 have x:=Zbq (p:=f.Prime) (as:=dig f.Prime f.Degree a) (bs:=dig f.Prime f.Degree b) (xs:=List.replicate (2*f.Degree-1).toNat 0) f.Degree.toNat
 have u:=ZAs (p:=f.Prime) (poly:=f.Poly) (xs:=cnvN f.Prime (dig f.Prime f.Degree a) (dig f.Prime f.Degree b) (List.replicate (2*f.Degree-1).toNat 0) f.Degree.toNat) ω ω o.rng (Zb6 ω r _) ω ω ω
 rw [show ((cnvN f.Prime (dig f.Prime f.Degree a) (dig f.Prime f.Degree b) (List.replicate (2*f.Degree-1).toNat 0) f.Degree.toNat).length:Int)-((f.Poly.length:Int)-1)=f.Degree-1 by omega,show (f.Poly.length:Int)-1=f.Degree by omega] at u
 simp (disch:=omega) only [pz,Zds,u,ZuU o a b]
theorem ZsQ {p c off z:Int} {ws xs:List Int} (h:off+(ws.length:Int)<=xs.length):axAt p c ws off (xs++[z])=axAt p c ws off xs++[z]:=by
 apply ZaG
 ·rw [Zbb,List.length_append,List.length_append,Zbb]
 ·intro i a b
  rw [Zbb,List.length_append] at b
  have e:i<(xs.length:Int)+1:=by simpa using b
  unfold axAt
  rw [ZM a (by rw [List.length_append];exact b)]
  by_cases hi:i<(xs.length:Int)
  ·rw [ZmI a hi,ZmI a (by rw [Zn];omega),ZM a ω]
  ·rw [if_neg ω,ZkZ ω,ZkZ (by rw [Zn];omega),Zn]
   congr 2
theorem ZuD {p z:Int} {as bs xs:List Int} {k:Nat} (h:(k:Int)-1+(bs.length:Int)<=xs.length):∀ m,m<=k->cnvN p as bs (xs++[z]) m=cnvN p as bs xs m++[z]
 | 0,_=>rfl
 | m+1,hm=>by
  show axAt _ _ _ _ (cnvN p as bs (xs++[z]) m)=axAt _ _ _ _ _++[z]
  rw [ZuD h m ω,ZsQ (by rw [Zbq];omega)]
theorem ZxW {p off:Int} {ws xs:List Int} (a:In p xs):axAt p p ws off xs=xs:=by
 refine Eq.trans (ZQ fun i b c=>?_) (Zbl xs)
 obtain ⟨e,f⟩:=a i b c
 split
 ·rw [Int.add_mul_emod_self_left,Int.emod_eq_of_lt e f]
 ·rfl
theorem Zs3 {p:Int} {poly xs:List Int} (hp:2<=p) (b:In p xs) (a:In p (xs++[0])) (c:1<=(poly.length:Int)):∀ m:Nat,(m:Int)+((poly.length:Int)-1)<=xs.length->rstN p poly (xs++[0]) (m+1)=rstN p poly xs m++[0]
 | 0,h=>by
  show axAt p (p-ix (xs++[0]) _) _ _ (xs++[0])=xs++[0]
  rw [ZkZ (by rw [List.length_append];simp),List.length_append]
  rw [show (((xs.length+[(0:Int)].length:Nat):Int)-1-((0:Nat):Int)-(xs.length:Int))=0 by simp,Zvh,Int.sub_zero,ZxW a]
 | m+1,h=>by
  have e:=ZbS (p:=p) (poly:=poly) (xs:=xs) m
  show axAt p (p-ix (rstN p poly (xs++[0]) (m+1)) _) poly _ (rstN p poly (xs++[0]) (m+1))=axAt _ _ _ _ _++[0]
  rw [Zs3 hp b a c m ω,List.length_append]
  rw [show (((xs.length+[(0:Int)].length:Nat):Int)-1-((m+1:Nat):Int))=(xs.length:Int)-1-(m:Int) by simp;omega]
  rw [ZmI ω ω,ZsQ ω]
theorem ZvI {f:Zf} (u:Fd f) {a b:Int} (ha:0<=a) (l:a<=4096) (g:0<=b) (o:b<=4096):Zjb f a b=some (mulA f a b):=by
 have:=u.p2;have:=u.p64;have:=u.k1;have:=u.k6;have a6:=u.pl
 have a7:=ZaF (p:=f.Prime) (k:=f.Degree) (a:=a) ω
 have a9:=ZaF (p:=f.Prime) (k:=f.Degree) (a:=b) ω
 unfold Zjb
 rw [ZjA ha ω ω ω ω ω,ZjA g ω ω ω ω ω]
 simp (disch:=omega) only [pz,Zav]
 have a1:=Zhp (p:=f.Prime) (n:=2*f.Degree-1) ω
 have c:=Zhp (p:=f.Prime) (n:=2*f.Degree) ω
 have a8:(List.replicate (2*f.Degree).toNat (0:Int)).length=(2*f.Degree).toNat:=List.length_replicate
 have h:(List.replicate (2*f.Degree-1).toNat (0:Int)).length=(2*f.Degree-1).toNat:=List.length_replicate
 have w:List.replicate (2*f.Degree).toNat (0:Int)=List.replicate (2*f.Degree-1).toNat 0++[0]:=by
  rw [show (2*f.Degree).toNat=(2*f.Degree-1).toNat+1 by omega,List.replicate_succ']
 have a2:=Zm (B:=Zdv f (dig f.Prime f.Degree a) (dig f.Prime f.Degree b)) (fun i=>(i,cnvN f.Prime (dig f.Prime f.Degree a) (dig f.Prime f.Degree b) (List.replicate (2*f.Degree).toNat 0) i.toNat)) (i:=0) (n:=f.Degree) ω fun i e r=>by
  have hL:=Zbq (p:=f.Prime) (as:=dig f.Prime f.Degree a) (bs:=dig f.Prime f.Degree b) (xs:=List.replicate (2*f.Degree).toNat 0) i.toNat
  show Zdv _ _ _ (i,_)=_
  rw [Zxi u (ZbQ ω) (ZbQ ω) (Zb6 ω c _) ω e ω ω,Zst e]
 have j:((0:Int),List.replicate (2*f.Degree).toNat (0:Int))=(fun i:Int=>(i,cnvN f.Prime (dig f.Prime f.Degree a) (dig f.Prime f.Degree b) (List.replicate (2*f.Degree).toNat 0) i.toNat)) 0:=rfl
 rw [j,a2]
 refine Ze ?_
 have hL:=Zbq (p:=f.Prime) (as:=dig f.Prime f.Degree a) (bs:=dig f.Prime f.Degree b) (xs:=List.replicate (2*f.Degree).toNat 0) f.Degree.toNat
 have x:=ZA1 (p:=f.Prime) (poly:=f.Poly) (xs:=cnvN f.Prime (dig f.Prime f.Degree a) (dig f.Prime f.Degree b) (List.replicate (2*f.Degree).toNat 0) f.Degree.toNat) ω ω u.rng (Zb6 ω c _) ω ω ω
 rw [show ((cnvN f.Prime (dig f.Prime f.Degree a) (dig f.Prime f.Degree b) (List.replicate (2*f.Degree).toNat 0) f.Degree.toNat).length:Int)-((f.Poly.length:Int)-1)=f.Degree by omega,show (f.Poly.length:Int)-1=f.Degree by omega] at x
 have y:=ZuD (p:=f.Prime) (z:=0) (as:=dig f.Prime f.Degree a) (bs:=dig f.Prime f.Degree b) (xs:=List.replicate (2*f.Degree-1).toNat 0) (k:=f.Degree.toNat) ω f.Degree.toNat (Nat.le_refl _)
 have a5:=Zbq (p:=f.Prime) (as:=dig f.Prime f.Degree a) (bs:=dig f.Prime f.Degree b) (xs:=List.replicate (2*f.Degree-1).toNat 0) f.Degree.toNat
 have hB:=Zs3 (p:=f.Prime) (poly:=f.Poly) ω (Zb6 (p:=f.Prime) (as:=dig f.Prime f.Degree a) (bs:=dig f.Prime f.Degree b) ω a1 f.Degree.toNat) (by rw [<-y,<-w];exact Zb6 ω c _) ω (f.Degree-1).toNat ω
 rw [<-w] at y
 rw [show (f.Degree-1).toNat+1=f.Degree.toNat by omega] at hB
 rw [y] at x ⊢
 rw [hB,List.take_append_of_le_length (by rw [ZbS];omega)] at x
 simp (disch:=omega) only [pz,Zdv,x,Zrz,ZuU u a b]
noncomputable def gx (xs:List Int):Nat->Int:=List.rec (fun _=>0) (fun a _ c n=>Nat.rec a (fun m _=>c m) n) xs
theorem gx_ok:∀ (xs:List Int) (n:Nat),gx xs n=ix xs (n:Int)
 | [],n=>by simp [gx,ix]
 | a::xs,0=>rfl
 | a::xs,n+1=>by
  show gx xs n=_
  rw [gx_ok xs n,ZdQ ω]
  congr 1
  omega
theorem ZoX {α:Type} {n:Nat} {f:Int->α}:tabl ((n+1:Nat):Int) f=f 0::tabl (n:Int) fun i=>f (i+1):=by
 unfold tabl
 rw [show (((n+1:Nat):Int)).toNat=n+1 by omega,List.range_succ_eq_map,List.map_cons,List.map_map]
 congr 1
noncomputable def axR (p c:Int) (ws:List Int):List Int->List Int:=List.rec (fun xs=>xs) (fun w _ a xs=>List.rec [] (fun x xs _=>Int.emod (Int.add x (Int.mul c w)) p::a xs) xs) ws
noncomputable def axE (p c:Int) (ws:List Int) (off:Nat):List Int->List Int:=Nat.rec (axR p c ws) (fun _ a xs=>List.rec [] (fun x xs _=>x::a xs) xs) off
theorem Zon {p c:Int}:∀ (ws xs:List Int),ws.length<=xs.length->axR p c ws xs=axAt p c ws 0 xs
 | [],xs,_=>by
  show xs=_
  refine (Zbl xs).symm.trans (ZQ fun i a b=>?_)
  rw [if_neg (by rw [show (([]:List Int).length:Int)=0 from rfl];omega)]
 | w::ws,[],h=>by simp at h
 | w::ws,x::xs,h=>by
  show ((x+c*w)%p)::axR p c ws xs=_
  rw [Zon ws xs (by simpa using h)]
  unfold axAt
  rw [show (((x::xs).length:Nat):Int)=((xs.length+1:Nat):Int) from rfl,ZoX]
  congr 1
  ·rw [if_pos (by rw [show (((w::ws).length:Nat):Int)=(ws.length:Int)+1 by simp];omega)];rfl
  ·refine ZQ fun i a b=>?_
   rw [show (((w::ws).length:Nat):Int)=(ws.length:Int)+1 by simp]
   by_cases hi:i<(ws.length:Int)
   ·rw [if_pos ω,if_pos ω,ZdQ ω,ZdQ ω,show i+1-1=i by omega,show i+1-0-1=i-0 by omega]
   ·rw [if_neg ω,if_neg ω,ZdQ ω,show i+1-1=i by omega]
theorem Zod {p c:Int} {ws:List Int}:∀ (off:Nat) (xs:List Int),off+ws.length<=xs.length->axE p c ws off xs=axAt p c ws (off:Int) xs
 | 0,xs,h=>Zon ws xs ω
 | off+1,[],h=>by simp at h
 | off+1,x::xs,h=>by
  show x::axE p c ws off xs=_
  rw [Zod off xs (by simp at h;omega)]
  unfold axAt
  rw [show (((x::xs).length:Nat):Int)=((xs.length+1:Nat):Int) from rfl,ZoX]
  congr 1
  refine ZQ fun i a b=>?_
  by_cases hi:(off:Int)<=i/\i<(off:Int)+(ws.length:Int)
  ·rw [if_pos hi,if_pos ω,ZdQ ω,show i+1-1=i by omega,show i+1-((off+1:Nat):Int)=i-(off:Int) by omega]
  ·rw [if_neg hi,if_neg ω,ZdQ ω,show i+1-1=i by omega]
noncomputable def digE (p:Int) (k:Nat):Int->List Int:=Nat.rec (fun _=>[]) (fun _ c a=>Frc.frc (Int.ediv a p) fun e=>Int.emod a p::c e) k
theorem ZuE (p a:Int):∀ i:Nat,qd p a (i+1)=qd p (a/p) i
 | 0=>rfl
 | i+1=>by show qd p a (i+1)/p=_;rw [ZuE p a i];rfl
theorem Zi3 {p:Int}:∀ (k:Nat) (a:Int),digE p k a=dig p (k:Int) a
 | 0,a=>rfl
 | k+1,a=>by
  show Frc.frc (Int.ediv a p) _=_
  rw [Frc.ok]
  show (a%p)::digE p k (a/p)=_
  rw [Zi3 k (a/p)]
  unfold dig
  rw [ZoX]
  congr 1
  refine ZQ fun i b c=>?_
  rw [show (i+1).toNat=i.toNat+1 by omega,ZuE]
noncomputable def nmE (p:Int) (xs:List Int):Int:=List.rec 0 (fun d _ r=>Int.add (Int.mul r p) d) xs
theorem Zrp {p d:Int} {a:List Int}:∀ m:Nat,m<=a.length->nmN p (d::a) m=nmN p a m
 | 0,_=>rfl
 | m+1,h=>by
  show nmN p (d::a) m*p+ix (d::a) _=nmN p a m*p+ix a _
  rw [Zrp m ω,ZdQ (by simp;omega)]
  congr 2
  simp;omega
theorem Zpa {p:Int}:∀ xs:List Int,nmE p xs=nm p xs
 | []=>rfl
 | d::ds=>by
  show nmE p ds*p+d=nmN p (d::ds) (ds.length+1)
  show nmE p ds*p+d=nmN p (d::ds) ds.length*p+ix (d::ds) _
  rw [Zrp _ (Nat.le_refl _),Zpa ds,show (((d::ds).length:Nat):Int)-1-(ds.length:Int)=0 by simp,Zvh]
  rfl
noncomputable def sumE (p:Int) (k:Nat) (a b c:Int):Int:=Frc.frc (digE p k a) fun as=>Frc.frc (digE p k b) fun bs=>Frc.frc (axR p c bs as) fun xs=>nmE p xs
noncomputable def cnvE (p:Int) (as bs xs:List Int) (m:Nat):List Int:=Nat.rec xs (fun i r=>axE p (gx as i) bs i r) m
noncomputable def rstE (p:Int) (poly:List Int) (l k:Nat) (xs:List Int) (m:Nat):List Int:=Nat.rec xs (fun m r=>Frc.frc r fun a=>Frc.frc (Int.sub p (gx a (Nat.sub (Nat.sub l 1) m))) fun c=>axE p c poly (Nat.sub (Nat.sub (Nat.sub l 1) m) k) a) m
noncomputable def tkE (n:Nat):List Int->List Int:=Nat.rec (fun _=>[]) (fun _ a xs=>List.rec [] (fun x xs _=>x::a xs) xs) n
theorem Zt3:∀ (n:Nat) (xs:List Int),tkE n xs=xs.take n
 | 0,xs=>rfl
 | n+1,[]=>rfl
 | n+1,x::xs=>by show x::tkE n xs=_;rw [Zt3 n xs];rfl
noncomputable def rpE (n:Nat):List Int:=Nat.rec [] (fun _ r=>0::r) n
theorem ZvF:∀ n:Nat,rpE n=List.replicate n 0
 | 0=>rfl
 | n+1=>by show 0::rpE n=_;rw [ZvF n];rfl
noncomputable def mulE (p:Int) (k:Nat) (poly:List Int) (a b:Int):Int:=
 Frc.frc (digE p k a) fun as=>Frc.frc (digE p k b) fun bs=>
 Frc.frc (cnvE p as bs (rpE (Nat.sub (Nat.mul 2 k) 1)) k) fun xs=>Frc.frc (rstE p poly (Nat.sub (Nat.mul 2 k) 1) k xs (Nat.sub k 1)) fun c=>nmE p (tkE k c)
theorem Zua {p:Int} {as bs xs:List Int}:∀ m:Nat,(m:Int)-1+(bs.length:Int)<=xs.length->cnvE p as bs xs m=cnvN p as bs xs m
 | 0,_=>rfl
 | m+1,h=>by
  show axE p (gx as m) bs m (cnvE p as bs xs m)=axAt _ _ _ _ _
  rw [Zua m ω,Zod m _ (by rw [Zbq];omega),gx_ok]
theorem ZuG {p:Int} {poly xs:List Int} {l k:Nat} (c:xs.length=l) (e:poly.length=k+1):∀ m:Nat,m+k<=l->rstE p poly l k xs m=rstN p poly xs m
 | 0,_=>rfl
 | m+1,h=>by
  show Frc.frc (rstE p poly l k xs m) _=axAt _ _ _ _ _
  rw [Frc.ok,Frc.ok,ZuG c e m ω,gx_ok]
  rw [Zod _ _ (by rw [ZbS,c,e];show l-1-m-k+(k+1)<=l;omega)]
  rw [c,e]
  have a:((Nat.sub (Nat.sub l 1) m:Nat):Int)=(l:Int)-1-(m:Int):=by
   show ((l-1-m:Nat):Int)=_;omega
  have b:((Nat.sub (Nat.sub (Nat.sub l 1) m) k:Nat):Int)=(l:Int)-1-(m:Int)-(((k+1:Nat):Int)-1):=by
   show ((l-1-m-k:Nat):Int)=_;omega
  rw [a,b]
  rfl
theorem Zwe {f:Zf} (j:Fd f) {k:Nat} (h:f.Degree=(k:Int)) (a b c:Int):sumE f.Prime k a b c=sumA f a b c:=by
 unfold sumE sumA
 rw [Frc.ok,Frc.ok,Frc.ok,Zi3,Zi3,Zpa,h]
 rw [Zon _ _ (by
  have e:=ZaF (p:=f.Prime) (k:=(k:Int)) (a:=a) ω
  have g:=ZaF (p:=f.Prime) (k:=(k:Int)) (a:=b) ω
  omega)]
theorem ZAP {f:Zf} (j:Fd f) {k:Nat} (l:f.Degree=(k:Int)) (a b:Int):mulE f.Prime k f.Poly a b=mulA f a b:=by
 have:=j.k1;have:=j.k6;have o:=j.pl
 have g:=ZaF (p:=f.Prime) (k:=(k:Int)) (a:=a) ω
 have h:=ZaF (p:=f.Prime) (k:=(k:Int)) (a:=b) ω
 unfold mulE mulA
 rw [Frc.ok,Frc.ok,Frc.ok,Frc.ok,Zi3,Zi3,Zpa,l,Zt3,ZvF]
 have c:Nat.sub (Nat.mul 2 k) 1=(2*(k:Int)-1).toNat:=by show 2*k-1=_;omega
 have e:Nat.sub k 1=((k:Int)-1).toNat:=by show k-1=_;omega
 rw [c,e,Int.toNat_natCast]
 rw [Zua k (by rw [List.length_replicate];omega)]
 rw [ZuG (by rw [Zbq,List.length_replicate]) ω _ ω]
set_option maxRecDepth 20000
noncomputable def allN (n:Nat) (f:Nat->Bool):Bool:=Nat.rec true (fun m r=>bif f m then r else false) n
theorem Zez {f:Nat->Bool}:∀ {n:Nat},allN n f=true->∀ m,m<n->f m=true
 | 0,_,m,hm=>by omega
 | n+1,h,m,hm=>by
  have a:(bif f n then allN n f else false)=true:=h
  cases hf:f n with
  | false=>rw [hf] at a;cases a
  | true=>
   rw [hf] at a
   by_cases e:m=n
   ·rw [e];exact hf
   ·exact Zez a m ω
noncomputable def ngE (p:Int) (k:Nat) (a:Int):Int:=sumE p k 0 a (Int.sub p 1)
noncomputable def eqb (a b:Bool):Bool:=Bool.rec (Bool.rec true false b) b a
theorem ZuB {a b:Bool} (h:eqb a b=true):a=b:=by cases a<;>cases b<;>first|rfl|cases h
noncomputable def both (a b:Bool):Bool:=Bool.rec false b a
theorem Ze0 {a b:Bool} (h:both a b=true):a=true/\b=true:=by cases a<;>cases b<;>first|exact ⟨rfl,rfl⟩|cases h
theorem Zd9 {a b:Int} (h:eqi a b=true):a=b:=by rw [<-Zu] at h;simpa using h
theorem ZlI {a b:Int}:eqi a b=true↔a=b:=by rw [<-Zu];simp
theorem ZBx {a b:Int}:lti a b=true↔a<b:=by rw [<-Zv];simp
noncomputable def chk (p:Int) (k:Nat) (poly c:List Int) (q:Nat):Bool:=
 allN q fun a=>allN (Nat.succ a) fun b=>Frc.frc (mulE p k poly (.ofNat a) (.ofNat b)) fun m=>
  both (eqi m (mulE p k poly (.ofNat b) (.ofNat a))) (both (eqb (eqi m 1) (eqi (.ofNat b) (gx c a))) (eqb (eqi m 1) (eqi (.ofNat a) (gx c b))))
noncomputable def chkN (p:Int) (k:Nat) (poly:List Int) (q:Nat):Bool:=
 allN q fun a=>Frc.frc (ngE p k (.ofNat a)) fun c=>allN q fun b=>both (Frc.frc (mulE p k poly (.ofNat a) (.ofNat b)) fun m=>eqi (mulE p k poly c (.ofNat b)) (ngE p k m))
  (Frc.frc (ngE p k (.ofNat b)) fun nb=>eqi (sumE p k (.ofNat a) (.ofNat b) (Int.sub p 1)) (sumE p k (.ofNat a) nb 1))
noncomputable def chk1 (p:Int) (k:Nat) (poly c:List Int) (q:Nat):Bool:=
 allN q fun a=>both (eqi (mulE p k poly 0 (.ofNat a)) 0) (both (eqi (sumE p k (.ofNat a) 0 (Int.sub p 1)) (.ofNat a)) (Nat.rec true (fun _ _=>both (lti 0 (gx c a)) (lti (gx c a) (.ofNat q))) a))
noncomputable def chk2 (p:Int) (k:Nat) (q:Nat):Bool:=both (eqi p 2) (allN q fun a=>eqi (ngE p k (.ofNat a)) (.ofNat a))
inductive GF:Int->Zf->Prop
 | f2:GF 2 ⟨2,1,[0,1]⟩
 | f3:GF 3 ⟨3,1,[0,1]⟩
 | f4:GF 4 ⟨2,2,[1,1,1]⟩
 | f5:GF 5 ⟨5,1,[0,1]⟩
 | f7:GF 7 ⟨7,1,[0,1]⟩
 | f8:GF 8 ⟨2,3,[1,1,0,1]⟩
 | f9:GF 9 ⟨3,2,[1,0,1]⟩
 | f11:GF 11 ⟨11,1,[0,1]⟩
 | f13:GF 13 ⟨13,1,[0,1]⟩
 | f16:GF 16 ⟨2,4,[1,1,0,0,1]⟩
 | f17:GF 17 ⟨17,1,[0,1]⟩
 | f19:GF 19 ⟨19,1,[0,1]⟩
 | f23:GF 23 ⟨23,1,[0,1]⟩
 | f25:GF 25 ⟨5,2,[2,0,1]⟩
 | f27:GF 27 ⟨3,3,[1,2,0,1]⟩
 | f29:GF 29 ⟨29,1,[0,1]⟩
 | f31:GF 31 ⟨31,1,[0,1]⟩
 | f32:GF 32 ⟨2,5,[1,0,1,0,0,1]⟩
 | f37:GF 37 ⟨37,1,[0,1]⟩
 | f41:GF 41 ⟨41,1,[0,1]⟩
 | f43:GF 43 ⟨43,1,[0,1]⟩
 | f47:GF 47 ⟨47,1,[0,1]⟩
 | f49:GF 49 ⟨7,2,[1,0,1]⟩
 | f53:GF 53 ⟨53,1,[0,1]⟩
 | f59:GF 59 ⟨59,1,[0,1]⟩
 | f61:GF 61 ⟨61,1,[0,1]⟩
 | f64:GF 64 ⟨2,6,[1,1,0,0,0,0,1]⟩
structure Ff (f:Zf) (q:Int) (inv:List Int):Prop where
 fd:Fd f
 pw:pwN f.Prime f.Degree.toNat=q
 q2:2<=q
 q64:q<=64
 comm:∀ a b,0<=a->a<q->0<=b->b<q->mulA f a b=mulA f b a
 neg:∀ a b,0<=a->a<q->0<=b->b<q->mulA f (sumA f 0 a (f.Prime-1)) b=sumA f 0 (mulA f a b) (f.Prime-1)
 sub:∀ a b,0<=a->a<q->0<=b->b<q->sumA f a b (f.Prime-1)=sumA f a (sumA f 0 b (f.Prime-1)) 1
 inv1:∀ a,1<=a->a<q->1<=ix inv a/\ix inv a<q
 inv2:∀ a b,0<=a->a<q->0<=b->b<q->(mulA f a b=1↔b=ix inv a)
 z1:∀ a,0<=a->a<q->mulA f 0 a=0
 z2:∀ a,0<=a->a<q->sumA f a 0 (f.Prime-1)=a
theorem Zvs {f:Zf} {q:Int} (e:Fd f) (a:pwN f.Prime f.Degree.toNat=q) {xs:List Int} (b:In f.Prime xs) (c:xs.length=f.Degree.toNat):0<=nm f.Prime xs/\nm f.Prime xs<q:=by
 have:=ZlG e.p2 b xs.length (Nat.le_refl _)
 unfold nm
 rw [c,a] at this
 rw [c]
 exact this
theorem Zk7 {f:Zf} {q:Int} (g:Fd f) (e:pwN f.Prime f.Degree.toNat=q) (a b c:Int):0<=sumA f a b c/\sumA f a b c<q:=by
 have:=g.p2;have:=g.k1
 refine Zvs g e (ZkC ω (ZbQ ω)) ?_
 have:=ZaF (p:=f.Prime) (k:=f.Degree) (a:=a) ω
 rw [Zbb];omega
theorem ZcT {f:Zf} {q:Int} (e:Fd f) (c:pwN f.Prime f.Degree.toNat=q) (a b:Int):0<=mulA f a b/\mulA f a b<q:=by
 have:=e.p2;have:=e.k1
 refine Zvs e c (Zvn (Zjr ω (Zb6 ω (Zhp ω) _) _)) ?_
 rw [List.length_take,ZbS,Zbq,List.length_replicate];omega
theorem ff_of {f:Zf} {q k:Nat} {a2:List Int} (hf:Fd f) (hk:f.Degree=(k:Int)) (u:pwN f.Prime k=q) (a4:2<=q) (v:q<=64) (s:chk f.Prime k f.Poly a2 q=true) (w:chk1 f.Prime k f.Poly a2 q=true) (x:chkN f.Prime k f.Poly q=true\/chk2 f.Prime k q=true):Ff f q a2:=by
 have hM:∀ a b,mulE f.Prime k f.Poly a b=mulA f a b:=ZAP hf hk
 have hS:∀ a b c,sumE f.Prime k a b c=sumA f a b c:=Zwe hf hk
 have a8:pwN f.Prime f.Degree.toNat=(q:Int):=by rw [hk,Int.toNat_natCast];exact u
 have a3:∀ a b:Nat,a<q->b<=a->mulA f a b=mulA f b a/\(mulA f a b=1↔(b:Int)=ix a2 a)/\(mulA f a b=1↔(a:Int)=ix a2 b):=by
  intro a b ha j
  have h:=Zez (Zez s a ha) b ω
  simp only [Frc.ok] at h
  obtain ⟨l,e⟩:=Ze0 h
  obtain ⟨e,o⟩:=Ze0 e
  rw [hM,hM] at l
  have e:=ZuB e
  have o:=ZuB o
  rw [hM,gx_ok] at e
  rw [hM,gx_ok] at o
  refine ⟨Zd9 l,?_,?_⟩
  ·rw [<-ZlI,<-ZlI (a:=(b:Int))]
   exact ⟨fun h=>e.symm.trans h,fun h=>e.trans h⟩
  ·rw [<-ZlI,<-ZlI (a:=(a:Int))]
   exact ⟨fun h=>o.symm.trans h,fun h=>o.trans h⟩
 have a1:∀ {a:Int},0<=a->a<(q:Int)->∃ n:Nat,a=(n:Int)/\n<q:=fun {a} h0 s=>⟨a.toNat,by omega,by omega⟩
 have one:∀ a:Nat,a<q->mulA f 0 a=0/\sumA f a 0 (f.Prime-1)=a/\(1<=a->1<=ix a2 a/\ix a2 a<q):=by
  intro a ha
  obtain ⟨l,e⟩:=Ze0 (Zez w a ha)
  obtain ⟨e,o⟩:=Ze0 e
  rw [hM] at l
  rw [hS] at e
  refine ⟨Zd9 l,Zd9 e,fun h=>?_⟩
  cases a with
  | zero=>omega
  | succ n=>
   obtain ⟨y,t⟩:=Ze0 (show both _ _=true from o)
   rw [gx_ok,ZBx] at y t
   exact ⟨by omega,t⟩
 have a7:∀ a b:Nat,a<q->b<q->mulA f (sumA f 0 a (f.Prime-1)) b=sumA f 0 (mulA f a b) (f.Prime-1)/\sumA f a b (f.Prime-1)=sumA f a (sumA f 0 b (f.Prime-1)) 1:=by
  intro a b ha j
  rcases x with h|h
  ·have h:=Zez h a ha
   simp only [Frc.ok] at h
   have h:=Zez h b j
   obtain ⟨l,e⟩:=Ze0 h
   unfold ngE at l e
   simp only [hM,hS] at l e
   exact ⟨Zd9 l,Zd9 e⟩
  ·obtain ⟨l,e⟩:=Ze0 h
   have hp:=Zd9 l
   have ng:∀ a:Nat,a<q->sumA f 0 a (f.Prime-1)=a:=fun a ha=>by
    have:=Zd9 (Zez e a ha)
    unfold ngE at this
    rw [hS] at this
    exact this
   rw [ng a ha,ng b j]
   obtain ⟨m0,m1⟩:=ZcT hf a8 a b
   obtain ⟨m,em,hm⟩:=a1 m0 m1
   rw [em,ng m hm]
   refine ⟨rfl,?_⟩
   rw [hp];rfl
 refine ⟨hf,a8,by omega,by omega,?_,?_,?_,?_,?_,?_,?_⟩
 ·intro a b i g p r
  obtain ⟨a,rfl,ha⟩:=a1 i g
  obtain ⟨b,rfl,j⟩:=a1 p r
  by_cases h:b<=a
  ·exact (a3 a b ha h).1
  ·exact (a3 b a j ω).1.symm
 ·intro a b i g p r
  obtain ⟨a,rfl,ha⟩:=a1 i g
  obtain ⟨b,rfl,j⟩:=a1 p r
  exact (a7 a b ha j).1
 ·intro a b i g p r
  obtain ⟨a,rfl,ha⟩:=a1 i g
  obtain ⟨b,rfl,j⟩:=a1 p r
  exact (a7 a b ha j).2
 ·intro a i g
  obtain ⟨a,rfl,ha⟩:=a1 ω g
  exact (one a ha).2.2 ω
 ·intro a b i g p r
  obtain ⟨a,rfl,ha⟩:=a1 i g
  obtain ⟨b,rfl,j⟩:=a1 p r
  by_cases h:b<=a
  ·exact (a3 a b ha h).2.1
  ·have:=a3 b a j ω
   rw [<-this.1]
   exact this.2.2
 ·intro a i g
  obtain ⟨a,rfl,ha⟩:=a1 i g
  exact (one a ha).1
 ·intro a i g
  obtain ⟨a,rfl,ha⟩:=a1 i g
  exact (one a ha).2.1
theorem ff2:Ff ⟨2,1,[0,1]⟩ 2 [(-1),1]:=by
 refine ff_of (q:=2) (k:=1) ⟨by decide,by decide,by decide,by decide,rfl,rfl,?_,by decide⟩ rfl (by decide) (by decide) (by decide) κ κ (.inr κ)
 intro i b a
 rcases (show i=0\/i=1 by simp at a;omega) with rfl|rfl<;>decide
theorem ff3:Ff ⟨3,1,[0,1]⟩ 3 [(-1),1,2]:=by
 refine ff_of (q:=3) (k:=1) ⟨by decide,by decide,by decide,by decide,rfl,rfl,?_,by decide⟩ rfl (by decide) (by decide) (by decide) κ κ (.inl κ)
 intro i b a
 rcases (show i=0\/i=1 by simp at a;omega) with rfl|rfl<;>decide
theorem ff4:Ff ⟨2,2,[1,1,1]⟩ 4 [(-1),1,3,2]:=by
 refine ff_of (q:=4) (k:=2) ⟨by decide,by decide,by decide,by decide,rfl,rfl,?_,by decide⟩ rfl (by decide) (by decide) (by decide) κ κ (.inr κ)
 intro i b a
 rcases (show i=0\/i=1\/i=2 by simp at a;omega) with rfl|rfl|rfl<;>decide
theorem ff5:Ff ⟨5,1,[0,1]⟩ 5 [(-1),1,3,2,4]:=by
 refine ff_of (q:=5) (k:=1) ⟨by decide,by decide,by decide,by decide,rfl,rfl,?_,by decide⟩ rfl (by decide) (by decide) (by decide) κ κ (.inl κ)
 intro i b a
 rcases (show i=0\/i=1 by simp at a;omega) with rfl|rfl<;>decide
theorem ff7:Ff ⟨7,1,[0,1]⟩ 7 [(-1),1,4,5,2,3,6]:=by
 refine ff_of (q:=7) (k:=1) ⟨by decide,by decide,by decide,by decide,rfl,rfl,?_,by decide⟩ rfl (by decide) (by decide) (by decide) κ κ (.inl κ)
 intro i b a
 rcases (show i=0\/i=1 by simp at a;omega) with rfl|rfl<;>decide
theorem ff8:Ff ⟨2,3,[1,1,0,1]⟩ 8 [(-1),1,5,6,7,2,3,4]:=by
 refine ff_of (q:=8) (k:=3) ⟨by decide,by decide,by decide,by decide,rfl,rfl,?_,by decide⟩ rfl (by decide) (by decide) (by decide) κ κ (.inr κ)
 intro i b a
 rcases (show i=0\/i=1\/i=2\/i=3 by simp at a;omega) with rfl|rfl|rfl|rfl<;>decide
theorem ff9:Ff ⟨3,2,[1,0,1]⟩ 9 [(-1),1,2,6,5,4,3,8,7]:=by
 refine ff_of (q:=9) (k:=2) ⟨by decide,by decide,by decide,by decide,rfl,rfl,?_,by decide⟩ rfl (by decide) (by decide) (by decide) κ κ (.inl κ)
 intro i b a
 rcases (show i=0\/i=1\/i=2 by simp at a;omega) with rfl|rfl|rfl<;>decide
theorem ff11:Ff ⟨11,1,[0,1]⟩ 11 [(-1),1,6,4,3,9,2,8,7,5,10]:=by
 refine ff_of (q:=11) (k:=1) ⟨by decide,by decide,by decide,by decide,rfl,rfl,?_,by decide⟩ rfl (by decide) (by decide) (by decide) κ κ (.inl κ)
 intro i b a
 rcases (show i=0\/i=1 by simp at a;omega) with rfl|rfl<;>decide
theorem ff13:Ff ⟨13,1,[0,1]⟩ 13 [(-1),1,7,9,10,8,11,2,5,3,4,6,12]:=by
 refine ff_of (q:=13) (k:=1) ⟨by decide,by decide,by decide,by decide,rfl,rfl,?_,by decide⟩ rfl (by decide) (by decide) (by decide) κ κ (.inl κ)
 intro i b a
 rcases (show i=0\/i=1 by simp at a;omega) with rfl|rfl<;>decide
theorem ff16:Ff ⟨2,4,[1,1,0,0,1]⟩ 16 [(-1),1,9,14,13,11,7,6,15,2,12,5,10,4,3,8]:=by
 refine ff_of (q:=16) (k:=4) ⟨by decide,by decide,by decide,by decide,rfl,rfl,?_,by decide⟩ rfl (by decide) (by decide) (by decide) κ κ (.inr κ)
 intro i b a
 rcases (show i=0\/i=1\/i=2\/i=3\/i=4 by simp at a;omega) with rfl|rfl|rfl|rfl|rfl<;>decide
theorem ff17:Ff ⟨17,1,[0,1]⟩ 17 [(-1),1,9,6,13,7,3,5,15,2,12,14,10,4,11,8,16]:=by
 refine ff_of (q:=17) (k:=1) ⟨by decide,by decide,by decide,by decide,rfl,rfl,?_,by decide⟩ rfl (by decide) (by decide) (by decide) κ κ (.inl κ)
 intro i b a
 rcases (show i=0\/i=1 by simp at a;omega) with rfl|rfl<;>decide
theorem ff19:Ff ⟨19,1,[0,1]⟩ 19 [(-1),1,10,13,5,4,16,11,12,17,2,7,8,3,15,14,6,9,18]:=by
 refine ff_of (q:=19) (k:=1) ⟨by decide,by decide,by decide,by decide,rfl,rfl,?_,by decide⟩ rfl (by decide) (by decide) (by decide) κ κ (.inl κ)
 intro i b a
 rcases (show i=0\/i=1 by simp at a;omega) with rfl|rfl<;>decide
theorem ff23:Ff ⟨23,1,[0,1]⟩ 23 [(-1),1,12,8,6,14,4,10,3,18,7,21,2,16,5,20,13,19,9,17,15,11,22]:=by
 refine ff_of (q:=23) (k:=1) ⟨by decide,by decide,by decide,by decide,rfl,rfl,?_,by decide⟩ rfl (by decide) (by decide) (by decide) κ κ (.inl κ)
 intro i b a
 rcases (show i=0\/i=1 by simp at a;omega) with rfl|rfl<;>decide
theorem ff25:Ff ⟨5,2,[2,0,1]⟩ 25 [(-1),1,3,2,4,10,17,22,23,18,5,14,21,24,11,20,19,6,9,16,15,12,7,8,13]:=by
 refine ff_of (q:=25) (k:=2) ⟨by decide,by decide,by decide,by decide,rfl,rfl,?_,by decide⟩ rfl (by decide) (by decide) (by decide) κ κ (.inl κ)
 intro i b a
 rcases (show i=0\/i=1\/i=2 by simp at a;omega) with rfl|rfl|rfl<;>decide
theorem ff27:Ff ⟨3,3,[1,2,0,1]⟩ 27 [(-1),1,2,19,21,24,11,12,15,25,23,6,7,22,18,8,20,26,14,3,16,4,13,10,5,9,17]:=by
 refine ff_of (q:=27) (k:=3) ⟨by decide,by decide,by decide,by decide,rfl,rfl,?_,by decide⟩ rfl (by decide) (by decide) (by decide) κ κ (.inl κ)
 intro i b a
 rcases (show i=0\/i=1\/i=2\/i=3 by simp at a;omega) with rfl|rfl|rfl|rfl<;>decide
theorem ff29:Ff ⟨29,1,[0,1]⟩ 29 [(-1),1,15,10,22,6,5,25,11,13,3,8,17,9,27,2,20,12,21,26,16,18,4,24,23,7,19,14,28]:=by
 refine ff_of (q:=29) (k:=1) ⟨by decide,by decide,by decide,by decide,rfl,rfl,?_,by decide⟩ rfl (by decide) (by decide) (by decide) κ κ (.inl κ)
 intro i b a
 rcases (show i=0\/i=1 by simp at a;omega) with rfl|rfl<;>decide
theorem ff31:Ff ⟨31,1,[0,1]⟩ 31 [(-1),1,16,21,8,25,26,9,4,7,28,17,13,12,20,29,2,11,19,18,14,3,24,27,22,5,6,23,10,15,30]:=by
 refine ff_of (q:=31) (k:=1) ⟨by decide,by decide,by decide,by decide,rfl,rfl,?_,by decide⟩ rfl (by decide) (by decide) (by decide) κ κ (.inl κ)
 intro i b a
 rcases (show i=0\/i=1 by simp at a;omega) with rfl|rfl<;>decide
theorem ff32:Ff ⟨2,5,[1,0,1,0,0,1]⟩ 32 [(-1),1,18,28,9,23,14,12,22,4,25,16,7,15,6,13,11,24,2,29,30,26,8,5,17,10,21,31,3,19,20,27]:=by
 refine ff_of (q:=32) (k:=5) ⟨by decide,by decide,by decide,by decide,rfl,rfl,?_,by decide⟩ rfl (by decide) (by decide) (by decide) κ κ (.inr κ)
 intro i b a
 rcases (show i=0\/i=1\/i=2\/i=3\/i=4\/i=5 by simp at a;omega) with rfl|rfl|rfl|rfl|rfl|rfl<;>decide
theorem ff37:Ff ⟨37,1,[0,1]⟩ 37 [(-1),1,19,25,28,15,31,16,14,33,26,27,34,20,8,5,7,24,35,2,13,30,32,29,17,3,10,11,4,23,21,6,22,9,12,18,36]:=by
 refine ff_of (q:=37) (k:=1) ⟨by decide,by decide,by decide,by decide,rfl,rfl,?_,by decide⟩ rfl (by decide) (by decide) (by decide) κ κ (.inl κ)
 intro i b a
 rcases (show i=0\/i=1 by simp at a;omega) with rfl|rfl<;>decide
theorem ff41:Ff ⟨41,1,[0,1]⟩ 41 [(-1),1,21,14,31,33,7,6,36,32,37,15,24,19,3,11,18,29,16,13,39,2,28,25,12,23,30,38,22,17,26,4,9,5,35,34,8,10,27,20,40]:=by
 refine ff_of (q:=41) (k:=1) ⟨by decide,by decide,by decide,by decide,rfl,rfl,?_,by decide⟩ rfl (by decide) (by decide) (by decide) κ κ (.inl κ)
 intro i b a
 rcases (show i=0\/i=1 by simp at a;omega) with rfl|rfl<;>decide
theorem ff43:Ff ⟨43,1,[0,1]⟩ 43 [(-1),1,22,29,11,26,36,37,27,24,13,4,18,10,40,23,35,38,12,34,28,41,2,15,9,31,5,8,20,3,33,25,39,30,19,16,6,7,17,32,14,21,42]:=by
 refine ff_of (q:=43) (k:=1) ⟨by decide,by decide,by decide,by decide,rfl,rfl,?_,by decide⟩ rfl (by decide) (by decide) (by decide) κ κ (.inl κ)
 intro i b a
 rcases (show i=0\/i=1 by simp at a;omega) with rfl|rfl<;>decide
theorem ff47:Ff ⟨47,1,[0,1]⟩ 47 [(-1),1,24,16,12,19,8,27,6,21,33,30,4,29,37,22,3,36,34,5,40,9,15,45,2,32,38,7,42,13,11,44,25,10,18,43,17,14,26,41,20,39,28,35,31,23,46]:=by
 refine ff_of (q:=47) (k:=1) ⟨by decide,by decide,by decide,by decide,rfl,rfl,?_,by decide⟩ rfl (by decide) (by decide) (by decide) κ κ (.inl κ)
 intro i b a
 rcases (show i=0\/i=1 by simp at a;omega) with rfl|rfl<;>decide
theorem ff49:Ff ⟨7,2,[1,0,1]⟩ 49 [(-1),1,4,5,2,3,6,42,25,34,15,20,29,24,21,10,37,18,17,40,11,14,47,26,13,8,23,44,35,12,33,48,43,30,9,28,45,16,39,38,19,46,7,32,27,36,41,22,31]:=by
 refine ff_of (q:=49) (k:=2) ⟨by decide,by decide,by decide,by decide,rfl,rfl,?_,by decide⟩ rfl (by decide) (by decide) (by decide) κ κ (.inl κ)
 intro i b a
 rcases (show i=0\/i=1\/i=2 by simp at a;omega) with rfl|rfl|rfl<;>decide
theorem ff53:Ff ⟨53,1,[0,1]⟩ 53 [(-1),1,27,18,40,32,9,38,20,6,16,29,31,49,19,46,10,25,3,14,8,48,41,30,42,17,51,2,36,11,23,12,5,45,39,50,28,43,7,34,4,22,24,37,47,33,15,44,21,13,35,26,52]:=by
 refine ff_of (q:=53) (k:=1) ⟨by decide,by decide,by decide,by decide,rfl,rfl,?_,by decide⟩ rfl (by decide) (by decide) (by decide) κ κ (.inl κ)
 intro i b a
 rcases (show i=0\/i=1 by simp at a;omega) with rfl|rfl<;>decide
theorem ff59:Ff ⟨59,1,[0,1]⟩ 59 [(-1),1,30,20,15,12,10,17,37,46,6,43,5,50,38,4,48,7,23,28,3,45,51,18,32,26,25,35,19,57,2,40,24,34,33,27,41,8,14,56,31,36,52,11,55,21,9,54,16,53,13,22,42,49,47,44,39,29,58]:=by
 refine ff_of (q:=59) (k:=1) ⟨by decide,by decide,by decide,by decide,rfl,rfl,?_,by decide⟩ rfl (by decide) (by decide) (by decide) κ κ (.inl κ)
 intro i b a
 rcases (show i=0\/i=1 by simp at a;omega) with rfl|rfl<;>decide
theorem ff61:Ff ⟨61,1,[0,1]⟩ 61 [(-1),1,31,41,46,49,51,35,23,34,55,50,56,47,48,57,42,18,17,45,58,32,25,8,28,22,54,52,24,40,59,2,21,37,9,7,39,33,53,36,29,3,16,44,43,19,4,13,14,5,11,6,27,38,26,10,12,15,20,30,60]:=by
 refine ff_of (q:=61) (k:=1) ⟨by decide,by decide,by decide,by decide,rfl,rfl,?_,by decide⟩ rfl (by decide) (by decide) (by decide) κ κ (.inl κ)
 intro i b a
 rcases (show i=0\/i=1 by simp at a;omega) with rfl|rfl<;>decide
theorem ff64:Ff ⟨2,6,[1,1,0,0,0,0,1]⟩ 64 [(-1),1,33,62,49,43,31,44,57,37,52,28,46,40,22,25,61,54,51,39,26,35,14,24,23,15,20,34,11,53,45,6,63,2,27,21,56,9,50,19,13,47,48,5,7,30,12,41,42,4,38,18,10,29,17,60,36,8,59,58,55,16,3,32]:=by
 refine ff_of (q:=64) (k:=6) ⟨by decide,by decide,by decide,by decide,rfl,rfl,?_,by decide⟩ rfl (by decide) (by decide) (by decide) κ κ (.inr κ)
 intro i b a
 rcases (show i=0\/i=1\/i=2\/i=3\/i=4\/i=5\/i=6 by simp at a;omega) with rfl|rfl|rfl|rfl|rfl|rfl|rfl<;>decide
theorem ZrS {q:Int} {f:Zf} (h:GF q f):∃ a,Ff f q a:=by
 cases h
 ·exact ⟨_,ff2⟩
 ·exact ⟨_,ff3⟩
 ·exact ⟨_,ff4⟩
 ·exact ⟨_,ff5⟩
 ·exact ⟨_,ff7⟩
 ·exact ⟨_,ff8⟩
 ·exact ⟨_,ff9⟩
 ·exact ⟨_,ff11⟩
 ·exact ⟨_,ff13⟩
 ·exact ⟨_,ff16⟩
 ·exact ⟨_,ff17⟩
 ·exact ⟨_,ff19⟩
 ·exact ⟨_,ff23⟩
 ·exact ⟨_,ff25⟩
 ·exact ⟨_,ff27⟩
 ·exact ⟨_,ff29⟩
 ·exact ⟨_,ff31⟩
 ·exact ⟨_,ff32⟩
 ·exact ⟨_,ff37⟩
 ·exact ⟨_,ff41⟩
 ·exact ⟨_,ff43⟩
 ·exact ⟨_,ff47⟩
 ·exact ⟨_,ff49⟩
 ·exact ⟨_,ff53⟩
 ·exact ⟨_,ff59⟩
 ·exact ⟨_,ff61⟩
 ·exact ⟨_,ff64⟩
structure Made (q:Int) (f:Zf):Prop where
 gf:GF q f
 split:ZbY q=some (f.Prime,f.Degree)
 mks:Zff q=some f
 mki:ZbI q=some (f,0)
 oks:ZgB f=some true
 oki:ZgH f=some true
 szs:Za8 f=some q
 szi:Za2 f=some q
def FldAt (q:Int):Prop:=(∃ f,Made q f)\/(ZbY q=some (0,0)/\∃ e,ZbI q=some (⟨0,0,[]⟩,e))
theorem mk2:FldAt 2:=.inl ⟨_,.f2,Zr (F:=100) _ _ κ,Zad (F:=100) _ _ κ,Zs (F:=100) _ _ κ,Z8 (F:=100) _ _ κ,Zac (F:=100) _ _ κ,Z9 (F:=100) _ _ κ,Zaa (F:=100) _ _ κ⟩
theorem mk3:FldAt 3:=.inl ⟨_,.f3,Zr (F:=100) _ _ κ,Zad (F:=100) _ _ κ,Zs (F:=100) _ _ κ,Z8 (F:=100) _ _ κ,Zac (F:=100) _ _ κ,Z9 (F:=100) _ _ κ,Zaa (F:=100) _ _ κ⟩
theorem mk4:FldAt 4:=.inl ⟨_,.f4,Zr (F:=100) _ _ κ,Zad (F:=100) _ _ κ,Zs (F:=100) _ _ κ,Z8 (F:=100) _ _ κ,Zac (F:=100) _ _ κ,Z9 (F:=100) _ _ κ,Zaa (F:=100) _ _ κ⟩
theorem mk5:FldAt 5:=.inl ⟨_,.f5,Zr (F:=100) _ _ κ,Zad (F:=100) _ _ κ,Zs (F:=100) _ _ κ,Z8 (F:=100) _ _ κ,Zac (F:=100) _ _ κ,Z9 (F:=100) _ _ κ,Zaa (F:=100) _ _ κ⟩
theorem mk6:FldAt 6:=.inr ⟨Zr (F:=100) _ _ κ,_,Zs (F:=100) _ (⟨0,0,[]⟩,2) κ⟩
theorem mk7:FldAt 7:=.inl ⟨_,.f7,Zr (F:=100) _ _ κ,Zad (F:=100) _ _ κ,Zs (F:=100) _ _ κ,Z8 (F:=100) _ _ κ,Zac (F:=100) _ _ κ,Z9 (F:=100) _ _ κ,Zaa (F:=100) _ _ κ⟩
theorem mk8:FldAt 8:=.inl ⟨_,.f8,Zr (F:=100) _ _ κ,Zad (F:=100) _ _ κ,Zs (F:=100) _ _ κ,Z8 (F:=100) _ _ κ,Zac (F:=100) _ _ κ,Z9 (F:=100) _ _ κ,Zaa (F:=100) _ _ κ⟩
theorem mk9:FldAt 9:=.inl ⟨_,.f9,Zr (F:=100) _ _ κ,Zad (F:=100) _ _ κ,Zs (F:=100) _ _ κ,Z8 (F:=100) _ _ κ,Zac (F:=100) _ _ κ,Z9 (F:=100) _ _ κ,Zaa (F:=100) _ _ κ⟩
theorem mk10:FldAt 10:=.inr ⟨Zr (F:=100) _ _ κ,_,Zs (F:=100) _ (⟨0,0,[]⟩,2) κ⟩
theorem mk11:FldAt 11:=.inl ⟨_,.f11,Zr (F:=100) _ _ κ,Zad (F:=100) _ _ κ,Zs (F:=100) _ _ κ,Z8 (F:=100) _ _ κ,Zac (F:=100) _ _ κ,Z9 (F:=100) _ _ κ,Zaa (F:=100) _ _ κ⟩
theorem mk12:FldAt 12:=.inr ⟨Zr (F:=100) _ _ κ,_,Zs (F:=100) _ (⟨0,0,[]⟩,2) κ⟩
theorem mk13:FldAt 13:=.inl ⟨_,.f13,Zr (F:=100) _ _ κ,Zad (F:=100) _ _ κ,Zs (F:=100) _ _ κ,Z8 (F:=100) _ _ κ,Zac (F:=100) _ _ κ,Z9 (F:=100) _ _ κ,Zaa (F:=100) _ _ κ⟩
theorem mk14:FldAt 14:=.inr ⟨Zr (F:=100) _ _ κ,_,Zs (F:=100) _ (⟨0,0,[]⟩,2) κ⟩
theorem mk15:FldAt 15:=.inr ⟨Zr (F:=100) _ _ κ,_,Zs (F:=100) _ (⟨0,0,[]⟩,2) κ⟩
theorem mk16:FldAt 16:=.inl ⟨_,.f16,Zr (F:=100) _ _ κ,Zad (F:=100) _ _ κ,Zs (F:=100) _ _ κ,Z8 (F:=100) _ _ κ,Zac (F:=100) _ _ κ,Z9 (F:=100) _ _ κ,Zaa (F:=100) _ _ κ⟩
theorem mk17:FldAt 17:=.inl ⟨_,.f17,Zr (F:=100) _ _ κ,Zad (F:=100) _ _ κ,Zs (F:=100) _ _ κ,Z8 (F:=100) _ _ κ,Zac (F:=100) _ _ κ,Z9 (F:=100) _ _ κ,Zaa (F:=100) _ _ κ⟩
theorem mk18:FldAt 18:=.inr ⟨Zr (F:=100) _ _ κ,_,Zs (F:=100) _ (⟨0,0,[]⟩,2) κ⟩
theorem mk19:FldAt 19:=.inl ⟨_,.f19,Zr (F:=100) _ _ κ,Zad (F:=100) _ _ κ,Zs (F:=100) _ _ κ,Z8 (F:=100) _ _ κ,Zac (F:=100) _ _ κ,Z9 (F:=100) _ _ κ,Zaa (F:=100) _ _ κ⟩
theorem mk20:FldAt 20:=.inr ⟨Zr (F:=100) _ _ κ,_,Zs (F:=100) _ (⟨0,0,[]⟩,2) κ⟩
theorem mk21:FldAt 21:=.inr ⟨Zr (F:=100) _ _ κ,_,Zs (F:=100) _ (⟨0,0,[]⟩,2) κ⟩
theorem mk22:FldAt 22:=.inr ⟨Zr (F:=100) _ _ κ,_,Zs (F:=100) _ (⟨0,0,[]⟩,2) κ⟩
theorem mk23:FldAt 23:=.inl ⟨_,.f23,Zr (F:=100) _ _ κ,Zad (F:=100) _ _ κ,Zs (F:=100) _ _ κ,Z8 (F:=100) _ _ κ,Zac (F:=100) _ _ κ,Z9 (F:=100) _ _ κ,Zaa (F:=100) _ _ κ⟩
theorem mk24:FldAt 24:=.inr ⟨Zr (F:=100) _ _ κ,_,Zs (F:=100) _ (⟨0,0,[]⟩,2) κ⟩
theorem mk25:FldAt 25:=.inl ⟨_,.f25,Zr (F:=100) _ _ κ,Zad (F:=100) _ _ κ,Zs (F:=100) _ _ κ,Z8 (F:=100) _ _ κ,Zac (F:=100) _ _ κ,Z9 (F:=100) _ _ κ,Zaa (F:=100) _ _ κ⟩
theorem mk26:FldAt 26:=.inr ⟨Zr (F:=100) _ _ κ,_,Zs (F:=100) _ (⟨0,0,[]⟩,2) κ⟩
theorem mk27:FldAt 27:=.inl ⟨_,.f27,Zr (F:=100) _ _ κ,Zad (F:=100) _ _ κ,Zs (F:=100) _ _ κ,Z8 (F:=100) _ _ κ,Zac (F:=100) _ _ κ,Z9 (F:=100) _ _ κ,Zaa (F:=100) _ _ κ⟩
theorem mk28:FldAt 28:=.inr ⟨Zr (F:=100) _ _ κ,_,Zs (F:=100) _ (⟨0,0,[]⟩,2) κ⟩
theorem mk29:FldAt 29:=.inl ⟨_,.f29,Zr (F:=100) _ _ κ,Zad (F:=100) _ _ κ,Zs (F:=100) _ _ κ,Z8 (F:=100) _ _ κ,Zac (F:=100) _ _ κ,Z9 (F:=100) _ _ κ,Zaa (F:=100) _ _ κ⟩
theorem mk30:FldAt 30:=.inr ⟨Zr (F:=100) _ _ κ,_,Zs (F:=100) _ (⟨0,0,[]⟩,2) κ⟩
theorem mk31:FldAt 31:=.inl ⟨_,.f31,Zr (F:=100) _ _ κ,Zad (F:=100) _ _ κ,Zs (F:=100) _ _ κ,Z8 (F:=100) _ _ κ,Zac (F:=100) _ _ κ,Z9 (F:=100) _ _ κ,Zaa (F:=100) _ _ κ⟩
theorem mk32:FldAt 32:=.inl ⟨_,.f32,Zr (F:=100) _ _ κ,Zad (F:=100) _ _ κ,Zs (F:=100) _ _ κ,Z8 (F:=100) _ _ κ,Zac (F:=100) _ _ κ,Z9 (F:=100) _ _ κ,Zaa (F:=100) _ _ κ⟩
theorem mk33:FldAt 33:=.inr ⟨Zr (F:=100) _ _ κ,_,Zs (F:=100) _ (⟨0,0,[]⟩,2) κ⟩
theorem mk34:FldAt 34:=.inr ⟨Zr (F:=100) _ _ κ,_,Zs (F:=100) _ (⟨0,0,[]⟩,2) κ⟩
theorem mk35:FldAt 35:=.inr ⟨Zr (F:=100) _ _ κ,_,Zs (F:=100) _ (⟨0,0,[]⟩,2) κ⟩
theorem mk36:FldAt 36:=.inr ⟨Zr (F:=100) _ _ κ,_,Zs (F:=100) _ (⟨0,0,[]⟩,2) κ⟩
theorem mk37:FldAt 37:=.inl ⟨_,.f37,Zr (F:=100) _ _ κ,Zad (F:=100) _ _ κ,Zs (F:=100) _ _ κ,Z8 (F:=100) _ _ κ,Zac (F:=100) _ _ κ,Z9 (F:=100) _ _ κ,Zaa (F:=100) _ _ κ⟩
theorem mk38:FldAt 38:=.inr ⟨Zr (F:=100) _ _ κ,_,Zs (F:=100) _ (⟨0,0,[]⟩,2) κ⟩
theorem mk39:FldAt 39:=.inr ⟨Zr (F:=100) _ _ κ,_,Zs (F:=100) _ (⟨0,0,[]⟩,2) κ⟩
theorem mk40:FldAt 40:=.inr ⟨Zr (F:=100) _ _ κ,_,Zs (F:=100) _ (⟨0,0,[]⟩,2) κ⟩
theorem mk41:FldAt 41:=.inl ⟨_,.f41,Zr (F:=100) _ _ κ,Zad (F:=100) _ _ κ,Zs (F:=100) _ _ κ,Z8 (F:=100) _ _ κ,Zac (F:=100) _ _ κ,Z9 (F:=100) _ _ κ,Zaa (F:=100) _ _ κ⟩
theorem mk42:FldAt 42:=.inr ⟨Zr (F:=100) _ _ κ,_,Zs (F:=100) _ (⟨0,0,[]⟩,2) κ⟩
theorem mk43:FldAt 43:=.inl ⟨_,.f43,Zr (F:=100) _ _ κ,Zad (F:=100) _ _ κ,Zs (F:=100) _ _ κ,Z8 (F:=100) _ _ κ,Zac (F:=100) _ _ κ,Z9 (F:=100) _ _ κ,Zaa (F:=100) _ _ κ⟩
theorem mk44:FldAt 44:=.inr ⟨Zr (F:=100) _ _ κ,_,Zs (F:=100) _ (⟨0,0,[]⟩,2) κ⟩
theorem mk45:FldAt 45:=.inr ⟨Zr (F:=100) _ _ κ,_,Zs (F:=100) _ (⟨0,0,[]⟩,2) κ⟩
theorem mk46:FldAt 46:=.inr ⟨Zr (F:=100) _ _ κ,_,Zs (F:=100) _ (⟨0,0,[]⟩,2) κ⟩
theorem mk47:FldAt 47:=.inl ⟨_,.f47,Zr (F:=100) _ _ κ,Zad (F:=100) _ _ κ,Zs (F:=100) _ _ κ,Z8 (F:=100) _ _ κ,Zac (F:=100) _ _ κ,Z9 (F:=100) _ _ κ,Zaa (F:=100) _ _ κ⟩
theorem mk48:FldAt 48:=.inr ⟨Zr (F:=100) _ _ κ,_,Zs (F:=100) _ (⟨0,0,[]⟩,2) κ⟩
theorem mk49:FldAt 49:=.inl ⟨_,.f49,Zr (F:=100) _ _ κ,Zad (F:=100) _ _ κ,Zs (F:=100) _ _ κ,Z8 (F:=100) _ _ κ,Zac (F:=100) _ _ κ,Z9 (F:=100) _ _ κ,Zaa (F:=100) _ _ κ⟩
theorem mk50:FldAt 50:=.inr ⟨Zr (F:=100) _ _ κ,_,Zs (F:=100) _ (⟨0,0,[]⟩,2) κ⟩
theorem mk51:FldAt 51:=.inr ⟨Zr (F:=100) _ _ κ,_,Zs (F:=100) _ (⟨0,0,[]⟩,2) κ⟩
theorem mk52:FldAt 52:=.inr ⟨Zr (F:=100) _ _ κ,_,Zs (F:=100) _ (⟨0,0,[]⟩,2) κ⟩
theorem mk53:FldAt 53:=.inl ⟨_,.f53,Zr (F:=100) _ _ κ,Zad (F:=100) _ _ κ,Zs (F:=100) _ _ κ,Z8 (F:=100) _ _ κ,Zac (F:=100) _ _ κ,Z9 (F:=100) _ _ κ,Zaa (F:=100) _ _ κ⟩
theorem mk54:FldAt 54:=.inr ⟨Zr (F:=100) _ _ κ,_,Zs (F:=100) _ (⟨0,0,[]⟩,2) κ⟩
theorem mk55:FldAt 55:=.inr ⟨Zr (F:=100) _ _ κ,_,Zs (F:=100) _ (⟨0,0,[]⟩,2) κ⟩
theorem mk56:FldAt 56:=.inr ⟨Zr (F:=100) _ _ κ,_,Zs (F:=100) _ (⟨0,0,[]⟩,2) κ⟩
theorem mk57:FldAt 57:=.inr ⟨Zr (F:=100) _ _ κ,_,Zs (F:=100) _ (⟨0,0,[]⟩,2) κ⟩
theorem mk58:FldAt 58:=.inr ⟨Zr (F:=100) _ _ κ,_,Zs (F:=100) _ (⟨0,0,[]⟩,2) κ⟩
theorem mk59:FldAt 59:=.inl ⟨_,.f59,Zr (F:=100) _ _ κ,Zad (F:=100) _ _ κ,Zs (F:=100) _ _ κ,Z8 (F:=100) _ _ κ,Zac (F:=100) _ _ κ,Z9 (F:=100) _ _ κ,Zaa (F:=100) _ _ κ⟩
theorem mk60:FldAt 60:=.inr ⟨Zr (F:=100) _ _ κ,_,Zs (F:=100) _ (⟨0,0,[]⟩,2) κ⟩
theorem mk61:FldAt 61:=.inl ⟨_,.f61,Zr (F:=100) _ _ κ,Zad (F:=100) _ _ κ,Zs (F:=100) _ _ κ,Z8 (F:=100) _ _ κ,Zac (F:=100) _ _ κ,Z9 (F:=100) _ _ κ,Zaa (F:=100) _ _ κ⟩
theorem mk62:FldAt 62:=.inr ⟨Zr (F:=100) _ _ κ,_,Zs (F:=100) _ (⟨0,0,[]⟩,2) κ⟩
theorem mk63:FldAt 63:=.inr ⟨Zr (F:=100) _ _ κ,_,Zs (F:=100) _ (⟨0,0,[]⟩,2) κ⟩
theorem mk64:FldAt 64:=.inl ⟨_,.f64,Zr (F:=100) _ _ κ,Zad (F:=100) _ _ κ,Zs (F:=100) _ _ κ,Z8 (F:=100) _ _ κ,Zac (F:=100) _ _ κ,Z9 (F:=100) _ _ κ,Zaa (F:=100) _ _ κ⟩
theorem ZyS {ρ:Type} {B:Int->Option (Int ⊕ ρ)} {i n:Int} (hi:i<=n) (h:∀ k,i<=k->k<n->(∃ r,B k=some (.inr r))\/B k=some (.inl (k+1))) (l:∃ r,B n=some (.inr r)):∃ r,loop B i=some r:=by
 have e:∀ (d:Nat) (k:Int),k+d=n->i<=k->∃ r,loop B k=some r:=by
  intro d
  induction d with
  | zero=>intro k j _;obtain rfl:k=n:= ω;obtain ⟨r,a⟩:=l;exact ⟨r,Ze a⟩
  | succ d g=>
   intro k j c
   rcases h k c ω with ⟨r,a⟩|a
   ·exact ⟨r,Ze a⟩
   ·rw [ZI a];exact g (k+1) ω ω
 exact e (n-i).toNat i ω ω
theorem Zqr {l:Nat} {n:Int} (a:1<=n) (h:pwN 2 l*n<=1000000):l<=20:=by
 by_cases g:l<=20
 ·exact g
 ·exfalso
  have b:=Zlj (p:=2) ω (m:=20) (l-20)
  rw [show 20+(l-20)=l by omega] at b
  have c:pwN 2 20=1048576:=by decide
  have e:pwN 2 l*1<=pwN 2 l*n:=Int.mul_le_mul_of_nonneg_left a ω
  omega
theorem Zs8 {p:Int} (hp:2<=p) (f:p<=1000):∀ (d:Nat) (n:Int) (y:List Int),n<=d->1<=n->pwN 2 y.length*n<=1000000->∃ n' a0,loop (Zc7 p) (n,y)=some (.inl (n',a0,p+1))/\1<=n'/\n'<=n/\pwN 2 a0.length*n'<=1000000
 | 0,n,y,h,e,_=>by omega
 | d+1,n,y,h,e,g=>by
  have hl:=Zqr e g
  have i:=Int.tmod_eq_emod_of_nonneg (b:=p) (a:=n) ω
  have l:=Int.tdiv_eq_ediv_of_nonneg (b:=p) (a:=n) ω
  have a2:=Zbf (p:=2) ω y.length
  by_cases hm:n%p=0
  ·have o:p*(n/p)=n:=Int.mul_ediv_cancel' (Int.dvd_of_emod_eq_zero hm)
   have j:0<=n/p:=Int.ediv_nonneg ω ω
   have k:1<=n/p:=by
    by_cases r:n/p=0
    ·rw [r] at o;omega
    ·omega
   have w:2*(n/p)<=p*(n/p):=Int.mul_le_mul_of_nonneg_right hp j
   have a4:pwN 2 (y++[p]).length*(n/p)<=1000000:=by
    rw [List.length_append]
    show pwN 2 y.length*2*(n/p)<=_
    rw [Int.mul_assoc]
    have:pwN 2 y.length*(2*(n/p))<=pwN 2 y.length*n:=Int.mul_le_mul_of_nonneg_left ω ω
    omega
   have s:n<=1000000:=by
    have:=Int.mul_le_mul_of_nonneg_right (a:=1) (b:=pwN 2 y.length) (c:=n) a2 ω
    omega
   obtain ⟨n',a0,t,u,x,v⟩:=Zs8 hp f d (n/p) (y++[p]) ω k a4
   refine ⟨n',a0,?_,u,by omega,v⟩
   rw [<-t]
   refine ZI ?_
   have hz:n.tmod p=0:=by rw [i];exact hm
   simp (disch:=omega) only [pz,Zc7,hz,l,gApp1]
  ·have s:n<=1000000:=by
    have:=Int.mul_le_mul_of_nonneg_right (a:=1) (b:=pwN 2 y.length) (c:=n) a2 ω
    omega
   refine ⟨n,y,Ze ?_,e,by omega,g⟩
   have hz:¬ n.tmod p=0:=by rw [i];exact hm
   simp (disch:=omega) only [pz,Zc7,hz]
theorem ZFC:∀ (d:Nat) (n:Int) (u:List Int) (p:Int),1001-p<=d->2<=p->p<=1001->1<=n->n<=1000000->pwN 2 u.length*n<=1000000->∃ r:List Int,loop Zbi (n,u,p)=some r/\r.length<=21:=by
 intro d
 induction d with
 | zero=>
  intro n u p g hp a b i c
  have y:=Zqr b c
  obtain rfl:p=1001:=ω
  by_cases h:1<n
  ·refine ⟨u++[n],Ze ?_,by simp;omega⟩
   simp (disch:=omega) only [pz,Zbi,gApp1]
  ·refine ⟨u,Ze ?_,by omega⟩
   simp (disch:=omega) only [pz,Zbi]
 | succ d x=>
  intro n u p g hp a b i c
  have y:=Zqr b c
  have a2:0<=p*p/\p*p<=1002001:=by
   refine ⟨Int.mul_nonneg ω ω,?_⟩
   have:=Int.mul_le_mul a a ω ω
   omega
  by_cases o:p*p<=n
  ·have e:p<=1000:=by
    by_cases h:p<=1000
    ·exact h
    ·have:(1001:Int)*1001<=p*p:=Int.mul_le_mul ω ω ω ω
     omega
   obtain ⟨n',w,j,k,s,l⟩:=Zs8 hp e n.toNat n u ω b c
   obtain ⟨r,hr,f⟩:=x n' w (p+1) ω ω ω k ω l
   refine ⟨r,?_,f⟩
   rw [<-hr]
   refine ZI ?_
   simp (disch:=omega) only [pz,Zbi,j]
  ·by_cases h:1<n
   ·refine ⟨u++[n],Ze ?_,by simp;omega⟩
    simp (disch:=omega) only [pz,Zbi,gApp1]
   ·refine ⟨u,Ze ?_,by omega⟩
    simp (disch:=omega) only [pz,Zbi]
theorem ZwL (n:Int):∃ r:List Int,Zb1 n=some r/\r.length<=21:=by
 unfold Zb1 Zab
 by_cases b:1<=n
 ·by_cases c:n<=1000000
  ·obtain ⟨r,e,a⟩:=ZFC 1001 n [] 2 ω ω ω b c (by show 1*n<=_;omega)
   refine ⟨r,?_,a⟩
   rw [<-e]
   simp (disch:=omega) only [pz,]
  ·refine ⟨[],?_,by simp⟩
   simp (disch:=omega) only [pz,]
 ·refine ⟨[],?_,by simp⟩
  simp (disch:=omega) only [pz,]
theorem ZBZ (n:Int):∃ r:Int×Int,Zb2 n=some r:=by
 unfold Zb2
 obtain ⟨l,c,a⟩:=ZwL n
 rw [c]
 show ∃ r,loop (ZbC l) 0=some r
 refine ZyS (n:=l.length) ω ?_ ?_
 ·intro k b k1
  by_cases h:ix l k=ix l 0
  ·refine .inr ?_
   simp (disch:=omega) only [pz,ZbC,h]
  ·refine .inl ⟨(0,0),?_⟩
   simp (disch:=omega) only [pz,ZbC,h]
 ·by_cases h:l.length=0
  ·refine ⟨(0,0),?_⟩
   simp (disch:=omega) only [pz,ZbC]
  ·refine ⟨(ix l 0,l.length),?_⟩
   simp (disch:=omega) only [pz,ZbC,ZX]
theorem Zq8 (q:Int):FldAt q:=by
 by_cases h:2<=q/\q<=64
 ·obtain ⟨a,b⟩:=h
  obtain ⟨n,rfl⟩:∃ n:Nat,q=(n:Int):=⟨q.toNat,by omega⟩
  have g:n<65:=ω
  have f:2<=n:=ω
  clear a b
  revert n
  have j:∀ n:Nat,n<65->2<=n->FldAt (n:Int):=by
   intro n a b
   match n,a,b with
   | 0,_,h=>omega
   | 1,_,h=>omega
   | 2,_,_=>exact mk2
   | 3,_,_=>exact mk3
   | 4,_,_=>exact mk4
   | 5,_,_=>exact mk5
   | 6,_,_=>exact mk6
   | 7,_,_=>exact mk7
   | 8,_,_=>exact mk8
   | 9,_,_=>exact mk9
   | 10,_,_=>exact mk10
   | 11,_,_=>exact mk11
   | 12,_,_=>exact mk12
   | 13,_,_=>exact mk13
   | 14,_,_=>exact mk14
   | 15,_,_=>exact mk15
   | 16,_,_=>exact mk16
   | 17,_,_=>exact mk17
   | 18,_,_=>exact mk18
   | 19,_,_=>exact mk19
   | 20,_,_=>exact mk20
   | 21,_,_=>exact mk21
   | 22,_,_=>exact mk22
   | 23,_,_=>exact mk23
   | 24,_,_=>exact mk24
   | 25,_,_=>exact mk25
   | 26,_,_=>exact mk26
   | 27,_,_=>exact mk27
   | 28,_,_=>exact mk28
   | 29,_,_=>exact mk29
   | 30,_,_=>exact mk30
   | 31,_,_=>exact mk31
   | 32,_,_=>exact mk32
   | 33,_,_=>exact mk33
   | 34,_,_=>exact mk34
   | 35,_,_=>exact mk35
   | 36,_,_=>exact mk36
   | 37,_,_=>exact mk37
   | 38,_,_=>exact mk38
   | 39,_,_=>exact mk39
   | 40,_,_=>exact mk40
   | 41,_,_=>exact mk41
   | 42,_,_=>exact mk42
   | 43,_,_=>exact mk43
   | 44,_,_=>exact mk44
   | 45,_,_=>exact mk45
   | 46,_,_=>exact mk46
   | 47,_,_=>exact mk47
   | 48,_,_=>exact mk48
   | 49,_,_=>exact mk49
   | 50,_,_=>exact mk50
   | 51,_,_=>exact mk51
   | 52,_,_=>exact mk52
   | 53,_,_=>exact mk53
   | 54,_,_=>exact mk54
   | 55,_,_=>exact mk55
   | 56,_,_=>exact mk56
   | 57,_,_=>exact mk57
   | 58,_,_=>exact mk58
   | 59,_,_=>exact mk59
   | 60,_,_=>exact mk60
   | 61,_,_=>exact mk61
   | 62,_,_=>exact mk62
   | 63,_,_=>exact mk63
   | 64,_,_=>exact mk64
   | n+65,h,_=>omega
  exact j
 ·refine .inr ⟨?_,?_⟩
  ·unfold ZbY Z2
   by_cases a:2<=q
   ·simp (disch:=omega) only [pz,]
   ·simp (disch:=omega) only [pz,]
  ·obtain ⟨r,k⟩:=ZBZ q
   by_cases a:64<q
   ·refine ⟨2,?_⟩
    unfold ZbI
    rw [k]
    by_cases c:r.1=0
    ·simp (disch:=omega) only [pz,c]
    ·simp (disch:=omega) only [pz,c]
   ·have hz:Zb2 q=some (0,0):=by
     by_cases b:1<=q
     ·obtain rfl:q=1:=ω
      have:ZbI 1=some (⟨0,0,[]⟩,2):=Zs (F:=100) _ _ κ
      exact ZtS (F:=100) _ _ κ
     ·unfold Zb2 Zb1 Zab
      have e:loop (ZbC []) 0=some (0,0):=by
       refine Ze ?_
       rfl
      simp (disch:=omega) only [pz,e]
    refine ⟨2,?_⟩
    unfold ZbI
    rw [hz]
    rfl
def Tb (q:Int) (g:Int->Int) (b:Int):List Int:=tabl q fun j=>if j<b then g j else 0
theorem Zqm {q b:Int} {g:Int->Int} (a:0<=b) (c:b<q):(Tb q g b).set b.toNat (g b)=Tb q g (b+1):=by
 apply Zah a c
 ·intro j e f h
  by_cases k:j<b
  ·rw [if_pos k,if_pos ω]
  ·rw [if_neg k,if_neg ω]
 ·rw [if_pos ω]
theorem ZoL {q:Int} {g:Int->Int}:Tb q g 0=List.replicate q.toNat 0:=by
 rw [ZfT]
 exact ZQ fun j a b=>by rw [if_neg ω]
theorem ZFT {q:Int} {g:Int->Int}:Tb q g q=tabl q g:=ZQ fun j b a=>by rw [if_pos a]
theorem Zl5 {q b:Int} {g:Int->Int}:(Tb q g b).length=q.toNat:=Zn
def iv (q:Int) (c:List Int) (a b:Int):List Int:=tabl q fun i=>if 1<=i/\(i<a\/(i=a/\ix c a<b)) then ix c i else 0
def tabs (f:Zf) (q:Int) (c:List Int):Zae:=
 ⟨q,tabl q fun a=>tabl q fun b=>sumA f a b 1,tabl q fun a=>tabl q fun b=>sumA f a b (f.Prime-1),tabl q fun a=>tabl q fun b=>mulA f a b,tabl q fun i=>if 1<=i then ix c i else 0⟩
theorem ZDk {q a b:Int} {c:List Int}:(iv q c a b).length=q.toNat:=Zn
theorem ZBh {f:Zf} {q:Int} {a0:List Int} (hF:Ff f q a0) {a:Int} (l:0<=a) (p:a<q) {A S M:List (List Int)} (hA:(A.length:Int)=a) (hS:(S.length:Int)=a) (hM:(M.length:Int)=a):
  loop (Zdo f q a A S M) (0,iv q a0 a 0,List.replicate q.toNat 0,List.replicate q.toNat 0,List.replicate q.toNat 0)=some (.inl (a+1,A++[tabl q fun b=>sumA f a b 1],S++[tabl q fun b=>sumA f a b (f.Prime-1)],M++[tabl q fun b=>mulA f a b],iv q a0 (a+1) 0)):=by
 have a9:=hF.q2;have a7:=hF.q64
 have ab:=Zm (B:=Zdo f q a A S M) (fun b=>(b,iv q a0 a b,Tb q (fun b=>sumA f a b 1) b,Tb q (fun b=>sumA f a b (f.Prime-1)) b,Tb q (fun b=>mulA f a b) b)) (i:=0) (n:=q) ω fun b e k=>by
  have c1:=Zuz hF.fd (a:=a) (b:=b) (c:=1) (s:=1) l ω e ω (.inl ⟨rfl,rfl⟩)
  have c2:=Zuz hF.fd (a:=a) (b:=b) (c:=f.Prime-1) (s:=-1) l ω e ω (.inr ⟨rfl,rfl⟩)
  have r:=ZvI hF.fd (a:=a) (b:=b) l ω e ω
  have t:=Zqm (q:=q) (b:=b) (g:=fun b=>sumA f a b 1) e k
  have u:=Zqm (q:=q) (b:=b) (g:=fun b=>sumA f a b (f.Prime-1)) e k
  have v:=Zqm (q:=q) (b:=b) (g:=fun b=>mulA f a b) e k
  have l1:(Tb q (fun b=>sumA f a b 1) b).length=q.toNat:=Zl5
  have l2:(Tb q (fun b=>sumA f a b (f.Prime-1)) b).length=q.toNat:=Zl5
  have w:(Tb q (fun b=>mulA f a b) b).length=q.toNat:=Zl5
  have x:(Tb q (fun b=>mulA f a b) (b+1)).length=q.toNat:=Zl5
  have y:(iv q a0 a b).length=q.toNat:=ZDk
  have x3:ix (Tb q (fun b=>mulA f a b) (b+1)) b=mulA f a b:=by
   unfold Tb
   rw [ZM e k,if_pos ω]
  have hI:=hF.inv2 a b l p e k
  by_cases hm:mulA f a b=1
  ·have hb:=hI.1 hm
   have a2:1<=a:=by
    by_cases h:a=0
    ·subst h
     rw [hF.z1 b e k] at hm
     omega
    ·omega
   have o:(iv q a0 a b).set a.toNat b=iv q a0 a (b+1):=by
    apply Zah l p
    ·intro j j0 j1 j2
     by_cases hj:1<=j/\(j<a\/(j=a/\ix a0 a<b))
     ·rw [if_pos hj,if_pos ω]
     ·rw [if_neg hj,if_neg ω]
    ·rw [if_pos ω,hb]
   simp (disch:=omega) only [pz,Zdo,c1,c2,r,l1,l2,w,x,y,t,u,v,x3,o]
  ·have hb:¬ b=ix a0 a:=fun h=>hm (hI.2 h)
   have o:iv q a0 a b=iv q a0 a (b+1):=by
    refine ZQ fun j j0 j1=>?_
    by_cases hj:1<=j/\(j<a\/(j=a/\ix a0 a<b))
    ·rw [if_pos hj,if_pos ω]
    ·rw [if_neg hj,if_neg ω]
   rw [o]
   simp (disch:=omega) only [pz,Zdo,c1,c2,r,l1,l2,w,x,y,t,u,v,x3]
 have e0:((0:Int),iv q a0 a 0,List.replicate q.toNat (0:Int),List.replicate q.toNat (0:Int),List.replicate q.toNat (0:Int))=(fun b=>(b,iv q a0 a b,Tb q (fun b=>sumA f a b 1) b,Tb q (fun b=>sumA f a b (f.Prime-1)) b,Tb q (fun b=>mulA f a b) b)) 0:=by
  show _=((0:Int),iv q a0 a 0,Tb q _ 0,Tb q _ 0,Tb q _ 0)
  rw [ZoL,ZoL,ZoL]
 rw [e0,ab]
 refine Ze ?_
 have o:iv q a0 a q=iv q a0 (a+1) 0:=by
  refine ZQ fun j j0 j1=>?_
  by_cases hj:1<=j/\j<a+1
  ·by_cases h:j=a
   ·have:=hF.inv1 a ω p
    rw [if_pos ω,if_pos ω]
   ·rw [if_pos ω,if_pos ω]
  ·by_cases h:j=a+1
   ·by_cases h':a+1<q
    ·have:=hF.inv1 (a+1) ω h'
     rw [if_neg ω,if_neg ω]
    ·omega
   ·rw [if_neg ω,if_neg ω]
 simp only [ZFT,o]
 simp (disch:=omega) only [pz,Zdo,gApp1]
theorem Zu9 {f:Zf} {q:Int} {u:List Int} (w:Ff f q u) (hs:Za2 f=some q):ZgV f=some (tabs f q u):=by
 have r:=w.q2;have c:=w.q64
 unfold ZgV
 rw [show Zf.mk f.Prime f.Degree f.Poly=f from rfl,hs]
 simp (disch:=omega) only [pz,Zav]
 have y:List.replicate q.toNat (0:Int)=iv q u 0 0:=by
  rw [ZfT]
  exact ZQ fun j e g=>by
   by_cases h:j=0
   ·rw [if_neg ω]
   ·rw [if_neg ω]
 have x:=Zm (B:=ZfO f q) (fun a=>(a,tabl a fun a=>tabl q fun b=>sumA f a b 1,tabl a fun a=>tabl q fun b=>sumA f a b (f.Prime-1),tabl a fun a=>tabl q fun b=>mulA f a b,iv q u a 0)) (i:=0) (n:=q) ω fun a k l=>by
  have:=ZBh w k l (A:=tabl a fun a=>tabl q fun b=>sumA f a b 1) (S:=tabl a fun a=>tabl q fun b=>sumA f a b (f.Prime-1)) (M:=tabl a fun a=>tabl q fun b=>mulA f a b) (by rw [Zn];omega) (by rw [Zn];omega) (by rw [Zn];omega)
  simp (disch:=omega) only [pz,ZfO,Zav,this,ZY]
 have o:((0:Int),([]:List (List Int)),([]:List (List Int)),([]:List (List Int)),List.replicate q.toNat (0:Int))=(fun a=>(a,tabl a fun a=>tabl q fun b=>sumA f a b 1,tabl a fun a=>tabl q fun b=>sumA f a b (f.Prime-1),tabl a fun a=>tabl q fun b=>mulA f a b,iv q u a 0)) 0:=by
  rw [y];rfl
 rw [o,x]
 refine Ze ?_
 have p:iv q u q 0=tabl q fun i=>if 1<=i then ix u i else 0:=by
  refine ZQ fun j e g=>?_
  by_cases h:1<=j
  ·rw [if_pos ω,if_pos h]
  ·rw [if_neg ω,if_neg h]
 simp (disch:=omega) only [pz,ZfO,p]
 rfl
structure Mat (q w:Int) (xs:List (List Int)):Prop where
 len:∀ i,0<=i->i<(xs.length:Int)->((ix xs i).length:Int)=w
 rng:∀ i,0<=i->i<(xs.length:Int)->In q (ix xs i)
 n:(xs.length:Int)<=64
 w1:w<=64
def scl (f:Zf) (row:List Int) (c:Int):List Int:=tabl row.length fun t=>mulA f (ix row t) c
def less (f:Zf) (v w:List Int) (c:Int):List Int:=tabl v.length fun t=>sumA f (ix v t) (mulA f (ix w t) c) (f.Prime-1)
def elim (f:Zf) (c r:Int) (row:List Int) (a:List (List Int)):List (List Int):=tabl a.length fun j=>if j=r then row else less f (ix a j) row (ix (ix a j) c)
theorem Zzj {f:Zf} {q:Int} {u:List Int} (w:Ff f q u) {e:Int} (g:1<=e) (c:e<q):Zio f e=some (ix u e):=by
 have j:=w.q64
 obtain ⟨k,l⟩:=w.inv1 e g c
 unfold Zio
 have a0:=Zm (B:=Zhu f e) (fun b=>b) (i:=1) (n:=ix u e) ω fun b o p=>by
  have x:=Zku w.fd (a:=e) (b:=b) ω ω ω ω
  have y:=w.inv2 e b ω c ω ω
  have r:¬ mulA f e b=1:=fun h=>by have:=y.1 h;omega
  simp (disch:=omega) only [pz,Zhu,x]
 rw [a0]
 refine Ze ?_
 have x:=Zku w.fd (a:=e) (b:=ix u e) ω ω ω ω
 have y:=(w.inv2 e (ix u e) ω c ω ω).2 rfl
 simp (disch:=omega) only [pz,Zhu,x]
theorem Zs5 {f:Zf} {q:Int} {u:List Int} (w:Ff f q u) {row:List Int} {c:Int} (hr:In q row) (r:(row.length:Int)<=64) (j:0<=c) (c1:c<q):Zfr f row c=some (scl f row c):=by
 have k:=w.q64
 unfold Zfr
 have x:=Zm (B:=ZfS f row c) (fun t=>(tabl t fun t=>mulA f (ix row t) c,t)) (i:=0) (n:=row.length) ω fun t e g=>by
  obtain ⟨l,o⟩:=hr t e g
  have y:=Zku w.fd (a:=ix row t) (b:=c) ω ω ω ω
  have r:(tabl t fun t=>mulA f (ix row t) c).length=t.toNat:=Zn
  simp (disch:=omega) only [pz,ZfS,y,gApp1,r,ZY]
 have h:(([]:List Int),(0:Int))=(fun t=>(tabl t fun t=>mulA f (ix row t) c,t)) 0:=rfl
 rw [h,x]
 refine Ze ?_
 simp (disch:=omega) only [pz,ZfS]
 rfl
theorem ZBE {f:Zf} {q:Int} {a2:List Int} (hF:Ff f q a2) {v w:List Int} {c:Int} (g:In q v) (hw:In q w) (hl:(v.length:Int)<=64) (he:w.length=v.length) (l:0<=c) (c1:c<q):Zi2 f v w c=some (less f v w c):=by
 have o:=hF.q64;have hp:=hF.fd.p2;have h:=hF.fd.p64
 unfold Zi2
 have a3:=Zm (B:=ZfA f v w c) (fun t=>(tabl t fun t=>sumA f (ix v t) (mulA f (ix w t) c) (f.Prime-1),t)) (i:=0) (n:=v.length) ω fun t e j=>by
  obtain ⟨p,r⟩:=g t e j
  obtain ⟨s,u⟩:=hw t e ω
  have hM:=Zku hF.fd (a:=ix w t) (b:=c) ω ω ω ω
  obtain ⟨x,y⟩:=ZcT hF.fd hF.pw (ix w t) c
  have hS:=Zsv hF.fd (a:=ix v t) (b:=mulA f (ix w t) c) (c:=f.Prime-1) ω ω ω ω ω ω
  have hl:(tabl t fun t=>sumA f (ix v t) (mulA f (ix w t) c) (f.Prime-1)).length=t.toNat:=Zn
  simp (disch:=omega) only [pz,ZfA,hM,hS,gApp1,hl,ZY]
 have k:(([]:List Int),(0:Int))=(fun t=>(tabl t fun t=>sumA f (ix v t) (mulA f (ix w t) c) (f.Prime-1),t)) 0:=rfl
 rw [k,a3]
 refine Ze ?_
 simp (disch:=omega) only [pz,ZfA]
 rfl
theorem Zht {f:Zf} {row:List Int} {c:Int}:(scl f row c).length=row.length:=by unfold scl;rw [Zn];omega
theorem Zvm {f:Zf} {v w:List Int} {c:Int}:(less f v w c).length=v.length:=by unfold less;rw [Zn];omega
theorem ZjS {f:Zf} {q:Int} {e:List Int} (g:Ff f q e) {row:List Int} {c:Int}:In q (scl f row c):=fun i b a=>by
 rw [Zht] at a
 unfold scl
 rw [ZM b a]
 exact ZcT g.fd g.pw _ _
theorem ZyM {f:Zf} {q:Int} {e:List Int} (g:Ff f q e) {v w:List Int} {c:Int}:In q (less f v w c):=fun i b a=>by
 rw [Zvm] at a
 unfold less
 rw [ZM b a]
 exact Zk7 g.fd g.pw _ _ _
theorem ZgC {f:Zf} {c r:Int} {row:List Int} {a:List (List Int)}:(elim f c r row a).length=a.length:=by unfold elim;rw [Zn];omega
theorem Mat.elim {f:Zf} {q w:Int} {g:List Int} (j:Ff f q g) {c r:Int} {row:List Int} {h:List (List Int)} (e:Mat q w h) (l:In q row) (k:(row.length:Int)=w):Mat q w (elim f c r row h):=by
 refine ⟨fun i b a=>?_,fun i b a=>?_,by rw [ZgC];exact e.n,e.w1⟩
 ·rw [ZgC] at a
  unfold Proofs.YtccncimchmimdaaGreatDoor.elim
  rw [ZM b a]
  split
  ·exact k
  ·rw [Zvm];exact e.len i b a
 ·rw [ZgC] at a
  unfold Proofs.YtccncimchmimdaaGreatDoor.elim
  rw [ZM b a]
  split
  ·exact l
  ·exact ZyM j
theorem Mat.set {q w:Int} {xs:List (List Int)} {i:Int} {row:List Int} (h:Mat q w xs) (c:0<=i) (k:In q row) (g:(row.length:Int)=w):Mat q w (xs.set i.toNat row):=by
 refine ⟨fun j b a=>?_,fun j b a=>?_,by rw [List.length_set];exact h.n,h.w1⟩<;>rw [List.length_set] at a
 ·by_cases e:i=j
  ·subst e;rw [Zdr c a];exact g
  ·rw [ZjB c b e];exact h.len j b a
 ·by_cases e:i=j
  ·subst e;rw [Zdr c a];exact k
  ·rw [ZjB c b e];exact h.rng j b a
theorem ZCN {f:Zf} {q w:Int} {a1:List Int} (hF:Ff f q a1) {piv:List Int} {c i:Int} {xs:List (List Int)} (a:Mat q w xs) (o:0<=c) (a2:c<w) (a3:(piv.length:Int)<=i) (p:i<xs.length) (hp:¬ ix (ix xs i) c=0):
  ZaC f piv c xs i=some (.inl (piv++[c],c+1,elim f c piv.length (scl f (ix xs i) (ix a1 (ix (ix xs i) c))) ((xs.set i.toNat (ix xs piv.length)).set piv.length (scl f (ix xs i) (ix a1 (ix (ix xs i) c)))))):=by
 have hq:=hF.q64;have hn:=a.n;have hw:=a.w1
 have ab:=a.len i ω p
 have a6:=a.rng i ω p
 obtain ⟨s,b⟩:=a6 c o ω
 obtain ⟨v0,v1⟩:=hF.inv1 (ix (ix xs i) c) ω b
 have hI:=Zzj hF (e:=ix (ix xs i) c) ω b
 have hS:=Zs5 hF (row:=ix xs i) (c:=ix a1 (ix (ix xs i) c)) a6 ω ω v1
 have am:(xs.set i.toNat (ix xs piv.length)).length=xs.length:=List.length_set
 simp (disch:=omega) only [pz,ZaC,hI,hS]
 generalize a5:scl f (ix xs i) (ix a1 (ix (ix xs i) c))=row
 have ad:(row.length:Int)=w:=by rw [<-a5,Zht];exact ab
 have a9:In q row:=by rw [<-a5];exact ZjS hF
 have hy:Mat q w ((xs.set i.toNat (ix xs piv.length)).set piv.length row):=(a.set ω (a.rng _ ω ω) (a.len _ ω ω)).set (i:=(piv.length:Int)) ω a9 ad
 have a7:ix ((xs.set i.toNat (ix xs piv.length)).set piv.length row) (piv.length:Int)=row:=Zdr (i:=(piv.length:Int)) ω (by rw [List.length_set];omega)
 have ac:((xs.set i.toNat (ix xs piv.length)).set piv.length row).length=xs.length:=by rw [List.length_set,List.length_set]
 generalize ((xs.set i.toNat (ix xs piv.length)).set piv.length row)=ys at hy a7 ac ⊢
 have ae:=Zm (B:=Zeo f piv c row) (fun j=>(j,tabl ys.length fun t=>if t<j then (if t=piv.length then row else less f (ix ys t) row (ix (ix ys t) c)) else ix ys t)) (i:=0) (n:=ys.length) ω fun j g k=>by
  have u:(tabl ys.length fun t=>if t<j then (if t=piv.length then row else less f (ix ys t) row (ix (ix ys t) c)) else ix ys t).length=ys.length:=by rw [Zn];omega
  have x:ix (tabl ys.length fun t=>if t<j then (if t=piv.length then row else less f (ix ys t) row (ix (ix ys t) c)) else ix ys t) j=ix ys j:=by rw [ZM g k,if_neg ω]
  by_cases hj:j=piv.length
  ·have hs:(tabl ys.length fun t=>if t<j then (if t=piv.length then row else less f (ix ys t) row (ix (ix ys t) c)) else ix ys t)=tabl ys.length fun t=>if t<j+1 then (if t=piv.length then row else less f (ix ys t) row (ix (ix ys t) c)) else ix ys t:=by
    refine ZQ fun t r l=>?_
    by_cases h:t<j
    ·rw [if_pos h,if_pos (show t<j+1 by omega)]
    ·by_cases h':t=j
     ·rw [if_neg h,if_pos (show t<j+1 by omega),if_pos ω,h',hj,a7]
     ·rw [if_neg h,if_neg (show ¬ t<j+1 by omega)]
   have y:(tabl ys.length fun t=>if t<j+1 then (if t=piv.length then row else less f (ix ys t) row (ix (ix ys t) c)) else ix ys t).length=ys.length:=by rw [Zn];omega
   simp only [hs]
   simp (disch:=omega) only [pz,Zeo,y]
  ·have an:=hy.len j g k
   have a8:=hy.rng j g k
   obtain ⟨d0,d1⟩:=a8 c o ω
   have hL:=ZBE hF (v:=ix ys j) (w:=row) (c:=ix (ix ys j) c) a8 a9 ω ω d0 d1
   have hs:(tabl ys.length fun t=>if t<j then (if t=piv.length then row else less f (ix ys t) row (ix (ix ys t) c)) else ix ys t).set j.toNat (less f (ix ys j) row (ix (ix ys j) c))=tabl ys.length fun t=>if t<j+1 then (if t=piv.length then row else less f (ix ys t) row (ix (ix ys t) c)) else ix ys t:=by
    apply Zah g k
    ·intro t r l t2
     by_cases h:t<j
     ·rw [if_pos h,if_pos (show t<j+1 by omega)]
     ·rw [if_neg h,if_neg (show ¬ t<j+1 by omega)]
    ·rw [if_pos ω,if_neg hj]
   simp (disch:=omega) only [pz,Zeo,u,x,hL,hs]
 have s:((0:Int),ys)=(fun j=>(j,tabl ys.length fun t=>if t<j then (if t=piv.length then row else less f (ix ys t) row (ix (ix ys t) c)) else ix ys t)) 0:=by
  show _=((0:Int),_)
  congr 1
  refine (Zbl ys).symm.trans (ZQ fun t r l=>?_)
  rw [if_neg ω]
 rw [s,ae]
 refine Ze ?_
 have b:(tabl ys.length fun t=>if t<(ys.length:Int) then (if t=piv.length then row else less f (ix ys t) row (ix (ix ys t) c)) else ix ys t)=elim f c piv.length row ys:=ZQ fun t r l=>by rw [if_pos l]
 simp (disch:=omega) only [pz,Zeo,b,ZgC,gApp1]
theorem Zaz {α:Type} [Inhabited α] {n:Int} {f:Int->α} {i:Int} (a:0<=i) (b:i<n):gIdx (tabl n f) i=some (f i):=by
 rw [Zjd a (by rw [Zn];omega),ZM a b]
theorem ZtM {f:Zf} {q:Int} {c:List Int}:(tabs f q c).qadd=tabl q fun a=>tabl q fun b=>sumA f a b 1:=rfl
theorem Zrw {f:Zf} {q:Int} {c:List Int}:(tabs f q c).qsub=tabl q fun a=>tabl q fun b=>sumA f a b (f.Prime-1):=rfl
theorem ZlW {f:Zf} {q:Int} {c:List Int}:(tabs f q c).qmul=tabl q fun a=>tabl q fun b=>mulA f a b:=rfl
theorem ZBu {f:Zf} {q:Int} {a:List Int}:(tabs f q a).qinv=tabl q fun i=>if 1<=i then ix a i else 0:=rfl
theorem ZC4 {f:Zf} {q:Int} {h:List Int} (g:Ff f q h) {v w c:Int} (v0:0<=v) (v1:v<q) (w0:0<=w) (w1:w<q) (a:0<=c) (c1:c<q):sumA f v (mulA f (sumA f 0 c (f.Prime-1)) w) 1=sumA f v (mulA f w c) (f.Prime-1):=by
 obtain ⟨b,e⟩:=ZcT g.fd g.pw w c
 rw [g.neg c w a c1 w0 w1,g.comm c w a c1 w0 w1,g.sub v _ v0 v1 b e]
theorem ZDR {f:Zf} {q:Int} {a0:List Int} (hF:Ff f q a0) {v w:List Int} {c:Int} (p:In q v) (hw:In q w) (hl:(v.length:Int)<=64) (he:w.length=v.length) (r:0<=c) (c1:c<q):
  ZbP (tabs f q a0) v w (sumA f 0 c (f.Prime-1))=some (less f v w c):=by
 have hq:=hF.q64
 obtain ⟨n0,n1⟩:=Zk7 hF.fd hF.pw 0 c (f.Prime-1)
 unfold ZbP
 have a2:=Zm (B:=Zbj (tabs f q a0) w (sumA f 0 c (f.Prime-1))) (fun t=>(t,tabl v.length fun u=>if u<t then sumA f (ix v u) (mulA f (ix w u) c) (f.Prime-1) else ix v u)) (i:=0) (n:=v.length) ω fun t a e=>by
  obtain ⟨j,k⟩:=p t a e
  obtain ⟨l,o⟩:=hw t a ω
  have a5:(tabl v.length fun u=>if u<t then sumA f (ix v u) (mulA f (ix w u) c) (f.Prime-1) else ix v u).length=v.length:=by rw [Zn];omega
  have g:ix (tabl v.length fun u=>if u<t then sumA f (ix v u) (mulA f (ix w u) c) (f.Prime-1) else ix v u) t=ix v t:=by rw [ZM a e,if_neg ω]
  obtain ⟨s,x⟩:=ZcT hF.fd hF.pw (sumA f 0 c (f.Prime-1)) (ix w t)
  have hs:(tabl v.length fun u=>if u<t then sumA f (ix v u) (mulA f (ix w u) c) (f.Prime-1) else ix v u).set t.toNat (sumA f (ix v t) (mulA f (sumA f 0 c (f.Prime-1)) (ix w t)) 1)=tabl v.length fun u=>if u<t+1 then sumA f (ix v u) (mulA f (ix w u) c) (f.Prime-1) else ix v u:=by
   apply Zah a e
   ·intro u u0 u1 u2
    by_cases h:u<t
    ·rw [if_pos h,if_pos (show u<t+1 by omega)]
    ·rw [if_neg h,if_neg (show ¬ u<t+1 by omega)]
   ·rw [if_pos ω,ZC4 hF j k l o r c1]
  have i1:gIdx (tabl v.length fun u=>if u<t then sumA f (ix v u) (mulA f (ix w u) c) (f.Prime-1) else ix v u) t=some (ix v t):=by rw [Zjd a ω,g]
  have y:gIdx (tabs f q a0).qadd (ix v t)=some (tabl q fun b=>sumA f (ix v t) b 1):=by rw [ZtM,Zaz j k]
  have i3:gIdx (tabs f q a0).qmul (sumA f 0 c (f.Prime-1))=some (tabl q fun b=>mulA f (sumA f 0 c (f.Prime-1)) b):=by rw [ZlW,Zaz n0 n1]
  have i4:gIdx (tabl q fun b=>mulA f (sumA f 0 c (f.Prime-1)) b) (ix w t)=some (mulA f (sumA f 0 c (f.Prime-1)) (ix w t)):=Zaz l o
  have i5:gIdx (tabl q fun b=>sumA f (ix v t) b 1) (mulA f (sumA f 0 c (f.Prime-1)) (ix w t))=some (sumA f (ix v t) (mulA f (sumA f 0 c (f.Prime-1)) (ix w t)) 1):=Zaz s x
  simp (disch:=omega) only [pz,Zbj,g,y,i3,i4,i5,hs]
 have e0:((0:Int),v)=(fun t=>(t,tabl v.length fun u=>if u<t then sumA f (ix v u) (mulA f (ix w u) c) (f.Prime-1) else ix v u)) 0:=by
  show _=((0:Int),_)
  congr 1
  refine (Zbl v).symm.trans (ZQ fun t a e=>?_)
  rw [if_neg ω]
 rw [e0,a2]
 refine Ze ?_
 have e1:(tabl v.length fun u=>if u<(v.length:Int) then sumA f (ix v u) (mulA f (ix w u) c) (f.Prime-1) else ix v u)=less f v w c:=ZQ fun t a e=>by rw [if_pos e]
 simp (disch:=omega) only [pz,Zbj,e1]
theorem ZCs {f:Zf} {q:Int} {l:List Int} (k:Ff f q l) {v w:List Int} (e:In q v) (o:In q w) (r:w.length=v.length):less f v w 0=v:=by
 refine Eq.trans (ZQ fun t a g=>?_) (Zbl v)
 obtain ⟨h,i⟩:=e t a g
 obtain ⟨b,c⟩:=o t a ω
 have j:=k.q2
 rw [k.comm _ 0 b c ω ω,k.z1 _ b c,k.z2 _ h i]
theorem ZB8 {f:Zf} {q w:Int} {a1:List Int} (hF:Ff f q a1) {piv:List Int} {c d:Int} {row:List Int} {ys:List (List Int)} (hy:Mat q w ys) (r:0<=c) (a4:c<w) (hr:(piv.length:Int)<ys.length) (an:(row.length:Int)=w) (a9:In q row) (a8:ix ys piv.length=row):
  loop (ZbN (tabs f q a1) piv c d ys) (0,ys)=some (if (piv.length:Int)+1=ys.length then .inr (.inr ((elim f c piv.length row ys).take (piv.length+1),piv++[c],d)) else .inr (.inl (piv++[c],d,c+1,elim f c piv.length row ys))):=by
 have hn:=hy.n;have hw:=hy.w1;have hq:=hF.q64;have a5:=hF.q2
 have ad:=Zm (B:=ZbN (tabs f q a1) piv c d ys) (fun j=>(j,tabl ys.length fun t=>if t<j then (if t=piv.length then row else less f (ix ys t) row (ix (ix ys t) c)) else ix ys t)) (i:=0) (n:=ys.length) ω fun j a k=>by
  have a6:(tabl ys.length fun t=>if t<j then (if t=piv.length then row else less f (ix ys t) row (ix (ix ys t) c)) else ix ys t).length=ys.length:=by rw [Zn];omega
  have p:ix (tabl ys.length fun t=>if t<j then (if t=piv.length then row else less f (ix ys t) row (ix (ix ys t) c)) else ix ys t) j=ix ys j:=by rw [ZM a k,if_neg ω]
  have l:gIdx (tabl ys.length fun t=>if t<j then (if t=piv.length then row else less f (ix ys t) row (ix (ix ys t) c)) else ix ys t) j=some (ix ys j):=by rw [Zjd a ω,p]
  by_cases hj:j=piv.length
  ·have hs:(tabl ys.length fun t=>if t<j then (if t=piv.length then row else less f (ix ys t) row (ix (ix ys t) c)) else ix ys t)=tabl ys.length fun t=>if t<j+1 then (if t=piv.length then row else less f (ix ys t) row (ix (ix ys t) c)) else ix ys t:=by
    refine ZQ fun t o e=>?_
    by_cases h:t<j
    ·rw [if_pos h,if_pos (show t<j+1 by omega)]
    ·by_cases h':t=j
     ·rw [if_neg h,if_pos (show t<j+1 by omega),if_pos ω,h',hj,a8]
     ·rw [if_neg h,if_neg (show ¬ t<j+1 by omega)]
   simp only [hs] at l ⊢
   simp (disch:=omega) only [pz,ZbN,ZdA,l]
  ·have am:=hy.len j a k
   have a2:=hy.rng j a k
   obtain ⟨s,u⟩:=a2 c r ω
   by_cases hz:ix (ix ys j) c=0
   ·have hs:(tabl ys.length fun t=>if t<j then (if t=piv.length then row else less f (ix ys t) row (ix (ix ys t) c)) else ix ys t)=tabl ys.length fun t=>if t<j+1 then (if t=piv.length then row else less f (ix ys t) row (ix (ix ys t) c)) else ix ys t:=by
     refine ZQ fun t o e=>?_
     by_cases h:t<j
     ·rw [if_pos h,if_pos (show t<j+1 by omega)]
     ·by_cases h':t=j
      ·rw [if_neg h,if_pos (show t<j+1 by omega),if_neg ω,h',hz,ZCs hF a2 a9 ω]
      ·rw [if_neg h,if_neg (show ¬ t<j+1 by omega)]
    simp only [hs] at l ⊢
    simp (disch:=omega) only [pz,ZbN,ZdA,l]
   ·have hL:=ZDR hF (v:=ix ys j) (w:=row) (c:=ix (ix ys j) c) a2 a9 ω ω s u
    have hs:(tabl ys.length fun t=>if t<j then (if t=piv.length then row else less f (ix ys t) row (ix (ix ys t) c)) else ix ys t).set j.toNat (less f (ix ys j) row (ix (ix ys j) c))=tabl ys.length fun t=>if t<j+1 then (if t=piv.length then row else less f (ix ys t) row (ix (ix ys t) c)) else ix ys t:=by
     apply Zah a k
     ·intro t o e t2
      by_cases h:t<j
      ·rw [if_pos h,if_pos (show t<j+1 by omega)]
      ·rw [if_neg h,if_neg (show ¬ t<j+1 by omega)]
     ·rw [if_pos ω,if_neg hj]
    have x:ix (tabl ys.length fun t=>if t<j then (if t=piv.length then row else less f (ix ys t) row (ix (ix ys t) c)) else ix ys t) (piv.length:Int)=row:=by
     rw [ZM ω hr]
     by_cases h:(piv.length:Int)<j
     ·rw [if_pos h,if_pos rfl]
     ·rw [if_neg h,a8]
    have y:gIdx (tabs f q a1).qsub 0=some (tabl q fun b=>sumA f 0 b (f.Prime-1)):=by rw [Zrw,Zaz ω ω]
    have i4:gIdx (tabl q fun b=>sumA f 0 b (f.Prime-1)) (ix (ix ys j) c)=some (sumA f 0 (ix (ix ys j) c) (f.Prime-1)):=Zaz s u
    have i5:gNe j (piv.length:Int)=some ():=by unfold gNe;rw [if_pos hj]
    have he:Zae.mk (tabs f q a1).qq (tabs f q a1).qadd (tabs f q a1).qsub (tabs f q a1).qmul (tabs f q a1).qinv=tabs f q a1:=rfl
    simp (disch:=omega) only [pz,ZbN,ZdA,p,x,y,i4,i5,he,hL,hs]
 have e0:((0:Int),ys)=(fun j=>(j,tabl ys.length fun t=>if t<j then (if t=piv.length then row else less f (ix ys t) row (ix (ix ys t) c)) else ix ys t)) 0:=by
  show _=((0:Int),_)
  congr 1
  refine (Zbl ys).symm.trans (ZQ fun t o e=>?_)
  rw [if_neg ω]
 rw [e0,ad]
 refine Ze ?_
 have e1:(tabl ys.length fun t=>if t<(ys.length:Int) then (if t=piv.length then row else less f (ix ys t) row (ix (ix ys t) c)) else ix ys t)=elim f c piv.length row ys:=ZQ fun t o e=>by rw [if_pos e]
 have al:(elim f c piv.length row ys).length=ys.length:=ZgC
 have ac:(piv++[c]).length=piv.length+1:=by simp
 simp only [e1]
 by_cases h:(piv.length:Int)+1=ys.length
 ·rw [if_pos h]
  have g:gSl (elim f c piv.length row ys) 0 ((piv++[c]).length:Int)=some ((elim f c piv.length row ys).take (piv.length+1)):=by
   rw [Zb4 ω ω ω,ac]
   rfl
  simp (disch:=omega) only [pz,ZbN,gApp1,ZdW,g]
 ·rw [if_neg h]
  simp (disch:=omega) only [pz,ZbN,gApp1,ZfF]
theorem ZtQ {α:Type} [Inhabited α] {xs:List α} {k:Nat}:xs.set k (ix xs (k:Int))=xs:=by
 apply ZaG
 ·exact List.length_set
 ·intro i a b
  rw [List.length_set] at b
  by_cases h:(k:Int)=i
  ·subst h
   exact Zdr (i:=(k:Int)) a b
  ·exact ZjB (i:=(k:Int)) ω a h
theorem Zvk {f:Zf} {q w:Int} {a0:List Int} (hF:Ff f q a0) {piv:List Int} {c d:Int} {xs:List (List Int)} (g:Mat q w xs) (o:0<=c) (r:c<w) (hr:(piv.length:Int)<xs.length) (hp:¬ ix (ix xs piv.length) c=0) (y:0<=d) (d1:d<q):
  Zg4 (tabs f q a0) piv c d xs=some (if (piv.length:Int)+1=xs.length
   then .inr ((elim f c piv.length (scl f (ix xs piv.length) (ix a0 (ix (ix xs piv.length) c))) (xs.set piv.length (scl f (ix xs piv.length) (ix a0 (ix (ix xs piv.length) c))))).take (piv.length+1),piv++[c],mulA f d (ix (ix xs piv.length) c))
   else .inl (piv++[c],mulA f d (ix (ix xs piv.length) c),c+1,elim f c piv.length (scl f (ix xs piv.length) (ix a0 (ix (ix xs piv.length) c))) (xs.set piv.length (scl f (ix xs piv.length) (ix a0 (ix (ix xs piv.length) c)))))):=by
 have hq:=hF.q64;have hn:=g.n;have hw:=g.w1
 have a6:=g.len piv.length ω hr
 have a5:=g.rng piv.length ω hr
 obtain ⟨l,j⟩:=a5 c o ω
 obtain ⟨v0,v1⟩:=hF.inv1 (ix (ix xs piv.length) c) ω j
 have i1:gIdx (tabs f q a0).qmul d=some (tabl q fun b=>mulA f d b):=by rw [ZlW,Zaz y d1]
 have i2:gIdx (tabl q fun b=>mulA f d b) (ix (ix xs piv.length) c)=some (mulA f d (ix (ix xs piv.length) c)):=Zaz l j
 simp (disch:=omega) only [pz,Zg4,i1,i2]
 generalize hR:ix xs piv.length=R at *
 generalize hE:ix R c=e at *
 have aa:=Zm (B:=Zf7 (tabs f q a0) piv c e (mulA f d e) R) (fun t=>(t,xs.set piv.length (tabl R.length fun u=>if u<t then mulA f (ix R u) (ix a0 e) else ix R u))) (i:=0) (n:=R.length) ω fun t k a=>by
  obtain ⟨s,v⟩:=a5 t k a
  have x:(tabl R.length fun u=>if u<t then mulA f (ix R u) (ix a0 e) else ix R u).length=R.length:=by rw [Zn];omega
  have p:ix (tabl R.length fun u=>if u<t then mulA f (ix R u) (ix a0 e) else ix R u) t=ix R t:=by rw [ZM k a,if_neg ω]
  have hs:(tabl R.length fun u=>if u<t then mulA f (ix R u) (ix a0 e) else ix R u).set t.toNat (mulA f (ix a0 e) (ix R t))=tabl R.length fun u=>if u<t+1 then mulA f (ix R u) (ix a0 e) else ix R u:=by
   apply Zah k a
   ·intro u u0 u1 u2
    by_cases h:u<t
    ·rw [if_pos h,if_pos (show u<t+1 by omega)]
    ·rw [if_neg h,if_neg (show ¬ u<t+1 by omega)]
   ·rw [if_pos ω,hF.comm _ _ ω v1 s v]
  generalize (tabl R.length fun u=>if u<t then mulA f (ix R u) (ix a0 e) else ix R u)=A at x p hs ⊢
  have hA:ix (xs.set piv.length A) piv.length=A:=Zdr (i:=(piv.length:Int)) ω hr
  have ak:(xs.set piv.length A).length=xs.length:=List.length_set
  have i3:gIdx (tabs f q a0).qinv e=some (ix a0 e):=by rw [ZBu,Zaz l j,if_pos ω]
  have i4:gIdx (tabs f q a0).qmul (ix a0 e)=some (tabl q fun b=>mulA f (ix a0 e) b):=by rw [ZlW,Zaz ω v1]
  have i5:gIdx (tabl q fun b=>mulA f (ix a0 e) b) (ix R t)=some (mulA f (ix a0 e) (ix R t)):=Zaz s v
  simp (disch:=omega) only [pz,Zf7,hA,p,i3,i4,i5,hs,List.set_set]
 have l:((0:Int),xs)=(fun t=>(t,xs.set piv.length (tabl R.length fun u=>if u<t then mulA f (ix R u) (ix a0 e) else ix R u))) 0:=by
  show _=((0:Int),xs.set piv.length _)
  congr 1
  have:(tabl R.length fun u=>if u<0 then mulA f (ix R u) (ix a0 e) else ix R u)=R:=by
   refine Eq.trans (ZQ fun t k a=>?_) (Zbl R)
   rw [if_neg ω]
  rw [this,<-hR,ZtQ]
 rw [l,aa]
 refine Ze ?_
 have j:(tabl R.length fun u=>if u<(R.length:Int) then mulA f (ix R u) (ix a0 e) else ix R u)=scl f R (ix a0 e):=ZQ fun t k a=>by rw [if_pos a]
 simp only [j]
 have a3:((scl f R (ix a0 e)).length:Int)=w:=by rw [Zht];exact a6
 have a1:In q (scl f R (ix a0 e)):=ZjS hF
 generalize scl f R (ix a0 e)=row at a3 a1 ⊢
 have hy:Mat q w (xs.set piv.length row):=g.set (i:=(piv.length:Int)) ω a1 a3
 have a9:ix (xs.set piv.length row) piv.length=row:=Zdr (i:=(piv.length:Int)) ω hr
 have a8:(xs.set piv.length row).length=xs.length:=List.length_set
 have hL:=ZB8 hF (d:=mulA f d e) hy o r ω a3 a1 a9
 rw [a8] at hL
 simp (disch:=omega) only [pz,Zf7]
 rw [hL]
 by_cases h:(piv.length:Int)+1=xs.length
 ·rw [if_pos h,if_pos h]
 ·rw [if_neg h,if_neg h]
theorem Zxq {f:Zf} {q w:Int} {piv:List Int} {c:Int} {xs:List (List Int)} (b:Mat q w xs) (v:0<=c) (y:c<w) (hr:(piv.length:Int)<=xs.length):
  ∃ i:Int,(piv.length:Int)<=i/\i<=xs.length/\(∀ j,(piv.length:Int)<=j->j<i->ix (ix xs j) c=0)/\(i<xs.length->¬ ix (ix xs i) c=0)/\ZhP f piv c xs=ZaC f piv c xs i:=by
 have hn:=b.n
 have a5:∀ (d:Nat) (i:Int),i+d=xs.length->(piv.length:Int)<=i->(∀ j,(piv.length:Int)<=j->j<i->ix (ix xs j) c=0)->∃ i':Int,(piv.length:Int)<=i'/\i'<=xs.length/\(∀ j,(piv.length:Int)<=j->j<i'->ix (ix xs j) c=0)/\(i'<xs.length->¬ ix (ix xs i') c=0)/\loop (Zb9 f piv c xs) i=ZaC f piv c xs i':=by
  intro d
  induction d with
  | zero=>
   intro i hi a2 ha
   refine ⟨i,a2,by omega,ha,fun h=>by omega,?_⟩
   have hB:Zb9 f piv c xs i=(ZaC f piv c xs i).map fun x=>.inr x:=by
    simp (disch:=omega) only [pz,Zb9]
   cases hk:ZaC f piv c xs i with
   | none=>
    exfalso
    unfold ZaC at hk
    obtain rfl:i=(xs.length:Int):=ω
    have:((xs.length:Int)==(xs.length:Int))=true:=by simp
    rw [this] at hk
    cases hk
   | some r=>rw [hk] at hB;exact Ze hB
  | succ d ih=>
   intro i hi a2 ha
   have hl:=b.len i ω ω
   by_cases h:ix (ix xs i) c=0
   ·obtain ⟨i',l,o,p,s,t⟩:=ih (i+1) ω ω fun j g u=>by
     by_cases e:j=i
     ·rw [e];exact h
     ·exact ha j g ω
    refine ⟨i',l,o,p,s,?_⟩
    rw [<-t]
    refine ZI ?_
    simp (disch:=omega) only [pz,Zb9,h]
   ·refine ⟨i,a2,by omega,ha,fun _=>h,?_⟩
    have hB:Zb9 f piv c xs i=(ZaC f piv c xs i).map fun x=>.inr x:=by
     simp (disch:=omega) only [pz,Zb9,h]
    cases hk:ZaC f piv c xs i with
    | none=>
     rw [hk] at hB
     cases hl:loop (Zb9 f piv c xs) i with
     | none=>rfl
     | some r=>
      obtain ⟨m,hm⟩:=Zl hl
      obtain ⟨_,a,_,k,_⟩:=Zk hm
      rw [hB] at k
      cases k
    | some r=>rw [hk] at hB;exact Ze hB
 unfold ZhP
 exact a5 (xs.length-piv.length) piv.length ω ω fun j g u=>by omega
theorem ZCw {q w:Int} {piv:List Int} {c i:Int} {xs:List (List Int)} (a:Mat q w xs) (g:0<=c) (l:c<w) (hr:(piv.length:Int)<=xs.length) (o:(piv.length:Int)<=i) (p:i<=xs.length) (hz:∀ j,(piv.length:Int)<=j->j<i->ix (ix xs j) c=0) (hp:i<xs.length->¬ ix (ix xs i) c=0):
  ZgW (xs.drop piv.length) (fun b=>ZeG b c)=some (if i<xs.length then i-piv.length else -1):=by
 have r:=a.n
 unfold ZgW
 have a1:((xs.drop piv.length).length:Int)=(xs.length:Int)-piv.length:=by rw [List.length_drop];omega
 have u:∀ k,0<=k->ix (xs.drop piv.length) k=ix xs (piv.length+k):=fun k f=>ZqD (i:=(piv.length:Int)) ω f
 have x:=Zm (B:=Zb8 (xs.drop piv.length) (fun b=>ZeG b c)) (fun k=>k) (i:=0) (n:=i-piv.length) ω fun k f k1=>by
  have hl:=a.len (piv.length+k) ω ω
  have y:=hz (piv.length+k) ω ω
  simp (disch:=omega) only [pz,Zb8,ZeG,u,y]
 rw [x]
 refine Ze ?_
 by_cases h:i<xs.length
 ·rw [if_pos h]
  have hl:=a.len i ω h
  have a2:=hp h
  have e:(piv.length:Int)+(i-piv.length)=i:=ω
  simp (disch:=omega) only [pz,Zb8,ZeG,u,e]
 ·rw [if_neg h]
  simp (disch:=omega) only [pz,Zb8]
theorem Zrb {xs:List (List Int)} {k:Nat} (h:k<=xs.length):gSl xs 0 (k:Int)=some (xs.take k):=by
 rw [Zb4 ω ω ω]
 simp
theorem ZwZ {f:Zf} {q w:Int} {a0:List Int} (hF:Ff f q a0):∀ (n:Nat) (c:Int) (piv:List Int) (xs:List (List Int)) (d:Int),c+n=w->0<=c->(piv.length:Int)<xs.length->Mat q w xs->0<=d->d<q ->
  ∃ R a1 d',loop (Zcz f w) (piv,c,xs)=some (R,a1)/\a1.length<=R.length/\R.length=xs.length/\Mat q w R/\loop (ZbW (tabs f q a0)) (piv,d,c,xs)=some (R.take a1.length,a1,d'):=by
 intro n
 induction n with
 | zero=>
  intro c piv xs d y g hp a l o
  have hn:=a.n;have hw:=a.w1
  have u:=a.len 0 ω ω
  refine ⟨xs,piv,d,Ze ?_,by omega,rfl,a,Ze ?_⟩
  ·simp (disch:=omega) only [pz,Zcz]
  ·simp (disch:=omega) only [pz,ZbW,ZdW,Zrb]
 | succ n ih=>
  intro c piv xs d y g hp a l o
  have hn:=a.n;have hw:=a.w1;have a5:=hF.q2
  have u:=a.len 0 ω ω
  obtain ⟨i,v,i1,iz,ip,hs⟩:=Zxq (f:=f) (piv:=piv) a g ω ω
  have hi:=ZCw (piv:=piv) a g ω ω v i1 iz ip
  have ab:gSl xs (piv.length:Int) (xs.length:Int)=some (xs.drop piv.length):=Zlb (lo:=(piv.length:Int)) ω ω
  have hB:Zcz f w (piv,c,xs)=ZaC f piv c xs i:=by
   rw [<-hs]
   simp (disch:=omega) only [pz,Zcz]
  by_cases h:i<xs.length
  ·rw [if_pos h] at hi
   have af:=ip h
   have a9:=ZCN hF (piv:=piv) a g (by omega:c<w) v h af
   rw [a9] at hB
   rw [ZI hB]
   have ak:=a.len i ω h
   have an:=a.rng i ω h
   have aj:=a.len piv.length ω hp
   have am:=a.rng piv.length ω hp
   have aa:In q (scl f (ix xs i) (ix a0 (ix (ix xs i) c))):=ZjS hF
   have a8:((scl f (ix xs i) (ix a0 (ix (ix xs i) c))).length:Int)=w:=by rw [Zht];exact ak
   obtain ⟨m0,m1⟩:=an c g ω
   have hI:∃ d',0<=d'/\d'<q/\ZbW (tabs f q a0) (piv,d,c,xs)=some (if (piv.length:Int)+1=xs.length
     then .inr ((elim f c piv.length (scl f (ix xs i) (ix a0 (ix (ix xs i) c))) ((xs.set i.toNat (ix xs piv.length)).set piv.length (scl f (ix xs i) (ix a0 (ix (ix xs i) c))))).take (piv.length+1),piv++[c],d')
     else .inl (piv++[c],d',c+1,elim f c piv.length (scl f (ix xs i) (ix a0 (ix (ix xs i) c))) ((xs.set i.toNat (ix xs piv.length)).set piv.length (scl f (ix xs i) (ix a0 (ix (ix xs i) c)))))):=by
    by_cases ac:i=piv.length
    ·subst ac
     have hk:=Zvk hF (piv:=piv) a g (by omega:c<w) hp af l o
     obtain ⟨j,k⟩:=ZcT hF.fd hF.pw d (ix (ix xs piv.length) c)
     refine ⟨_,j,k,?_⟩
     rw [Int.toNat_natCast,ZtQ]
     rw [Int.sub_self] at hi
     rw [<-hk]
     simp (disch:=omega) only [pz,ZbW,ZgP,ab,hi]
    ·have aw:Mat q w ((xs.set piv.length (ix xs i)).set i.toNat (ix xs piv.length)):=(a.set (i:=(piv.length:Int)) ω an ak).set ω am aj
     have au:((xs.set piv.length (ix xs i)).set i.toNat (ix xs piv.length)).length=xs.length:=by rw [List.length_set,List.length_set]
     have a2:(xs.set piv.length (ix xs i)).length=xs.length:=List.length_set
     have ai:ix ((xs.set piv.length (ix xs i)).set i.toNat (ix xs piv.length)) piv.length=ix xs i:=by
      rw [ZjB ω ω ac]
      exact Zdr (i:=(piv.length:Int)) ω hp
     have ao:∀ row,((xs.set piv.length (ix xs i)).set i.toNat (ix xs piv.length)).set piv.length row=(xs.set i.toNat (ix xs piv.length)).set piv.length row:=fun row=>by
      rw [List.set_comm (ix xs i) (ix xs piv.length) (by omega:piv.length≠i.toNat),List.set_set]
     obtain ⟨n0,n1⟩:=Zk7 hF.fd hF.pw 0 d (f.Prime-1)
     have hk:=Zvk hF (piv:=piv) (d:=sumA f 0 d (f.Prime-1)) aw g (by omega:c<w) ω (by rw [ai];exact af) n0 n1
     rw [ai,au,ao] at hk
     obtain ⟨j,k⟩:=ZcT hF.fd hF.pw (sumA f 0 d (f.Prime-1)) (ix (ix xs i) c)
     refine ⟨_,j,k,?_⟩
     rw [<-hk]
     have j1:gIdx (tabs f q a0).qsub 0=some (tabl q fun b=>sumA f 0 b (f.Prime-1)):=by rw [Zrw,Zaz ω ω]
     have j2:gIdx (tabl q fun b=>sumA f 0 b (f.Prime-1)) d=some (sumA f 0 d (f.Prime-1)):=Zaz l o
     have e:(piv.length:Int)+(i-piv.length)=i:=ω
     simp (disch:=omega) only [pz,ZbW,ZgP,ab,hi,e,j1,j2]
   obtain ⟨d',j,k,hI⟩:=hI
   have ax:((xs.set i.toNat (ix xs piv.length)).set piv.length (scl f (ix xs i) (ix a0 (ix (ix xs i) c)))).length=xs.length:=by rw [List.length_set,List.length_set]
   have av:Mat q w ((xs.set i.toNat (ix xs piv.length)).set piv.length (scl f (ix xs i) (ix a0 (ix (ix xs i) c)))):=(a.set ω am aj).set (i:=(piv.length:Int)) ω aa a8
   have ae:Mat q w (elim f c piv.length (scl f (ix xs i) (ix a0 (ix (ix xs i) c))) ((xs.set i.toNat (ix xs piv.length)).set piv.length (scl f (ix xs i) (ix a0 (ix (ix xs i) c))))):=Mat.elim hF av aa a8
   have al:(elim f c piv.length (scl f (ix xs i) (ix a0 (ix (ix xs i) c))) ((xs.set i.toNat (ix xs piv.length)).set piv.length (scl f (ix xs i) (ix a0 (ix (ix xs i) c))))).length=xs.length:=by rw [ZgC,ax]
   generalize elim f c piv.length (scl f (ix xs i) (ix a0 (ix (ix xs i) c))) ((xs.set i.toNat (ix xs piv.length)).set piv.length (scl f (ix xs i) (ix a0 (ix (ix xs i) c))))=E at hI ae al ⊢
   have aq:(piv++[c]).length=piv.length+1:=by simp
   by_cases a7:(piv.length:Int)+1=xs.length
   ·rw [if_pos a7] at hI
    refine ⟨E,piv++[c],d',Ze ?_,by omega,al,ae,?_⟩
    ·by_cases b4:c+1<w
     ·simp (disch:=omega) only [pz,Zcz]
     ·simp (disch:=omega) only [pz,Zcz]
    ·rw [aq];exact Ze hI
   ·rw [if_neg a7] at hI
    rw [ZI hI]
    obtain ⟨R,a1,ad,p,r,x,s,t⟩:=ih (c+1) (piv++[c]) E d' ω ω ω ae j k
    exact ⟨R,a1,ad,p,r,by omega,s,t⟩
  ·rw [if_neg h] at hi
   have a9:ZaC f piv c xs i=some (.inl (piv,c+1,xs)):=by
    obtain rfl:i=(xs.length:Int):=ω
    simp (disch:=omega) only [pz,ZaC]
   rw [a9] at hB
   rw [ZI hB]
   have hI:ZbW (tabs f q a0) (piv,d,c,xs)=some (.inl (piv,0,c+1,xs)):=by
    simp (disch:=omega) only [pz,ZbW,ZgP,ZfF,ab,hi]
   rw [ZI hI]
   obtain ⟨R,a1,ad,p,r,x,s,t⟩:=ih (c+1) piv xs 0 ω ω hp a ω ω
   exact ⟨R,a1,ad,p,r,x,s,t⟩
theorem ZzP {m:List (List Int)} (hs:Sz2 m):Zjj m=some m:=by
 unfold Zjj
 have a:=hs.1
 have g:=Zm (B:=ZfR m) (fun k=>(m.take k.toNat,k)) (i:=0) (n:=m.length) ω fun k b a=>by
  have j:=Zr8 (hs.2 (ix m k) (Zq b a))
  have h:(m.take k.toNat).length=k.toNat:=by rw [List.length_take];omega
  simp (disch:=omega) only [pz,ZfR,j,gApp1,h,Zax]
 have c:(([]:List (List Int)),(0:Int))=(fun k:Int=>(m.take k.toNat,k)) 0:=by simp
 rw [c,g]
 refine Ze ?_
 have e:m.take (m.length:Int).toNat=m:=by simp
 simp (disch:=omega) only [pz,ZfR,e]
theorem Zun {f:Zf} {q w:Int} {r:List Int} (y:Ff f q r) {m:List (List Int)} (hs:Sz2 m) (u:Mat q w m) (hw:0<=w) (l:1<=(m.length:Int)):
  ∃ R piv d,ZfW f m=some R/\ZiC (tabs f q r) m=some (R,piv,d)/\R.length<=m.length/\∀ x∈R,(x.length:Int)<=1048576:=by
 have k:=y.q2
 obtain ⟨R,piv,d,e,o,p,g,h⟩:=ZwZ y w.toNat 0 [] m 1 ω ω (by simp;omega) u ω ω
 have c:=u.len 0 ω ω
 refine ⟨R.take piv.length,piv,d,?_,?_,by rw [List.length_take];omega,fun x j=>?_⟩
 ·unfold ZfW ZlU
  rw [ZzP hs]
  simp (disch:=omega) only [pz,c,e,Zrb]
 ·unfold ZiC
  rw [ZdX hs]
  exact h
 ·obtain ⟨i,a,b,rfl⟩:=Z0 (List.mem_of_mem_take j)
  have:=g.len i a b
  have:=u.w1
  omega
end Go.Proofs.YtccncimchmimdaaGreatDoor
