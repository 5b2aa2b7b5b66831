import Derived.Test.YtcneolcmjjlmnaaGreatDoorCeFns
open Int renaming le_refl->JY,ediv_nonneg->XI,le_trans->YZ,emod_nonneg->Y0,emod_lt_of_pos->Y1,tmod_eq_emod_of_nonneg->Xg,tdiv_eq_ediv_of_nonneg->Xp,sub_self->Yv,mul_le_mul->J0,mul_le_mul_of_nonneg_left->XZ,mul_nonneg->J8,mul_le_mul_of_nonneg_right->XJ,zero_add->WG,le_of_lt->X0,emod->WI,add->WJ,mul->WK,ediv->WL,sub->Yy,toNat_natCast->Jp,lt_or_le->XF,lt_trichotomy->J7
open List renaming length_set->JC,replicate->Jn,length_replicate->JD,length_take->Jt,length_append->Jo,map_cons->JG,map_map->Xb,set_set->YV,mem_of_mem_take->Xq,mem_cons_self->JA,pairwise_cons->J5,mem_cons_of_mem->JI,mem_cons->Xc,append_nil->JL,length->J3,length_singleton->JM,append_assoc->Js,length_map->Ju,take_length->Jx,idxOf_lt_length_of_mem->Yj,length_cons->Jy,getElem_idxOf->WN,getElem?_eq_getElem->JF,mem_filter->Xr,length_filter_le->Xf,count_pos_iff->WO,foldl_cons->XB,nil_append->Xm,pairwise_append->WP,drop_eq_nil_of_le->WR,length->Jk
open Nat renaming le_refl->JB,sub->Xy,mul->WM
open Option renaming bind_some->Jr,some->Jg
open Bool renaming not_eq_true'->JV,and_eq_true->Jz,true->Ji,false->Jj
namespace Go.Proofs.YtcneolcmjjlmnaaGreatDoor
open Go Go.Vc
set_option linter.unusedSimpArgs false
set_option linter.unusedVariables false
def qd (p a:Int):Nat->Int
 | 0=>a
 | i+1=>qd p a i/p
def pwN (p:Int):Nat->Int
 | 0=>1
 | i+1=>pwN p i*p
def dig (p:Int) (k:Int) (a:Int):Jb:=tabl k λj=>qd p a j.toNat%p
def nmN (p:Int) (xs:Jb):Nat->Int
 | 0=>0
 | m+1=>nmN p xs m*p+ix xs ((Jk xs:Int)-1-(m:Int))
def nm (p:Int) (xs:Jb):Int:=nmN p xs (Jk xs)
def axAt (p c:Int) (ws:Jb) (off:Int) (xs:Jb):Jb:=tabl (Jk xs) λi=>if off<=i/\i<off+(Jk ws:Int) then (ix xs i+c*ix ws (i-off))%p else ix xs i
def cnvN (p:Int) (as bs xs:Jb):Nat->Jb
 | 0=>xs
 | i+1=>axAt p (ix as (i:Int)) bs (i:Int) (cnvN p as bs xs i)
def rstN (p:Int) (poly:Jb) (xs:Jb):Nat->Jb
 | 0=>xs
 | m+1=>axAt p (p-ix (rstN p poly xs m) ((Jk xs:Int)-1-(m:Int))) poly ((Jk xs:Int)-1-(m:Int)-((Jk poly:Int)-1)) (rstN p poly xs m)
def In (p:Int) (xs:Jb):Prop:=∀i,0<=i->i<(Jk xs:Int)->0<=ix xs i/\ix xs i<p
theorem ZeX {p a:Int} (j:0<=a) (hp:2<=p):∀i:Nat,0<=qd p a i/\qd p a i<=a
 | 0=>⟨j,JY _⟩
 | i+1=>by
  obtain ⟨h1,e⟩:=ZeX j hp i;have f:0<=qd p a i/p:=XI h1 Z;have h:qd p a i/p<=qd p a i:=Int.ediv_le_self _ h1;exact ⟨f,YZ h e⟩
theorem ZBo {p a:Int} {i:Int} (h:0<=i):qd p a (i+1).toNat=qd p a i.toNat/p:=by
 rw [show (i+1).toNat=i.toNat+1 by omega];rfl
theorem ZaS {p k a:Int} (h:0<=k):((dig p k a).length:Int)=k:=by unfold dig;rw [Zy];omega
theorem ZcL {p k a:Int} (hp:2<=p):In p (dig p k a):=λi e h1=>by
 unfold dig at h1 ⊢;rw [Zy] at h1;rw [ZL e Z];exact ⟨Y0 _ Z,Y1 _ Z⟩
theorem ZlK {p a k:Int} (ha:0<=a) (h:a<=4611686018427387904) (hp:2<=p) (l:p<=64) (hk:0<=k) (o:k<=64):Zbd a p k=Jg (dig p k a):=by
 unfold Zbd;have a2:=Zj (B:=ZeP p) (λi=>(qd p a i.toNat,k-i,tabl i λj=>qd p a j.toNat%p)) (i:=0) (n:=k) hk λi r h1=>by
  obtain ⟨e,s⟩:=ZeX ha hp i.toNat;have u:=Xg (b:=p) e;have v:=Xp (b:=p) e;obtain ⟨w,x⟩:=ZeX ha hp (i.toNat+1);have hl:(tabl i λj=>qd p a j.toNat%p).length=i.toNat:=Zy;grind [qd,pz,ZeP,gApp1,ZBo,Z5]
 have f:(a,k,([]:Jb))=(λi:Int=>(qd p a i.toNat,k-i,tabl i λj=>qd p a j.toNat%p)) 0:=by simp [qd,ZFT]
 rw [f,a2];refine Ze ?_;simp (disch:=omega) only [pz,ZeP,Yv];rfl
theorem ZX {α:Type} {n:Int} {f g:Int->α} (h:∀i,0<=i->i<n->f i=g i):tabl n f=tabl n g:=by
 unfold tabl;simp_all
theorem Zak {α:Type} [Inhabited α] {n:Int} {f g:Int->α} {k:Int} (e:0<=k) (h1:k<n) (hg:∀i,0<=i->i<n->i≠k->g i=f i) {y:α} (l:y=g k):(tabl n f).set k.toNat y=tabl n g:=by
 apply ZaP
 .simp [JC,Zy]
 .intro i j a;rw [JC,Zy] at a;by_cases h:k=i
  .grind [ZaY,Zy,ZL]
  .grind [ZbQ,ZL]
theorem Zbg {α:Type} [Inhabited α] (xs:List α):tabl (Jk xs) (λi=>ix xs i)=xs:=by
 apply ZaP
 .rw [Zy];omega
 .grind [Zy,ZL]
theorem Ze3 {α:Type} [Inhabited α] {n:Int} {z:α}:Jn n.toNat z=tabl n λ_=>z:=by
 apply ZaP
 .rw [Zy,JD]
 .grind [JD,ZL,ZaZ]
theorem Zhq {p a k:Int} (ha:0<=a) (s:a<=4611686018427387904) (hp:2<=p) (u:p<=64) (hk:0<=k) (v:k<=64):ZaU a p k=Jg (dig p k a):=by
 unfold ZaU;rw [Zaq hk Z Z];show loop (ZeE p (Jn k.toNat 0)) (a,0,Jn k.toNat 0)=_;have a3:=Zj (B:=ZeE p (Jn k.toNat 0)) (λi=>(qd p a i.toNat,i,tabl k λj=>if j<i then qd p a j.toNat%p else 0)) (i:=0) (n:=k) hk λi w h1=>by
  obtain ⟨e,x⟩:=ZeX ha hp i.toNat;have y:=Xg (b:=p) e;have t2:=Xp (b:=p) e;obtain ⟨h,l⟩:=ZeX ha hp (i.toNat+1);have hl:(tabl k λj=>if j<i then qd p a j.toNat%p else 0).length=k.toNat:=Zy;have f:(Jn k.toNat (0:Int)).length=k.toNat:=JD;have a5:0<=qd p a i.toNat/p:=h;have a6:qd p a i.toNat/p<=a:=l;have hset:(tabl k λj=>if j<i then qd p a j.toNat%p else 0).set i.toNat (qd p a i.toNat%p)=tabl k λj=>if j<i+1 then qd p a j.toNat%p else 0:=by
   grind [Zak]
  grind [pz,ZeE,ZBo,hset]
 have o:(a,(0:Int),Jn k.toNat (0:Int))=(λi:Int=>(qd p a i.toNat,i,tabl k λj=>if j<i then qd p a j.toNat%p else 0)) 0:=by
  show _=(a,(0:Int),_);rw [Ze3];congr 2
 rw [o,a3];refine Ze ?_;have f:(Jn k.toNat (0:Int)).length=k.toNat:=JD;have e1:(tabl k λj=>if j<k then qd p a j.toNat%p else 0)=dig p k a:=by
  unfold dig;exact ZX λj j0 r=>by rw [if_pos r]
 grind [pz,ZeE]
theorem Zbm {p:Int} (hp:2<=p):∀m:Nat,1<=pwN p m
 | 0=>JY _
 | m+1=>by
  have h:=Zbm hp m;have:1*2<=pwN p m*p:=J0 h hp Z Z;grind [pwN]
theorem ZkT {p:Int} (hp:2<=p) {m:Nat}:∀d:Nat,pwN p m<=pwN p (m+d)
 | 0=>JY _
 | d+1=>by
  have h:=ZkT (m:=m) hp d;have h1:=Zbm hp (m+d);have:pwN p (m+d)*1<=pwN p (m+d)*p:=XZ Z Z;grind [pwN]
theorem Znb {p:Int} {xs:Jb} (hp:2<=p) (a:In p xs):∀m:Nat,m<=Jk xs->0<=nmN p xs m/\nmN p xs m<pwN p m
 | 0,_=>⟨JY _,by show (0:Int)<1;omega⟩
 | m+1,hm=>by
  obtain ⟨h1,f⟩:=Znb hp a m Z;obtain ⟨h,i⟩:=a ((Jk xs:Int)-1-m) Z Z;have j:0<=nmN p xs m*p:=J8 h1 Z;have e:(nmN p xs m+1)*p<=pwN p m*p:=XJ Z Z;rw [Int.add_mul,Int.one_mul] at e;refine ⟨?_,?_⟩
  .grind [nmN,ix]
  .grind [nmN,ix,pwN]
theorem Zu9 {p:Int} {xs:Jb} (hp:2<=p) (l:p<=64) (a:In p xs) (hl:Jk xs<=64) (hw:pwN p (Jk xs)<=64):Zbw xs p=Jg (nm p xs):=by
 unfold Zbw;have a2:=Zj (B:=ZeI xs p) (λm=>(nmN p xs m.toNat,(Jk xs:Int)-1-m)) (i:=0) (n:=xs.length) Z λm o h1=>by
  obtain ⟨e,r⟩:=Znb hp a m.toNat Z;obtain ⟨s,u⟩:=Znb hp a (m.toNat+1) Z;have f:=ZkT hp (m:=m.toNat+1) (Jk xs-(m.toNat+1));rw [show m.toNat+1+(xs.length-(m.toNat+1))=xs.length by omega] at f;have em:nmN p xs (m.toNat+1)=nmN p xs m.toNat*p+ix xs ((Jk xs:Int)-1-(m.toNat:Int)):=rfl;rw [show (m.toNat:Int)=m by omega] at em;have es:(m+1).toNat=m.toNat+1:=Z;have v:0<=nmN p xs m.toNat*p:=J8 e Z;obtain ⟨w,x⟩:=a ((Jk xs:Int)-1-m) Z Z;grind [pz,ZeI]
 have h:((0:Int),IntKind.i64.wrap ((Jk xs:Int)-1))=(λm:Int=>(nmN p xs m.toNat,(Jk xs:Int)-1-m)) 0:=by
  show _=((0:Int),_);grind [wr64]
 rw [h,a2];refine Ze ?_;have j:(Jk xs:Int)-1-(Jk xs:Int)=-1:=Z;have k:(Jk xs:Int).toNat=Jk xs:=Z;simp (disch:=omega) only [pz,ZeI,j,k];rfl
theorem ZuD (xs:Jb) (p:Int):Znc xs p=Zbw xs p:=rfl
theorem ZbF {p c off:Int} {ws xs:Jb}:(axAt p c ws off xs).length=Jk xs:=by unfold axAt;rw [Zy];omega
theorem Zom {p c off:Int} {ws xs:Jb} (hp:2<=p) (e:In p xs):In p (axAt p c ws off xs):=λi a h1=>by
 rw [ZbF] at h1;unfold axAt;rw [ZL a Z];split
 .exact ⟨Y0 _ Z,Y1 _ Z⟩
 .exact e i a h1
theorem Ze2 {ρ:Type} {B:Int×Jb->Jm ((Int×Jb) ⊕ ρ)} {p c off:Int} {ws xs:Jb} (h:0<=off) (h1:off+(Jk ws:Int)<=Jk xs)
  (hs:∀j k,0<=j->j<(Jk ws:Int)->Jk k=Jk xs->ix k (off+j)=ix xs (off+j)->B (j,k)=Jg (.inl (j+1,k.set (off+j).toNat ((ix xs (off+j)+c*ix ws j)%p)))):
  loop B (0,xs)=loop B ((Jk ws:Int),axAt p c ws off xs):=by
 have l:=Zj (B:=B) (λj=>(j,tabl (Jk xs) λi=>if off<=i/\i<off+j then (ix xs i+c*ix ws (i-off))%p else ix xs i)) (i:=0) (n:=ws.length) Z λj a e=>by
  show B (j,_)=_;rw [hs j _ a e (by rw [Zy];omega) (by rw [ZL Z Z,if_neg Z])];congr 3;apply Zak Z Z
  .omega
  .grind
 have f:((0:Int),xs)=(λj:Int=>(j,tabl (Jk xs) λi=>if off<=i/\i<off+j then (ix xs i+c*ix ws (i-off))%p else ix xs i)) 0:=by
  simp [Zbg,ZX,if_neg]
 rw [f,l];rfl
structure Fd (f:Zd):Prop where
 p2:2<=f.Prime
 p64:f.Prime<=64
 k1:1<=f.Degree
 k6:f.Degree<=6
 pl:(Jk f.Poly:Int)=f.Degree+1
 mon:ix f.Poly f.Degree=1
 rng:In f.Prime f.Poly
 w64:pwN f.Prime f.Degree.toNat<=64
def sumA (f:Zd) (a b c:Int):Int:=nm f.Prime (axAt f.Prime c (dig f.Prime f.Degree b) 0 (dig f.Prime f.Degree a))
theorem ZiV {a b p:Int} (f:0<=a) (h1:a<=p) (e:0<=b) (h:b<=p) (hp:p<=64):0<=a*b/\a*b<=4096:=by
 refine ⟨J8 f e,?_⟩;have:=J0 (YZ h1 hp) (YZ h hp) e Z;omega
theorem ZtX {f:Zd} (e:Fd f) (a b c:Int):Zbw (axAt f.Prime c (dig f.Prime f.Degree b) 0 (dig f.Prime f.Degree a)) f.Prime=Jg (sumA f a b c):=by
 have:=e.p2;have:=e.p64;have:=e.k1;have:=e.k6;have h:=ZaS (p:=f.Prime) (k:=f.Degree) (a:=a) Z;refine Zu9 Z Z (Zom Z (ZcL Z)) (by rw [ZbF];omega) ?_;rw [ZbF,show (dig f.Prime f.Degree a).length=f.Degree.toNat by omega];exact e.w64
theorem ZrV {f:Zd} (hf:Fd f) {a b c:Int} (ha:0<=a) (s:a<=4096) (i:0<=b) (u:b<=4096) (l:0<=c) (e:c<=f.Prime):Zc4 f a b c=Jg (sumA f a b c):=by
 have:=hf.p2;have:=hf.p64;have:=hf.k1;have:=hf.k6;have a5:=ZaS (p:=f.Prime) (k:=f.Degree) (a:=a) Z;have a6:=ZaS (p:=f.Prime) (k:=f.Degree) (a:=b) Z;unfold Zc4;rw [ZlK ha Z Z Z Z Z,ZlK i Z Z Z Z Z];show loop (ZkX f c (dig f.Prime f.Degree b)) (0,dig f.Prime f.Degree a)=_;rw [Ze2 (p:=f.Prime) (c:=c) (off:=0) (ws:=dig f.Prime f.Degree b) Z Z λj ys h v hy he=>by
  rw [WG] at he ⊢;obtain ⟨w,x⟩:=ZcL (p:=f.Prime) (k:=f.Degree) (a:=a) Z j h Z;obtain ⟨o,y⟩:=ZcL (p:=f.Prime) (k:=f.Degree) (a:=b) Z j h Z;obtain ⟨g5,g6⟩:=ZiV l e o Z hf.p64;have r:=Xg (b:=f.Prime) (a:=ix (dig f.Prime f.Degree a) j+c*ix (dig f.Prime f.Degree b) j) Z;simp (disch:=omega) only [pz,ZkX,he,r]]
 grind [Ze,pz,ZkX,ZbF,ZtX]
theorem ZKn {x y p:Int} (a:0<=x) (h1:0<=y) (hp:2<=p) (e:y<p):(x+-1*y+p)%p=(x+(p-1)*y)%p:=by
 have:x+(p-1)*y=(x+-1*y+p)+p*(y-1):=by
  grind
 simp_all
theorem ZCu {f:Zd} (hf:Fd f) {a b c s:Int} (ha:0<=a) (r:a<=4096) (i:0<=b) (u:b<=4096) (hs:(s=1/\c=1)\/(s=-1/\c=f.Prime-1)):Zjo f a b s=Jg (sumA f a b c):=by
 have:=hf.p2;have:=hf.p64;have:=hf.k1;have:=hf.k6;have a5:=ZaS (p:=f.Prime) (k:=f.Degree) (a:=a) Z;have a6:=ZaS (p:=f.Prime) (k:=f.Degree) (a:=b) Z;unfold Zjo;rw [Zhq ha Z Z Z Z Z,Zhq i Z Z Z Z Z];show loop (ZmS f s (dig f.Prime f.Degree a) (dig f.Prime f.Degree b)) (0,dig f.Prime f.Degree a)=_;rw [Ze2 (p:=f.Prime) (c:=c) (off:=0) (ws:=dig f.Prime f.Degree b) Z Z λj ys e v hy he=>by
  rw [WG] at he ⊢;obtain ⟨w,x⟩:=ZcL (p:=f.Prime) (k:=f.Degree) (a:=a) Z j e Z;obtain ⟨y,g4⟩:=ZcL (p:=f.Prime) (k:=f.Degree) (a:=b) Z j e Z;have hm:-64<=s*ix (dig f.Prime f.Degree b) j/\s*ix (dig f.Prime f.Degree b) j<=64/\0<=ix (dig f.Prime f.Degree a) j+s*ix (dig f.Prime f.Degree b) j+f.Prime:=by
   grind
  have l:=Xg (b:=f.Prime) (a:=ix (dig f.Prime f.Degree a) j+s*ix (dig f.Prime f.Degree b) j+f.Prime) Z;have o:(ix (dig f.Prime f.Degree a) j+s*ix (dig f.Prime f.Degree b) j+f.Prime)%f.Prime=(ix (dig f.Prime f.Degree a) j+c*ix (dig f.Prime f.Degree b) j)%f.Prime:=by
   rcases hs with ⟨h,h'⟩|⟨h,h'⟩<;>subst h<;>subst h'
   .simp
   .grind [ZKn]
  simp (disch:=omega) only [pz,ZmS,he,l,o]]
 grind [Ze,pz,ZmS,ZbF,ZuD,ZtX]
theorem Zjc {xs:Jb} (h:(Jk xs:Int)<=1048576):ZaD xs=Jg xs:=by
 grind [ZaD,ZaE]
theorem ZbB {p:Int} {poly xs:Jb}:∀m,(rstN p poly xs m).length=Jk xs
 | 0=>rfl
 | m+1=>by show (axAt _ _ _ _ _).length=_;rw [ZbF,ZbB m]
theorem ZiJ {p:Int} {poly xs:Jb} (hp:2<=p) (a:In p xs):∀m,In p (rstN p poly xs m)
 | 0=>a
 | m+1=>Zom hp (ZiJ hp a m)
theorem Zwt {p:Int} {poly xs:Jb} {m:Int} (h:0<=m):rstN p poly xs (m+1).toNat=axAt p (p-ix (rstN p poly xs m.toNat) ((Jk xs:Int)-1-m)) poly ((Jk xs:Int)-1-m-((Jk poly:Int)-1)) (rstN p poly xs m.toNat):=by
 rw [show (m+1).toNat=m.toNat+1 by omega];show axAt _ _ _ _ _=_;grind
theorem ZGa {poly k:Jb} (w:(Jk k:Int)<=1048576) (u:1<=(Jk poly:Int)) (h:(Jk poly:Int)-1<=Jk k):loop (ρ:=(Int×Jb) ⊕ Jb) (Zdt poly) k=Jg (.inr (k.take ((Jk poly:Int)-1).toNat)):=by
 have o:=Zj (B:=Zdt poly) (λj=>k.take ((Jk k:Int)-j).toNat) (i:=0) (n:=(Jk k:Int)-((Jk poly:Int)-1)) Z λj a h1=>by
  have l:(k.take ((Jk k:Int)-j).toNat).length=((Jk k:Int)-j).toNat:=by rw [Jt];omega
  have e:(List.take ((((Jk k:Int)-j).toNat:Int)-1).toNat (k.take ((Jk k:Int)-j).toNat)).drop (0:Int).toNat=k.take ((Jk k:Int)-(j+1)).toNat:=by
   grind
  simp (disch:=omega) only [pz,Zdt,l,Zba,e]
 grind [Ze,Jt,pz,Zdt]
theorem ZMg {p y:Int} {poly ys:Jb} (hp:2<=p) (f:p<=64) (hP:In p poly) (hy:In p ys) (hl:(Jk ys:Int)<=4096) (h1:1<=(Jk poly:Int)) (s:(Jk poly:Int)-1<=y) (h:y<Jk ys):
  Zca poly p (y,ys)=Jg (.inl (y-1,axAt p (p-ix ys y) poly (y-((Jk poly:Int)-1)) ys)):=by
 have hg:0<=y:=Z;obtain ⟨u,v⟩:=hy y Z h;simp (disch:=omega) only [pz,Zca];rw [Ze2 (p:=p) (c:=p-ix ys y) (off:=y-((poly.length:Int)-1)) (ws:=poly) Z Z λj zs i k hz he=>by
  obtain ⟨l,o⟩:=hP j i k;obtain ⟨w,x⟩:=hy (y-((poly.length:Int)-1)+j) Z Z;obtain ⟨g7,g8⟩:=ZiV (a:=p-ix ys y) (b:=ix poly j) Z Z l (X0 o) f;have r:=Xg (b:=p) (a:=ix ys (y-((Jk poly:Int)-1)+j)+(p-ix ys y)*ix poly j) Z;have e:y-(Jk poly:Int)+1+j=y-((Jk poly:Int)-1)+j:=Z;simp (disch:=omega) only [pz,Zi4,e,he,r]]
 refine Ze ?_;simp (disch:=omega) only [pz,Zi4]
theorem ZFk {p y:Int} {poly ys:Jb} (hp:2<=p) (e:p<=64) (hP:In p poly) (hy:In p ys) (hl:(Jk ys:Int)<=4096) (h1:1<=(Jk poly:Int)) (s:(Jk poly:Int)-1<=y) (f:y<Jk ys):
  Zcj poly p (y,ys)=Jg (.inl (y-1,axAt p (p-ix ys y) poly (y-((Jk poly:Int)-1)) ys)):=by
 have hg:0<=y:=Z;obtain ⟨u,v⟩:=hy y Z f;simp (disch:=omega) only [pz,Zcj];rw [Ze2 (p:=p) (c:=p-ix ys y) (off:=y-((poly.length:Int)-1)) (ws:=poly) Z Z λj zs h i hz he=>by
  obtain ⟨k,l⟩:=hP j h i;obtain ⟨w,x⟩:=hy (y-((poly.length:Int)-1)+j) Z Z;obtain ⟨g7,g8⟩:=ZiV (a:=ix ys y) (b:=ix poly j) Z Z k (X0 l) e;generalize hX:ix ys (y-((Jk poly:Int)-1)+j)=X at *;generalize hM:ix ys y*ix poly j=M at *;have b1:=Int.lt_tmod_of_pos (X-M) (by omega:(0:Int)<p);have b2:=Int.tmod_lt_of_pos (X-M) (by omega:(0:Int)<p);have o:=Xg (b:=p) (a:=(X-M).tmod p+p) Z;have r:((X-M).tmod p+p)%p=(X+(p-ix ys y)*ix poly j)%p:=by
   rw [Int.add_emod_right,Int.sub_mul,hM];have h9:=Int.mul_tdiv_add_tmod (X-M) p;have:(X+(p*ix poly j-M))=(X-M).tmod p+p*((X-M).tdiv p+ix poly j):=by
    grind
   simp_all
  simp (disch:=omega) only [pz,Zik,he,hM,o,r]]
 refine Ze ?_;simp (disch:=omega) only [pz,Zik]
theorem ZOo {p:Int} {poly xs:Jb} (hp:2<=p) (f:p<=64) (u:In p poly) (h:In p xs) (x:(Jk xs:Int)<=4096) (h1:1<=(Jk poly:Int)) (j:(Jk poly:Int)-1<=Jk xs):
  Zek xs poly p=Jg ((rstN p poly xs ((Jk xs:Int)-((Jk poly:Int)-1)).toNat).take ((Jk poly:Int)-1).toNat):=by
 unfold Zek;rw [Zjc Z];show loop (Zca poly p) (IntKind.i64.wrap ((Jk xs:Int)-1),xs)=_;rw [wr64 Z Z];have o:=Zj (B:=Zca poly p) (λm=>((Jk xs:Int)-1-m,rstN p poly xs m.toNat)) (i:=0) (n:=(Jk xs:Int)-((Jk poly:Int)-1)) Z λm k l=>by
  grind [ZbB,Zca,ZMg,ZiJ,Zwt]
 have a:((Jk xs:Int)-1,xs)=(λm:Int=>((Jk xs:Int)-1-m,rstN p poly xs m.toNat)) 0:=by
  show _=((Jk xs:Int)-1-0,xs);simp
 rw [a,o];refine Ze ?_;have w:=ZbB (p:=p) (poly:=poly) (xs:=xs) ((Jk xs:Int)-((Jk poly:Int)-1)).toNat;have e:(Jk xs:Int)-1-((Jk xs:Int)-((Jk poly:Int)-1))=(Jk poly:Int)-2:=Z;simp (disch:=omega) only [pz,Zca,e];rw [ZGa Z h1 Z]
theorem ZG5 {p:Int} {poly xs:Jb} (hp:2<=p) (f:p<=64) (w:In p poly) (h:In p xs) (x:(Jk xs:Int)<=4096) (h1:1<=(Jk poly:Int)) (j:(Jk poly:Int)-1<=Jk xs):
  Zec xs poly p=Jg ((rstN p poly xs ((Jk xs:Int)-((Jk poly:Int)-1)).toNat).take ((Jk poly:Int)-1).toNat):=by
 unfold Zec;rw [Zou Z];show loop (Zcj poly p) (IntKind.i64.wrap ((Jk xs:Int)-1),xs)=_;rw [wr64 Z Z];have o:=Zj (B:=Zcj poly p) (λm=>((Jk xs:Int)-1-m,rstN p poly xs m.toNat)) (i:=0) (n:=(Jk xs:Int)-((Jk poly:Int)-1)) Z λm k l=>by
  grind [ZbB,Zcj,ZFk,ZiJ,Zwt]
 have a:((Jk xs:Int)-1,xs)=(λm:Int=>((Jk xs:Int)-1-m,rstN p poly xs m.toNat)) 0:=by
  show _=((Jk xs:Int)-1-0,xs);simp
 rw [a,o];refine Ze ?_;have u:=ZbB (p:=p) (poly:=poly) (xs:=xs) ((Jk xs:Int)-((Jk poly:Int)-1)).toNat;have e:(Jk xs:Int)-1-((Jk xs:Int)-((Jk poly:Int)-1))=(Jk poly:Int)-2:=Z;simp (disch:=omega) only [pz,Zcj,e,u,ite_f,Zba];rfl
def mulA (f:Zd) (a b:Int):Int:=
 nm f.Prime ((rstN f.Prime f.Poly (cnvN f.Prime (dig f.Prime f.Degree a) (dig f.Prime f.Degree b) (Jn (2*f.Degree-1).toNat 0) f.Degree.toNat) (f.Degree-1).toNat).take f.Degree.toNat)
theorem Zbu {p:Int} {as bs xs:Jb}:∀m,(cnvN p as bs xs m).length=Jk xs
 | 0=>rfl
 | m+1=>by show (axAt _ _ _ _ _).length=_;rw [ZbF,Zbu m]
theorem Zb6 {p:Int} {as bs xs:Jb} (hp:2<=p) (a:In p xs):∀m,In p (cnvN p as bs xs m)
 | 0=>a
 | m+1=>Zom hp (Zb6 hp a m)
theorem ZuT {p:Int} {as bs xs:Jb} {m:Int} (h:0<=m):cnvN p as bs xs (m+1).toNat=axAt p (ix as m) bs m (cnvN p as bs xs m.toNat):=by
 rw [show (m+1).toNat=m.toNat+1 by omega];show axAt _ _ _ _ _=_;grind
theorem ZjE {p n:Int} (hp:2<=p):In p (Jn n.toNat 0):=λi a h1=>by
 grind [JD,ZaZ]
theorem Zw7 {p:Int} {xs:Jb} {n:Int} (h:In p xs):In p (xs.take n.toNat):=λi a h1=>by
 rw [Jt] at h1;rw [Zdo a Z];exact h i a Z
theorem ZPq {f:Zd} (hf:Fd f) {as bs ys:Jb} {i:Int} (ha:In f.Prime as) (e:In f.Prime bs) (hy:In f.Prime ys) (hl:(Jk ys:Int)<=4096) (h:0<=i) (h1:i<Jk as) (v:i+(Jk bs:Int)<=Jk ys):
  ZfL f as bs (i,ys)=Jg (.inl (i+1,axAt f.Prime (ix as i) bs i ys)):=by
 have:=hf.p2;have:=hf.p64;obtain ⟨w,k⟩:=ha i h h1;simp (disch:=omega) only [pz,ZfL];rw [Ze2 (p:=f.Prime) (c:=ix as i) (off:=i) (ws:=bs) Z Z λj zs l o hz he=>by
  obtain ⟨r,s⟩:=e j l o;obtain ⟨x,y⟩:=hy (i+j) Z Z;obtain ⟨g7,g8⟩:=ZiV (a:=ix as i) (b:=ix bs j) Z (X0 k) r (X0 s) hf.p64;have u:=Xg (b:=f.Prime) (a:=ix ys (i+j)+ix as i*ix bs j) Z;simp (disch:=omega) only [pz,ZoH,he,u]]
 refine Ze ?_;simp (disch:=omega) only [pz,ZoH]
theorem ZMv {f:Zd} (hf:Fd f) {as bs ys:Jb} {i:Int} (ha:In f.Prime as) (e:In f.Prime bs) (hy:In f.Prime ys) (hl:(Jk ys:Int)<=4096) (h:0<=i) (h1:i<Jk as) (v:i+(Jk bs:Int)<=Jk ys):
  Zf7 f as bs (i,ys)=Jg (.inl (i+1,axAt f.Prime (ix as i) bs i ys)):=by
 have:=hf.p2;have:=hf.p64;obtain ⟨w,k⟩:=ha i h h1;simp (disch:=omega) only [pz,Zf7];rw [Ze2 (p:=f.Prime) (c:=ix as i) (off:=i) (ws:=bs) Z Z λj zs l o hz he=>by
  obtain ⟨r,s⟩:=e j l o;obtain ⟨x,y⟩:=hy (i+j) Z Z;obtain ⟨g7,g8⟩:=ZiV (a:=ix as i) (b:=ix bs j) Z (X0 k) r (X0 s) hf.p64;have u:=Xg (b:=f.Prime) (a:=ix ys (i+j)+ix as i*ix bs j) Z;simp (disch:=omega) only [pz,Zo1,he,u]]
 refine Ze ?_;simp (disch:=omega) only [pz,Zo1]
theorem Zx8 {f:Zd} (e:Fd f) (a b:Int):Zbw ((rstN f.Prime f.Poly (cnvN f.Prime (dig f.Prime f.Degree a) (dig f.Prime f.Degree b) (Jn (2*f.Degree-1).toNat 0) f.Degree.toNat) (f.Degree-1).toNat).take f.Degree.toNat) f.Prime=Jg (mulA f a b):=by
 have:=e.p2;have:=e.p64;have:=e.k1;have:=e.k6;have h:((rstN f.Prime f.Poly (cnvN f.Prime (dig f.Prime f.Degree a) (dig f.Prime f.Degree b) (Jn (2*f.Degree-1).toNat 0) f.Degree.toNat) (f.Degree-1).toNat).take f.Degree.toNat).length=f.Degree.toNat:=by
  rw [Jt,ZbB,Zbu,JD];omega
 refine Zu9 Z Z (Zw7 (ZiJ Z (Zb6 Z (ZjE Z) _) _)) Z ?_;rw [h];exact e.w64
theorem Zil {f:Zd} (u:Fd f) {a b:Int} (ha:0<=a) (j:a<=4096) (e:0<=b) (l:b<=4096):Zb7 f a b=Jg (mulA f a b):=by
 have:=u.p2;have:=u.p64;have:=u.k1;have:=u.k6;have a5:=u.pl;have a3:=ZaS (p:=f.Prime) (k:=f.Degree) (a:=a) Z;have a6:=ZaS (p:=f.Prime) (k:=f.Degree) (a:=b) Z;unfold Zb7;rw [ZlK ha Z Z Z Z Z,ZlK e Z Z Z Z Z];simp (disch:=omega) only [pz,Zaq];have w:=ZjE (p:=f.Prime) (n:=2*f.Degree-1) Z;have a4:(Jn (2*f.Degree-1).toNat (0:Int)).length=(2*f.Degree-1).toNat:=JD;have x:=Zj (B:=ZfL f (dig f.Prime f.Degree a) (dig f.Prime f.Degree b)) (λi=>(i,cnvN f.Prime (dig f.Prime f.Degree a) (dig f.Prime f.Degree b) (Jn (2*f.Degree-1).toNat 0) i.toNat)) (i:=0) (n:=f.Degree) Z λi o h1=>by
  grind [Zbu,dig,ZfL,ZPq,ZcL,Zb6,ZuT]
 have h:((0:Int),Jn (2*f.Degree-1).toNat (0:Int))=(λi:Int=>(i,cnvN f.Prime (dig f.Prime f.Degree a) (dig f.Prime f.Degree b) (Jn (2*f.Degree-1).toNat 0) i.toNat)) 0:=rfl;rw [h,x];refine Ze ?_;have hL:=Zbu (p:=f.Prime) (as:=dig f.Prime f.Degree a) (bs:=dig f.Prime f.Degree b) (xs:=Jn (2*f.Degree-1).toNat 0) f.Degree.toNat;have hR:=ZOo (p:=f.Prime) (poly:=f.Poly) (xs:=cnvN f.Prime (dig f.Prime f.Degree a) (dig f.Prime f.Degree b) (Jn (2*f.Degree-1).toNat 0) f.Degree.toNat) Z Z u.rng (Zb6 Z w _) Z Z Z;grind [cnvN,dig,pz,ZfL,Zx8]
theorem Zz9 {p c off z:Int} {ws xs:Jb} (h:off+(Jk ws:Int)<=Jk xs):axAt p c ws off (xs++[z])=axAt p c ws off xs++[z]:=by
 apply ZaP
 .simp [ZbF,Jo]
 .intro i e a;rw [ZbF,Jo] at a;have f:i<(Jk xs:Int)+1:=by simpa using a
  unfold axAt;rw [ZL e (by rw [Jo];exact a)];by_cases hi:i<(Jk xs:Int)
  .grind [Zit,Zy,ZL]
  .rw [if_neg Z,Zeq Z,Zeq (by rw [Zy];omega),Zy];congr 2
theorem ZzC {p z:Int} {as bs xs:Jb} {k:Nat} (h:(k:Int)-1+(Jk bs:Int)<=Jk xs):∀m,m<=k->cnvN p as bs (xs++[z]) m=cnvN p as bs xs m++[z]
 | 0,_=>rfl
 | m+1,hm=>by
  show axAt _ _ _ _ (cnvN p as bs (xs++[z]) m)=axAt _ _ _ _ _++[z];rw [ZzC h m Z,Zz9 (by rw [Zbu];omega)]
theorem ZId {p off:Int} {ws xs:Jb} (a:In p xs):axAt p p ws off xs=xs:=by
 refine Eq.trans (ZX λi e f=>?_) (Zbg xs);obtain ⟨h1,h⟩:=a i e f;split
 .rw [Int.add_mul_emod_self_left,Int.emod_eq_of_lt h1 h]
 .rfl
theorem ZwZ {p:Int} {poly xs:Jb} (hp:2<=p) (e:In p xs) (a:In p (xs++[0])) (h1:1<=(Jk poly:Int)):∀m:Nat,(m:Int)+((Jk poly:Int)-1)<=Jk xs->rstN p poly (xs++[0]) (m+1)=rstN p poly xs m++[0]
 | 0,h=>by
  show axAt p (p-ix (xs++[0]) _) _ _ (xs++[0])=xs++[0];simp_all [Zeq,Jo,ZvB,Int.sub_zero,ZId]
 | m+1,h=>by
  have j:=ZbB (p:=p) (poly:=poly) (xs:=xs) m;show axAt p (p-ix (rstN p poly (xs++[0]) (m+1)) _) poly _ (rstN p poly (xs++[0]) (m+1))=axAt _ _ _ _ _++[0];rw [ZwZ hp e a h1 m Z,Jo];grind [Zit,Zz9]
theorem ZHt {f:Zd} (u:Fd f) {a b:Int} (ha:0<=a) (o:a<=4096) (h:0<=b) (r:b<=4096):Zm0 f a b=Jg (mulA f a b):=by
 have:=u.p2;have:=u.p64;have:=u.k1;have:=u.k6;have a9:=u.pl;have a7:=ZaS (p:=f.Prime) (k:=f.Degree) (a:=a) Z;have aa:=ZaS (p:=f.Prime) (k:=f.Degree) (a:=b) Z;unfold Zm0;rw [Zhq ha Z Z Z Z Z,Zhq h Z Z Z Z Z];simp (disch:=omega) only [pz,Zaq];have a3:=ZjE (p:=f.Prime) (n:=2*f.Degree-1) Z;have e:=ZjE (p:=f.Prime) (n:=2*f.Degree) Z;have a8:(Jn (2*f.Degree).toNat (0:Int)).length=(2*f.Degree).toNat:=JD;have j:(Jn (2*f.Degree-1).toNat (0:Int)).length=(2*f.Degree-1).toNat:=JD;have w:Jn (2*f.Degree).toNat (0:Int)=Jn (2*f.Degree-1).toNat 0++[0]:=by
  rw [show (2*f.Degree).toNat=(2*f.Degree-1).toNat+1 by omega,List.replicate_succ']
 have a4:=Zj (B:=Zf7 f (dig f.Prime f.Degree a) (dig f.Prime f.Degree b)) (λi=>(i,cnvN f.Prime (dig f.Prime f.Degree a) (dig f.Prime f.Degree b) (Jn (2*f.Degree).toNat 0) i.toNat)) (i:=0) (n:=f.Degree) Z λi s h1=>by
  grind [Zbu,dig,Zf7,ZMv,ZcL,Zb6,ZuT]
 have l:((0:Int),Jn (2*f.Degree).toNat (0:Int))=(λi:Int=>(i,cnvN f.Prime (dig f.Prime f.Degree a) (dig f.Prime f.Degree b) (Jn (2*f.Degree).toNat 0) i.toNat)) 0:=rfl;rw [l,a4];refine Ze ?_;have hL:=Zbu (p:=f.Prime) (as:=dig f.Prime f.Degree a) (bs:=dig f.Prime f.Degree b) (xs:=Jn (2*f.Degree).toNat 0) f.Degree.toNat;have hR:=ZG5 (p:=f.Prime) (poly:=f.Poly) (xs:=cnvN f.Prime (dig f.Prime f.Degree a) (dig f.Prime f.Degree b) (Jn (2*f.Degree).toNat 0) f.Degree.toNat) Z Z u.rng (Zb6 Z e _) Z Z Z;rw [show ((cnvN f.Prime (dig f.Prime f.Degree a) (dig f.Prime f.Degree b) (Jn (2*f.Degree).toNat 0) f.Degree.toNat).length:Int)-((f.Poly.length:Int)-1)=f.Degree by omega,show (Jk f.Poly:Int)-1=f.Degree by omega] at hR;have x:=ZzC (p:=f.Prime) (z:=0) (as:=dig f.Prime f.Degree a) (bs:=dig f.Prime f.Degree b) (xs:=Jn (2*f.Degree-1).toNat 0) (k:=f.Degree.toNat) Z f.Degree.toNat (JB _);have a6:=Zbu (p:=f.Prime) (as:=dig f.Prime f.Degree a) (bs:=dig f.Prime f.Degree b) (xs:=Jn (2*f.Degree-1).toNat 0) f.Degree.toNat;have hB:=ZwZ (p:=f.Prime) (poly:=f.Poly) Z (Zb6 (p:=f.Prime) (as:=dig f.Prime f.Degree a) (bs:=dig f.Prime f.Degree b) Z a3 f.Degree.toNat) (by rw [<-x,<-w];exact Zb6 Z e _) Z (f.Degree-1).toNat Z;rw [<-w] at x;rw [show (f.Degree-1).toNat+1=f.Degree.toNat by omega] at hB;rw [x] at hR ⊢;rw [hB,List.take_append_of_le_length (by rw [ZbB];omega)] at hR;grind [pz,Zf7,ZuD,Zx8]
noncomputable def gx (xs:Jb):Nat->Int:=List.rec (λ_=>0) (λa _ e n=>Nat.rec a (λm _=>e m) n) xs
theorem gx_ok:∀(xs:Jb) (n:Nat),gx xs n=ix xs (n:Int)
 | [],n=>by simp [gx,ix]
 | a::xs,0=>rfl
 | a::xs,n+1=>by
  show gx xs n=_;rw [gx_ok xs n,ZdD Z];simp
theorem Zp6 {α:Type} {n:Nat} {f:Int->α}:tabl ((n+1:Nat):Int) f=f 0::tabl (n:Int) λi=>f (i+1):=by
 simp [tabl,List.range_succ_eq_map,JG,Xb]
noncomputable def axR (p c:Int) (ws:Jb):Jb->Jb:=List.rec (λxs=>xs) (λw _ e xs=>List.rec [] (λx xs _=>WI (WJ x (WK c w)) p::e xs) xs) ws
noncomputable def axE (p c:Int) (ws:Jb) (off:Nat):Jb->Jb:=Nat.rec (axR p c ws) (λ_ e xs=>List.rec [] (λx xs _=>x::e xs) xs) off
theorem ZpJ {p c:Int}:∀(ws xs:Jb),Jk ws<=Jk xs->axR p c ws xs=axAt p c ws 0 xs
 | [],xs,_=>by
  show xs=_;refine (Zbg xs).symm.trans (ZX λi a e=>?_);grind
 | w::ws,[],h=>by simp at h
 | w::ws,x::xs,h=>by
  show ((x+c*w)%p)::axR p c ws xs=_;rw [ZpJ ws xs (by simpa using h)];unfold axAt;rw [show (((x::xs).length:Nat):Int)=((xs.length+1:Nat):Int) from rfl,Zp6];congr 1
  .rw [if_pos (by rw [show (((w::ws).length:Nat):Int)=(ws.length:Int)+1 by simp];omega)];rfl
  .refine ZX λi a e=>?_;rw [show (((w::ws).length:Nat):Int)=(ws.length:Int)+1 by simp];by_cases hi:i<(Jk ws:Int)
   .rw [if_pos Z,if_pos Z,ZdD Z,ZdD Z,show i+1-1=i by omega,show i+1-0-1=i-0 by omega]
   .rw [if_neg Z,if_neg Z,ZdD Z,show i+1-1=i by omega]
theorem ZpT {p c:Int} {ws:Jb}:∀(off:Nat) (xs:Jb),off+Jk ws<=Jk xs->axE p c ws off xs=axAt p c ws (off:Int) xs
 | 0,xs,h=>ZpJ ws xs Z
 | off+1,[],h=>by simp at h
 | off+1,x::xs,h=>by
  show x::axE p c ws off xs=_;rw [ZpT off xs (by simp at h;omega)];unfold axAt;rw [show (((x::xs).length:Nat):Int)=((xs.length+1:Nat):Int) from rfl,Zp6];congr 1;refine ZX λi a e=>?_;by_cases hi:(off:Int)<=i/\i<(off:Int)+(Jk ws:Int)
  .rw [if_pos hi,if_pos Z,ZdD Z,show i+1-1=i by omega,show i+1-((off+1:Nat):Int)=i-(off:Int) by omega]
  .rw [if_neg hi,if_neg Z,ZdD Z,show i+1-1=i by omega]
noncomputable def digE (p:Int) (k:Nat):Int->Jb:=Nat.rec (λ_=>[]) (λ_ h a=>Frc.frc (WL a p) λe=>WI a p::h e) k
theorem Zuu (p a:Int):∀i:Nat,qd p a (i+1)=qd p (a/p) i
 | 0=>rfl
 | i+1=>by show qd p a (i+1)/p=_;rw [Zuu p a i];rfl
theorem ZmX {p:Int}:∀(k:Nat) (a:Int),digE p k a=dig p (k:Int) a
 | 0,a=>rfl
 | k+1,a=>by
  show Frc.frc (WL a p) _=_;rw [Frc.ok];show (a%p)::digE p k (a/p)=_;rw [ZmX k (a/p)];unfold dig;rw [Zp6];congr 1;refine ZX λi e f=>?_;rw [show (i+1).toNat=i.toNat+1 by omega,Zuu]
noncomputable def nmE (p:Int) (xs:Jb):Int:=List.rec 0 (λd _ r=>WJ (WK r p) d) xs
theorem ZA1 {p d:Int} {e:Jb}:∀m:Nat,m<=Jk e->nmN p (d::e) m=nmN p e m
 | 0,_=>rfl
 | m+1,h=>by
  show nmN p (d::e) m*p+ix (d::e) _=nmN p e m*p+ix e _;rw [ZA1 m Z,ZdD (by simp;omega)];grind
theorem Zpr {p:Int}:∀xs:Jb,nmE p xs=nm p xs
 | []=>rfl
 | d::ds=>by
  show nmE p ds*p+d=nmN p (d::ds) (Jk ds+1);show nmE p ds*p+d=nmN p (d::ds) (Jk ds)*p+ix (d::ds) _;rw [ZA1 _ (JB _),Zpr ds,show (((d::ds).length:Nat):Int)-1-(ds.length:Int)=0 by simp,ZvB];rfl
noncomputable def sumE (p:Int) (k:Nat) (a b c:Int):Int:=Frc.frc (digE p k a) λas=>Frc.frc (digE p k b) λbs=>Frc.frc (axR p c bs as) λxs=>nmE p xs
noncomputable def cnvE (p:Int) (as bs xs:Jb) (m:Nat):Jb:=Nat.rec xs (λi r=>axE p (gx as i) bs i r) m
noncomputable def rstE (p:Int) (poly:Jb) (l k:Nat) (xs:Jb) (m:Nat):Jb:=Nat.rec xs (λm r=>Frc.frc r λe=>Frc.frc (Yy p (gx e (Xy (Xy l 1) m))) λc=>axE p c poly (Xy (Xy (Xy l 1) m) k) e) m
noncomputable def tkE (n:Nat):Jb->Jb:=Nat.rec (λ_=>[]) (λ_ e xs=>List.rec [] (λx xs _=>x::e xs) xs) n
theorem Zuj:∀(n:Nat) (xs:Jb),tkE n xs=xs.take n
 | 0,xs=>rfl
 | n+1,[]=>rfl
 | n+1,x::xs=>by show x::tkE n xs=_;rw [Zuj n xs];rfl
noncomputable def rpE (n:Nat):Jb:=Nat.rec [] (λ_ r=>0::r) n
theorem Zwu:∀n:Nat,rpE n=Jn n 0
 | 0=>rfl
 | n+1=>by show 0::rpE n=_;rw [Zwu n];rfl
noncomputable def mulE (p:Int) (k:Nat) (poly:Jb) (a b:Int):Int:=
 Frc.frc (digE p k a) λas=>Frc.frc (digE p k b) λbs=>
 Frc.frc (cnvE p as bs (rpE (Xy (WM 2 k) 1)) k) λxs=>Frc.frc (rstE p poly (Xy (WM 2 k) 1) k xs (Xy k 1)) λe=>nmE p (tkE k e)
theorem ZBV {p:Int} {as bs xs:Jb}:∀m:Nat,(m:Int)-1+(Jk bs:Int)<=Jk xs->cnvE p as bs xs m=cnvN p as bs xs m
 | 0,_=>rfl
 | m+1,h=>by
  show axE p (gx as m) bs m (cnvE p as bs xs m)=axAt _ _ _ _ _;rw [ZBV m Z,ZpT m _ (by rw [Zbu];omega),gx_ok]
theorem ZzJ {p:Int} {poly xs:Jb} {l k:Nat} (j:Jk xs=l) (e:Jk poly=k+1):∀m:Nat,m+k<=l->rstE p poly l k xs m=rstN p poly xs m
 | 0,_=>rfl
 | m+1,h=>by
  show Frc.frc (rstE p poly l k xs m) _=axAt _ _ _ _ _;rw [Frc.ok,Frc.ok,ZzJ j e m Z,gx_ok];rw [ZpT _ _ (by rw [ZbB,j,e];show l-1-m-k+(k+1)<=l;omega)];grind
theorem ZMy {f:Zd} (h:Fd f) {k:Nat} (e:f.Degree=(k:Int)) (a b c:Int):sumE f.Prime k a b c=sumA f a b c:=by
 grind [sumE,sumA,Frc.ok,ZmX,Zpr,ZpJ,ZaS]
theorem ZFg {f:Zd} (h:Fd f) {k:Nat} (j:f.Degree=(k:Int)) (a b:Int):mulE f.Prime k f.Poly a b=mulA f a b:=by
 have:=h.k1;have:=h.k6;have l:=h.pl;have h1:=ZaS (p:=f.Prime) (k:=(k:Int)) (a:=a) Z;have e:=ZaS (p:=f.Prime) (k:=(k:Int)) (a:=b) Z;unfold mulE mulA;rw [Frc.ok,Frc.ok,Frc.ok,Frc.ok,ZmX,ZmX,Zpr,j,Zuj,Zwu];grind [Jp,ZBV,JD,ZzJ,Zbu]
set_option maxRecDepth 20000
noncomputable def allN (n:Nat) (f:Nat->Bool):Bool:=Nat.rec Ji (λm r=>bif f m then r else Jj) n
theorem Zen {f:Nat->Bool}:∀{n:Nat},allN n f=Ji->∀m,m<n->f m=Ji
 | 0,_,m,hm=>by omega
 | n+1,h,m,hm=>by
  have j:(bif f n then allN n f else Jj)=true:=h;cases hf:f n with
  | false=>rw [hf] at j;cases j
  | true=>
   rw [hf] at j;by_cases e:m=n
   .rw [e];exact hf
   .exact Zen j m Z
noncomputable def ngE (p:Int) (k:Nat) (a:Int):Int:=sumE p k 0 a (Yy p 1)
noncomputable def eqb (a b:Bool):Bool:=Bool.rec (Bool.rec Ji Jj b) b a
theorem ZDm {a b:Bool} (h:eqb a b=Ji):a=b:=by cases a<;>cases b<;>first|rfl|cases h
noncomputable def both (a b:Bool):Bool:=Bool.rec Jj b a
theorem ZdR {a b:Bool} (h:both a b=Ji):a=Ji/\b=true:=by cases a<;>cases b<;>first|exact ⟨rfl,rfl⟩|cases h
theorem ZdZ {a b:Int} (h:eqi a b=Ji):a=b:=by rw [<-Zn] at h;simpa using h
theorem Zkc {a b:Int}:eqi a b=Ji↔a=b:=by rw [<-Zn];simp
theorem ZGo {a b:Int}:lti a b=Ji↔a<b:=by rw [<-Zo];simp
noncomputable def chk (p:Int) (k:Nat) (poly e:Jb) (q:Nat):Bool:=
 allN q λa=>allN (Nat.succ a) λb=>Frc.frc (mulE p k poly (.ofNat a) (.ofNat b)) λm=>
  both (eqi m (mulE p k poly (.ofNat b) (.ofNat a))) (both (eqb (eqi m 1) (eqi (.ofNat b) (gx e a))) (eqb (eqi m 1) (eqi (.ofNat a) (gx e b))))
noncomputable def chkN (p:Int) (k:Nat) (poly:Jb) (q:Nat):Bool:=
 allN q λa=>Frc.frc (ngE p k (.ofNat a)) λe=>allN q λb=>both (Frc.frc (mulE p k poly (.ofNat a) (.ofNat b)) λm=>eqi (mulE p k poly e (.ofNat b)) (ngE p k m))
  (Frc.frc (ngE p k (.ofNat b)) λnb=>eqi (sumE p k (.ofNat a) (.ofNat b) (Yy p 1)) (sumE p k (.ofNat a) nb 1))
noncomputable def chk1 (p:Int) (k:Nat) (poly e:Jb) (q:Nat):Bool:=
 allN q λa=>both (eqi (mulE p k poly 0 (.ofNat a)) 0) (both (eqi (sumE p k (.ofNat a) 0 (Yy p 1)) (.ofNat a)) (Nat.rec Ji (λ_ _=>both (lti 0 (gx e a)) (lti (gx e a) (.ofNat q))) a))
noncomputable def chk2 (p:Int) (k:Nat) (q:Nat):Bool:=both (eqi p 2) (allN q λa=>eqi (ngE p k (.ofNat a)) (.ofNat a))
inductive GF:Int->Zd->Prop
 | f2:GF 2 ⟨2,1,[0,1]⟩
 | f3:GF 3 ⟨3,1,[0,1]⟩
 | f4:GF 4 ⟨2,2,[1,1,1]⟩
 | f5:GF 5 ⟨5,1,[0,1]⟩
 | f7:GF 7 ⟨7,1,[0,1]⟩
 | f8:GF 8 ⟨2,3,[1,1,0,1]⟩
 | f9:GF 9 ⟨3,2,[1,0,1]⟩
 | f11:GF 11 ⟨11,1,[0,1]⟩
 | f13:GF 13 ⟨13,1,[0,1]⟩
 | f16:GF 16 ⟨2,4,[1,1,0,0,1]⟩
 | f17:GF 17 ⟨17,1,[0,1]⟩
 | f19:GF 19 ⟨19,1,[0,1]⟩
 | f23:GF 23 ⟨23,1,[0,1]⟩
 | f25:GF 25 ⟨5,2,[2,0,1]⟩
 | f27:GF 27 ⟨3,3,[1,2,0,1]⟩
 | f29:GF 29 ⟨29,1,[0,1]⟩
 | f31:GF 31 ⟨31,1,[0,1]⟩
 | f32:GF 32 ⟨2,5,[1,0,1,0,0,1]⟩
 | f37:GF 37 ⟨37,1,[0,1]⟩
 | f41:GF 41 ⟨41,1,[0,1]⟩
 | f43:GF 43 ⟨43,1,[0,1]⟩
 | f47:GF 47 ⟨47,1,[0,1]⟩
 | f49:GF 49 ⟨7,2,[1,0,1]⟩
 | f53:GF 53 ⟨53,1,[0,1]⟩
 | f59:GF 59 ⟨59,1,[0,1]⟩
 | f61:GF 61 ⟨61,1,[0,1]⟩
 | f64:GF 64 ⟨2,6,[1,1,0,0,0,0,1]⟩
structure Ff (f:Zd) (q:Int) (inv:Jb):Prop where
 fd:Fd f
 pw:pwN f.Prime f.Degree.toNat=q
 q2:2<=q
 q64:q<=64
 comm:∀a b,0<=a->a<q->0<=b->b<q->mulA f a b=mulA f b a
 neg:∀a b,0<=a->a<q->0<=b->b<q->mulA f (sumA f 0 a (f.Prime-1)) b=sumA f 0 (mulA f a b) (f.Prime-1)
 sub:∀a b,0<=a->a<q->0<=b->b<q->sumA f a b (f.Prime-1)=sumA f a (sumA f 0 b (f.Prime-1)) 1
 inv1:∀a,1<=a->a<q->1<=ix inv a/\ix inv a<q
 inv2:∀a b,0<=a->a<q->0<=b->b<q->(mulA f a b=1↔b=ix inv a)
 z1:∀a,0<=a->a<q->mulA f 0 a=0
 z2:∀a,0<=a->a<q->sumA f a 0 (f.Prime-1)=a
theorem ZC6 {f:Zd} {q:Int} (j:Fd f) (a:pwN f.Prime f.Degree.toNat=q) {xs:Jb} (e:In f.Prime xs) (h:Jk xs=f.Degree.toNat):0<=nm f.Prime xs/\nm f.Prime xs<q:=by
 have:=Znb j.p2 e (Jk xs) (JB _);unfold nm;rw [h,a] at this;rw [h];exact this
theorem ZiF {f:Zd} {q:Int} (h:Fd f) (e:pwN f.Prime f.Degree.toNat=q) (a b c:Int):0<=sumA f a b c/\sumA f a b c<q:=by
 have:=h.p2;have:=h.k1;refine ZC6 h e (Zom Z (ZcL Z)) ?_;have:=ZaS (p:=f.Prime) (k:=f.Degree) (a:=a) Z;rw [ZbF];omega
theorem Zb2 {f:Zd} {q:Int} (h:Fd f) (e:pwN f.Prime f.Degree.toNat=q) (a b:Int):0<=mulA f a b/\mulA f a b<q:=by
 have:=h.p2;have:=h.k1;refine ZC6 h e (Zw7 (ZiJ Z (Zb6 Z (ZjE Z) _) _)) ?_;rw [Jt,ZbB,Zbu,JD];omega
theorem ff_of {f:Zd} {q k:Nat} {a5:Jb} (hf:Fd f) (hk:f.Degree=(k:Int)) (u:pwN f.Prime k=q) (a4:2<=q) (v:q<=64) (h1:chk f.Prime k f.Poly a5 q=Ji) (w:chk1 f.Prime k f.Poly a5 q=Ji) (x:chkN f.Prime k f.Poly q=Ji\/chk2 f.Prime k q=Ji):Ff f q a5:=by
 have hM:∀a b,mulE f.Prime k f.Poly a b=mulA f a b:=ZFg hf hk;have hS:∀a b c,sumE f.Prime k a b c=sumA f a b c:=ZMy hf hk;have a9:pwN f.Prime f.Degree.toNat=(q:Int):=by rw [hk,Jp];exact u
 have a6:∀a b:Nat,a<q->b<=a->mulA f a b=mulA f b a/\(mulA f a b=1↔(b:Int)=ix a5 a)/\(mulA f a b=1↔(a:Int)=ix a5 b):=by
  intro a b ha i;have h:=Zen (Zen h1 a ha) b Z;simp only [Frc.ok] at h;obtain ⟨j,e⟩:=ZdR h;obtain ⟨e,l⟩:=ZdR e;rw [hM,hM] at j;have e:=ZDm e;have l:=ZDm l;rw [hM,gx_ok] at e;rw [hM,gx_ok] at l;refine ⟨ZdZ j,?_,?_⟩
  .rw [<-Zkc,<-Zkc (a:=(b:Int))];exact ⟨λh=>e.symm.trans h,λh=>e.trans h⟩
  .rw [<-Zkc,<-Zkc (a:=(a:Int))];exact ⟨λh=>l.symm.trans h,λh=>l.trans h⟩
 have a3:∀{a:Int},0<=a->a<(q:Int)->∃n:Nat,a=(n:Int)/\n<q:=λ{a} h0 h1=>⟨a.toNat,by omega,by omega⟩
 have one:∀a:Nat,a<q->mulA f 0 a=0/\sumA f a 0 (f.Prime-1)=a/\(1<=a->1<=ix a5 a/\ix a5 a<q):=by
  intro a ha;obtain ⟨j,e⟩:=ZdR (Zen w a ha);obtain ⟨e,l⟩:=ZdR e;rw [hM] at j;rw [hS] at e;refine ⟨ZdZ j,ZdZ e,λh=>?_⟩;cases a with
  | zero=>omega
  | succ n=>
   obtain ⟨y,s⟩:=ZdR (show both _ _=Ji from l);rw [gx_ok,ZGo] at y s;exact ⟨by omega,s⟩
 have aa:∀a b:Nat,a<q->b<q->mulA f (sumA f 0 a (f.Prime-1)) b=sumA f 0 (mulA f a b) (f.Prime-1)/\sumA f a b (f.Prime-1)=sumA f a (sumA f 0 b (f.Prime-1)) 1:=by
  intro a b ha i;rcases x with h|h
  .have h:=Zen h a ha;simp only [Frc.ok] at h;have h:=Zen h b i;obtain ⟨j,e⟩:=ZdR h;unfold ngE at j e;simp only [hM,hS] at j e;exact ⟨ZdZ j,ZdZ e⟩
  .obtain ⟨j,e⟩:=ZdR h;have hp:=ZdZ j;have ng:∀a:Nat,a<q->sumA f 0 a (f.Prime-1)=a:=λa ha=>by
    have:=ZdZ (Zen e a ha);unfold ngE at this;rw [hS] at this;exact this
   rw [ng a ha,ng b i];obtain ⟨m0,m1⟩:=Zb2 hf a9 a b;obtain ⟨m,em,hm⟩:=a3 m0 m1;rw [em,ng m hm];refine ⟨rfl,?_⟩;rw [hp];rfl
 refine ⟨hf,a9,by omega,by omega,?_,?_,?_,?_,?_,?_,?_⟩
 .intro a b a0 a1 o r;obtain ⟨a,rfl,ha⟩:=a3 a0 a1;obtain ⟨b,rfl,i⟩:=a3 o r;by_cases h:b<=a
  .exact (a6 a b ha h).1
  .exact (a6 b a i Z).1.symm
 .intro a b a0 a1 o r;obtain ⟨a,rfl,ha⟩:=a3 a0 a1;obtain ⟨b,rfl,i⟩:=a3 o r;exact (aa a b ha i).1
 .intro a b a0 a1 o r;obtain ⟨a,rfl,ha⟩:=a3 a0 a1;obtain ⟨b,rfl,i⟩:=a3 o r;exact (aa a b ha i).2
 .intro a a0 a1;obtain ⟨a,rfl,ha⟩:=a3 Z a1;exact (one a ha).2.2 Z
 .intro a b a0 a1 o r;obtain ⟨a,rfl,ha⟩:=a3 a0 a1;obtain ⟨b,rfl,i⟩:=a3 o r;by_cases h:b<=a
  .exact (a6 a b ha h).2.1
  .have:=a6 b a i Z;rw [<-this.1];exact this.2.2
 .intro a a0 a1;obtain ⟨a,rfl,ha⟩:=a3 a0 a1;exact (one a ha).1
 .intro a a0 a1;obtain ⟨a,rfl,ha⟩:=a3 a0 a1;exact (one a ha).2.1
theorem ZE4 {p:Int} {xs:Jb} (h:xs.all (λx=>decide (0<=x/\x<p))=Ji):In p xs:=λi a h1=>by
 simpa using List.all_eq_true.1 h _ (Zl a h1)
theorem ffA {f:Zd} {q:Int} (u:Jb) (a0:2<=f.Prime/\f.Prime<=64/\1<=f.Degree/\f.Degree<=6/\(Jk f.Poly:Int)=f.Degree+1/\ix f.Poly f.Degree=1/\f.Poly.all (λx=>decide (0<=x/\x<f.Prime))=Ji/\pwN f.Prime f.Degree.toNat=q/\2<=q/\q<=64:=by decide) (h1:chk f.Prime f.Degree.toNat f.Poly u q.toNat=Ji:=by kernel_rfl) (r:chk1 f.Prime f.Degree.toNat f.Poly u q.toNat=Ji:=by kernel_rfl) (h:Bool.rec (chkN f.Prime f.Degree.toNat f.Poly q.toNat) (chk2 f.Prime f.Degree.toNat q.toNat) (eqi f.Prime 2)=Ji:=by kernel_rfl):∃u,Ff f q u:=by
 obtain ⟨a,b,c,d,e,g,i,j,k,l⟩:=a0;have o:(q.toNat:Int)=q:=Z;exact ⟨u,o▸ff_of ⟨a,b,c,d,e,g,ZE4 i,by omega⟩ Z (j.trans o.symm) Z Z h1 r (by cases e:eqi f.Prime 2<;>rw [e] at h<;>first|exact .inl h|exact .inr h)⟩
theorem Zk7 {q:Int} {f:Zd} (h:GF q f):∃e,Ff f q e:=by
 cases h
 .exact ffA [-1,1]
 .exact ffA [-1,1,2]
 .exact ffA [-1,1,3,2]
 .exact ffA [-1,1,3,2,4]
 .exact ffA [-1,1,4,5,2,3,6]
 .exact ffA [-1,1,5,6,7,2,3,4]
 .exact ffA [-1,1,2,6,5,4,3,8,7]
 .exact ffA [-1,1,6,4,3,9,2,8,7,5,10]
 .exact ffA [-1,1,7,9,10,8,11,2,5,3,4,6,12]
 .exact ffA [-1,1,9,14,13,11,7,6,15,2,12,5,10,4,3,8]
 .exact ffA [-1,1,9,6,13,7,3,5,15,2,12,14,10,4,11,8,16]
 .exact ffA [-1,1,10,13,5,4,16,11,12,17,2,7,8,3,15,14,6,9,18]
 .exact ffA [-1,1,12,8,6,14,4,10,3,18,7,21,2,16,5,20,13,19,9,17,15,11,22]
 .exact ffA [-1,1,3,2,4,10,17,22,23,18,5,14,21,24,11,20,19,6,9,16,15,12,7,8,13]
 .exact ffA [-1,1,2,19,21,24,11,12,15,25,23,6,7,22,18,8,20,26,14,3,16,4,13,10,5,9,17]
 .exact ffA [-1,1,15,10,22,6,5,25,11,13,3,8,17,9,27,2,20,12,21,26,16,18,4,24,23,7,19,14,28]
 .exact ffA [-1,1,16,21,8,25,26,9,4,7,28,17,13,12,20,29,2,11,19,18,14,3,24,27,22,5,6,23,10,15,30]
 .exact ffA [-1,1,18,28,9,23,14,12,22,4,25,16,7,15,6,13,11,24,2,29,30,26,8,5,17,10,21,31,3,19,20,27]
 .exact ffA [-1,1,19,25,28,15,31,16,14,33,26,27,34,20,8,5,7,24,35,2,13,30,32,29,17,3,10,11,4,23,21,6,22,9,12,18,36]
 .exact ffA [-1,1,21,14,31,33,7,6,36,32,37,15,24,19,3,11,18,29,16,13,39,2,28,25,12,23,30,38,22,17,26,4,9,5,35,34,8,10,27,20,40]
 .exact ffA [-1,1,22,29,11,26,36,37,27,24,13,4,18,10,40,23,35,38,12,34,28,41,2,15,9,31,5,8,20,3,33,25,39,30,19,16,6,7,17,32,14,21,42]
 .exact ffA [-1,1,24,16,12,19,8,27,6,21,33,30,4,29,37,22,3,36,34,5,40,9,15,45,2,32,38,7,42,13,11,44,25,10,18,43,17,14,26,41,20,39,28,35,31,23,46]
 .exact ffA [-1,1,4,5,2,3,6,42,25,34,15,20,29,24,21,10,37,18,17,40,11,14,47,26,13,8,23,44,35,12,33,48,43,30,9,28,45,16,39,38,19,46,7,32,27,36,41,22,31]
 .exact ffA [-1,1,27,18,40,32,9,38,20,6,16,29,31,49,19,46,10,25,3,14,8,48,41,30,42,17,51,2,36,11,23,12,5,45,39,50,28,43,7,34,4,22,24,37,47,33,15,44,21,13,35,26,52]
 .exact ffA [-1,1,30,20,15,12,10,17,37,46,6,43,5,50,38,4,48,7,23,28,3,45,51,18,32,26,25,35,19,57,2,40,24,34,33,27,41,8,14,56,31,36,52,11,55,21,9,54,16,53,13,22,42,49,47,44,39,29,58]
 .exact ffA [-1,1,31,41,46,49,51,35,23,34,55,50,56,47,48,57,42,18,17,45,58,32,25,8,28,22,54,52,24,40,59,2,21,37,9,7,39,33,53,36,29,3,16,44,43,19,4,13,14,5,11,6,27,38,26,10,12,15,20,30,60]
 .exact ffA [-1,1,33,62,49,43,31,44,57,37,52,28,46,40,22,25,61,54,51,39,26,35,14,24,23,15,20,34,11,53,45,6,63,2,27,21,56,9,50,19,13,47,48,5,7,30,12,41,42,4,38,18,10,29,17,60,36,8,59,58,55,16,3,32]
structure Made (q:Int) (f:Zd):Prop where
 gf:GF q f
 split:Zct q=Jg (f.Prime,f.Degree)
 mks:Zcv q=Jg f
 mki:ZbI q=Jg (f,0)
 oks:Zhl f=Jg Ji
 oki:ZhO f=Jg Ji
 szs:ZaH f=Jg q
 szi:Zbf f=Jg q
def FldAt (q:Int):Prop:=(∃f,Made q f)\/(Zct q=Jg (0,0)/\∃e,ZbI q=Jg (⟨0,0,[]⟩,e))
theorem inF {q:Int} {f:Zd} (g:GF q f) (h1:ZdJ 100 q=Jg (f.Prime,f.Degree):=by kernel_rfl) (a:Zo4 100 q=Jg f:=by kernel_rfl) (e:ZlJ 100 q=Jg (f,0):=by kernel_rfl) (h:ZtO 100 f=Jg Ji:=by kernel_rfl) (i:Zpg 100 f=Jg Ji:=by kernel_rfl) (j:Zpn 100 f=Jg q:=by kernel_rfl) (k:ZrS 100 f=Jg q:=by kernel_rfl):FldAt q:=.inl ⟨f,g,Zi9 _ _ h1,ZKj _ _ a,Ztg _ _ e,ZFI _ _ h,ZPc _ _ i,ZI3 _ _ j,ZG8 _ _ k⟩
theorem noF {q:Int} (h1:ZdJ 100 q=Jg (0,0):=by kernel_rfl) (a:ZlJ 100 q=Jg (⟨0,0,[]⟩,2):=by kernel_rfl):FldAt q:=.inr ⟨Zi9 _ _ h1,_,Ztg _ _ a⟩
theorem ZH3 {ρ:Type} {B:Int->Jm (Int ⊕ ρ)} {i n:Int} (hi:i<=n) (h:∀k,i<=k->k<n->(∃r,B k=Jg (.inr r))\/B k=Jg (.inl (k+1))) (u:∃r,B n=Jg (.inr r)):∃r,loop B i=Jg r:=by
 have j:∀(d:Nat) (k:Int),k+d=n->i<=k->∃r,loop B k=Jg r:=by
  intro d;induction d with
  | zero=>intro k o _;obtain rfl:k=n:= Z;obtain ⟨r,e⟩:=u;exact ⟨r,Ze e⟩
  | succ d w=>
   intro k o l;rcases h k l Z with ⟨r,e⟩|e
   .exact ⟨r,Ze e⟩
   .rw [ZJ e];exact w (k+1) Z Z
 exact j (n-i).toNat i Z Z
theorem ZqM {l:Nat} {n:Int} (h1:1<=n) (h:pwN 2 l*n<=1000000):l<=20:=by
 by_cases j:l<=20
 .exact j
 .exfalso;have a:=ZkT (p:=2) Z (m:=20) (l-20);rw [show 20+(l-20)=l by omega] at a;have e:pwN 2 20=1048576:=by decide
  have f:pwN 2 l*1<=pwN 2 l*n:=XZ h1 Z;omega
theorem ZDF {p:Int} (hp:2<=p) (e:p<=1000):∀(d:Nat) (n:Int) (fs:Jb),n<=d->1<=n->pwN 2 (Jk fs)*n<=1000000->∃n' a3,loop (Zf3 p) (n,fs)=Jg (.inl (n',a3,p+1))/\1<=n'/\n'<=n/\pwN 2 (Jk a3)*n'<=1000000
 | 0,n,fs,h,h1,_=>by omega
 | d+1,n,fs,h,h1,f=>by
  have hl:=ZqM h1 f;have k:=Xg (b:=p) (a:=n) Z;have l:=Xp (b:=p) (a:=n) Z;have a5:=Zbm (p:=2) Z (Jk fs);by_cases hm:n%p=0
  .have w:p*(n/p)=n:=Int.mul_ediv_cancel' (Int.dvd_of_emod_eq_zero hm);have i:0<=n/p:=XI Z Z;have j:1<=n/p:=by
    grind
   have v:2*(n/p)<=p*(n/p):=XJ hp i;have a7:pwN 2 (fs++[p]).length*(n/p)<=1000000:=by
    rw [Jo];show pwN 2 (Jk fs)*2*(n/p)<=_;rw [Int.mul_assoc];have:pwN 2 (Jk fs)*(2*(n/p))<=pwN 2 (Jk fs)*n:=XZ Z Z;omega
   have o:n<=1000000:=by
    have:=XJ (a:=1) (b:=pwN 2 (Jk fs)) (c:=n) a5 Z;omega
   obtain ⟨n',a3,r,s,x,u⟩:=ZDF hp e d (n/p) (fs++[p]) Z j a7;refine ⟨n',a3,?_,s,by omega,u⟩;rw [<-r];refine ZJ ?_;have hz:n.tmod p=0:=by rw [k];exact hm
   simp (disch:=omega) only [pz,Zf3,hz,l,gApp1]
  .have o:n<=1000000:=by
    have:=XJ (a:=1) (b:=pwN 2 (Jk fs)) (c:=n) a5 Z;omega
   refine ⟨n,fs,Ze ?_,h1,by omega,f⟩;grind [pz,Zf3]
theorem ZE7:∀(d:Nat) (n:Int) (w:Jb) (p:Int),1001-p<=d->2<=p->p<=1001->1<=n->n<=1000000->pwN 2 (Jk w)*n<=1000000->∃r:Jb,loop Zcg (n,w,p)=Jg r/\(Jk r)<=21:=by
 intro d;induction d with
 | zero=>
  intro n w p i hp a h1 j e;have hl:=ZqM h1 e;obtain rfl:p=1001:=Z;by_cases h:1<n
  .grind [Ze,pz,Zcg,gApp1]
  .grind [Ze,pz,Zcg]
 | succ d ih=>
  intro n w p i hp a h1 j e;have hl:=ZqM h1 e;have a5:0<=p*p/\p*p<=1002001:=by
   refine ⟨J8 Z Z,?_⟩;have:=J0 a a Z Z;omega
  by_cases s:p*p<=n
  .have f:p<=1000:=by
    grind
   obtain ⟨n',x,u,k,v,l⟩:=ZDF hp f n.toNat n w Z h1 e;obtain ⟨r,hr,o⟩:=ih n' x (p+1) Z Z Z k Z l;grind [ZJ,pz,Zcg]
  .by_cases h:1<n
   .refine ⟨w++[n],Ze ?_,by simp;omega⟩;grind [pz,Zcg,gApp1]
   .grind [Ze,pz,Zcg]
theorem ZJ9 (n:Int):∃r:Jb,Zdi n=Jg r/\(Jk r)<=21:=by
 unfold Zdi ZV;by_cases h1:1<=n
 .by_cases a:n<=1000000
  .obtain ⟨r,h,e⟩:=ZE7 1001 n [] 2 Z Z Z h1 a (by show 1*n<=_;omega);grind
  .simp_all [pz]
 .simp_all [pz]
theorem ZM2 (n:Int):∃r:Int×Int,Zdc n=Jg r:=by
 unfold Zdc;obtain ⟨l,e,a⟩:=ZJ9 n;rw [e];show ∃r,loop (Zcd l) 0=Jg r;refine ZH3 (n:=l.length) Z ?_ ?_
 .intro k k0 k1;by_cases h:ix l k=ix l 0
  .grind [pz,Zcd]
  .grind [pz,Zcd]
 .by_cases h:Jk l=0
  .simp_all [pz,Zcd]
  .refine ⟨(ix l 0,Jk l),?_⟩;grind [pz,Zcd,Z1]
theorem Zky (q:Int):FldAt q:=by
 by_cases h:2<=q/\q<=64
 .obtain ⟨h1,a⟩:=h;obtain ⟨n,rfl⟩:∃n:Nat,q=(n:Int):=⟨q.toNat,by omega⟩
  have f:n<65:=Z;have e:2<=n:=Z;clear h1 a
  revert n
  have j:∀n:Nat,n<65->2<=n->FldAt (n:Int):=by
   intro n h1 a
   match n,h1,a with
   | 0,_,h=>omega
   | 1,_,h=>omega
   | 2,_,_=>exact inF .f2
   | 3,_,_=>exact inF .f3
   | 4,_,_=>exact inF .f4
   | 5,_,_=>exact inF .f5
   | 6,_,_|10,_,_|12,_,_|14,_,_|15,_,_|18,_,_|20,_,_|21,_,_|22,_,_|24,_,_|26,_,_|28,_,_|30,_,_|33,_,_|34,_,_|35,_,_|36,_,_|38,_,_|39,_,_|40,_,_|42,_,_|44,_,_|45,_,_|46,_,_|48,_,_|50,_,_|51,_,_|52,_,_|54,_,_|55,_,_|56,_,_|57,_,_|58,_,_|60,_,_|62,_,_|63,_,_=>exact noF
   | 7,_,_=>exact inF .f7
   | 8,_,_=>exact inF .f8
   | 9,_,_=>exact inF .f9
   | 11,_,_=>exact inF .f11
   | 13,_,_=>exact inF .f13
   | 16,_,_=>exact inF .f16
   | 17,_,_=>exact inF .f17
   | 19,_,_=>exact inF .f19
   | 23,_,_=>exact inF .f23
   | 25,_,_=>exact inF .f25
   | 27,_,_=>exact inF .f27
   | 29,_,_=>exact inF .f29
   | 31,_,_=>exact inF .f31
   | 32,_,_=>exact inF .f32
   | 37,_,_=>exact inF .f37
   | 41,_,_=>exact inF .f41
   | 43,_,_=>exact inF .f43
   | 47,_,_=>exact inF .f47
   | 49,_,_=>exact inF .f49
   | 53,_,_=>exact inF .f53
   | 59,_,_=>exact inF .f59
   | 61,_,_=>exact inF .f61
   | 64,_,_=>exact inF .f64
   | n+65,h,_=>omega
  exact j
 .refine .inr ⟨?_,?_⟩
  .grind [Zct,Zac]
  .obtain ⟨r,k⟩:=ZM2 q;by_cases h1:64<q
   .simp_all [ZbI]
   .have hz:Zdc q=Jg (0,0):=by
     by_cases a:1<=q
     .obtain rfl:q=1:=Z;have:ZbI 1=Jg (⟨0,0,[]⟩,2):=Ztg (F:=100) _ _ κ;exact Zx7 (F:=100) _ _ κ
     .grind [Zdc,Zdi,ZV,loop,Zcd,Ze,pz]
    refine ⟨2,?_⟩;grind [ZbI]
def Tb (q:Int) (g:Int->Int) (b:Int):Jb:=tabl q λj=>if j<b then g j else 0
theorem Zqt {q b:Int} {g:Int->Int} (a:0<=b) (h1:b<q):(Tb q g b).set b.toNat (g b)=Tb q g (b+1):=by
 apply Zak a h1
 .omega
 .omega
theorem ZLb {q:Int} {g:Int->Int}:Tb q g 0=Jn q.toNat 0:=by
 rw [Ze3];rfl
theorem ZJ1 {q:Int} {g:Int->Int}:Tb q g q=tabl q g:=ZX λj e a=>by rw [if_pos a]
theorem ZkG {q b:Int} {g:Int->Int}:(Tb q g b).length=q.toNat:=Zy
def iv (q:Int) (e:Jb) (a b:Int):Jb:=tabl q λi=>if 1<=i/\(i<a\/(i=a/\ix e a<b)) then ix e i else 0
def tabs (f:Zd) (q:Int) (e:Jb):Z7:=
 ⟨q,tabl q λa=>tabl q λb=>sumA f a b 1,tabl q λa=>tabl q λb=>sumA f a b (f.Prime-1),tabl q λa=>tabl q λb=>mulA f a b,tabl q λi=>if 1<=i then ix e i else 0⟩
theorem ZNk {q a b:Int} {e:Jb}:(iv q e a b).length=q.toNat:=Zy
theorem ZLo {f:Zd} {q:Int} {a3:Jb} (hF:Ff f q a3) {a:Int} (a0:0<=a) (a1:a<q) {A S M:Ja} (hA:(Jk A:Int)=a) (hS:(Jk S:Int)=a) (hM:(Jk M:Int)=a):
  loop (Zfc f q a A S M) (0,iv q a3 a 0,Jn q.toNat 0,Jn q.toNat 0,Jn q.toNat 0)=Jg (.inl (a+1,A++[tabl q λb=>sumA f a b 1],S++[tabl q λb=>sumA f a b (f.Prime-1)],M++[tabl q λb=>mulA f a b],iv q a3 (a+1) 0)):=by
 have a7:=hF.q2;have y:=hF.q64;have a6:=Zj (B:=Zfc f q a A S M) (λb=>(b,iv q a3 a b,Tb q (λb=>sumA f a b 1) b,Tb q (λb=>sumA f a b (f.Prime-1)) b,Tb q (λb=>mulA f a b) b)) (i:=0) (n:=q) Z λb e k=>by
  have c1:=ZCu hF.fd (a:=a) (b:=b) (c:=1) (s:=1) a0 Z e Z (.inl ⟨rfl,rfl⟩);have c2:=ZCu hF.fd (a:=a) (b:=b) (c:=f.Prime-1) (s:=-1) a0 Z e Z (.inr ⟨rfl,rfl⟩);have o:=ZHt hF.fd (a:=a) (b:=b) a0 Z e Z;have s1:=Zqt (q:=q) (b:=b) (g:=λb=>sumA f a b 1) e k;have s2:=Zqt (q:=q) (b:=b) (g:=λb=>sumA f a b (f.Prime-1)) e k;have r:=Zqt (q:=q) (b:=b) (g:=λb=>mulA f a b) e k;have l1:(Tb q (λb=>sumA f a b 1) b).length=q.toNat:=ZkG;have l2:(Tb q (λb=>sumA f a b (f.Prime-1)) b).length=q.toNat:=ZkG;have u:(Tb q (λb=>mulA f a b) b).length=q.toNat:=ZkG;have v:(Tb q (λb=>mulA f a b) (b+1)).length=q.toNat:=ZkG;have w:(iv q a3 a b).length=q.toNat:=ZNk;have x:ix (Tb q (λb=>mulA f a b) (b+1)) b=mulA f a b:=by
   unfold Tb;rw [ZL e k,if_pos Z]
  have hI:=hF.inv2 a b a0 a1 e k;by_cases hm:mulA f a b=1
  .have hb:=hI.1 hm;have a2:1<=a:=by
    by_cases h:a=0
    .subst h;rw [hF.z1 b e k] at hm;omega
    .omega
   have l:(iv q a3 a b).set a.toNat b=iv q a3 a (b+1):=by
    apply Zak a0 a1
    .omega
    .omega
   simp (disch:=omega) only [pz,Zfc,c1,c2,o,l1,l2,u,v,w,s1,s2,r,x,l]
  .have hb:¬b=ix a3 a:=λh=>hm (hI.2 h);have l:iv q a3 a b=iv q a3 a (b+1):=by
    refine ZX λj j0 j1=>?_;omega
   rw [l];simp (disch:=omega) only [pz,Zfc,c1,c2,o,l1,l2,u,v,w,s1,s2,r,x]
 have e0:((0:Int),iv q a3 a 0,Jn q.toNat (0:Int),Jn q.toNat (0:Int),Jn q.toNat (0:Int))=(λb=>(b,iv q a3 a b,Tb q (λb=>sumA f a b 1) b,Tb q (λb=>sumA f a b (f.Prime-1)) b,Tb q (λb=>mulA f a b) b)) 0:=by
  grind [iv,Tb,ZLb]
 rw [e0,a6];refine Ze ?_;have l:iv q a3 a q=iv q a3 (a+1) 0:=by
  refine ZX λj j0 j1=>?_;by_cases hj:1<=j/\j<a+1
  .by_cases h:j=a
   .have:=hF.inv1 a Z a1;omega
   .omega
  .by_cases h:j=a+1
   .by_cases h':a+1<q
    .have:=hF.inv1 (a+1) Z h';omega
    .omega
   .omega
 simp only [ZJ1,l];simp (disch:=omega) only [pz,Zfc,Zp2,gApp1]
theorem ZAg {f:Zd} {q:Int} {u:Jb} (w:Ff f q u) (hs:Zbf f=Jg q):Zjn f=Jg (tabs f q u):=by
 have r:=w.q2;have e:=w.q64;unfold Zjn;rw [show Zd.mk f.Prime f.Degree f.Poly=f from rfl,hs];simp (disch:=omega) only [pz,Zaq];have ei:Jn q.toNat (0:Int)=iv q u 0 0:=by
  rw [Ze3];exact ZX λj h k=>by
   omega
 have x:=Zj (B:=Zjp f q) (λa=>(a,tabl a λa=>tabl q λb=>sumA f a b 1,tabl a λa=>tabl q λb=>sumA f a b (f.Prime-1),tabl a λa=>tabl q λb=>mulA f a b,iv q u a 0)) (i:=0) (n:=q) Z λa a0 a1=>by
  have:=ZLo w a0 a1 (A:=tabl a λa=>tabl q λb=>sumA f a b 1) (S:=tabl a λa=>tabl q λb=>sumA f a b (f.Prime-1)) (M:=tabl a λa=>tabl q λb=>mulA f a b) (by rw [Zy];omega) (by rw [Zy];omega) (by rw [Zy];omega);grind [pz,Zjp,Zaq,Z5]
 have l:((0:Int),([]:Ja),([]:Ja),([]:Ja),Jn q.toNat (0:Int))=(λa=>(a,tabl a λa=>tabl q λb=>sumA f a b 1,tabl a λa=>tabl q λb=>sumA f a b (f.Prime-1),tabl a λa=>tabl q λb=>mulA f a b,iv q u a 0)) 0:=by
  rw [ei];rfl
 rw [l,x];refine Ze ?_;have o:iv q u q 0=tabl q λi=>if 1<=i then ix u i else 0:=by
  refine ZX λj h k=>?_;omega
 simp (disch:=omega) only [pz,Zjp,o];rfl
structure Mat (q w:Int) (xs:Ja):Prop where
 len:∀i,0<=i->i<(Jk xs:Int)->((ix xs i).length:Int)=w
 rng:∀i,0<=i->i<(Jk xs:Int)->In q (ix xs i)
 n:(Jk xs:Int)<=64
 w1:w<=64
def scl (f:Zd) (row:Jb) (c:Int):Jb:=tabl (Jk row) λt=>mulA f (ix row t) c
def less (f:Zd) (v w:Jb) (c:Int):Jb:=tabl (Jk v) λt=>sumA f (ix v t) (mulA f (ix w t) c) (f.Prime-1)
def elim (f:Zd) (c r:Int) (row:Jb) (e:Ja):Ja:=tabl (Jk e) λj=>if j=r then row else less f (ix e j) row (ix (ix e j) c)
abbrev elT (f:Zd) (c k:Int) (row:Jb) (ys:Ja) (j:Int):Ja:=tabl (Jk ys) λt=>if t<j then (if t=k then row else less f (ix ys t) row (ix (ix ys t) c)) else ix ys t
theorem ZFK {f:Zd} {q:Int} {u:Jb} (w:Ff f q u) {e:Int} (h:1<=e) (h1:e<q):Zk3 f e=Jg (ix u e):=by
 have j:=w.q64;obtain ⟨k,l⟩:=w.inv1 e h h1;unfold Zk3;have x:=Zj (B:=Zl9 f e) (λb=>b) (i:=1) (n:=ix u e) Z λb o r=>by
  have hM:=Zil w.fd (a:=e) (b:=b) Z Z Z Z;have hI:=w.inv2 e b Z h1 Z Z;grind [mulA,pz,Zl9]
 rw [x];refine Ze ?_;have hM:=Zil w.fd (a:=e) (b:=ix u e) Z Z Z Z;have hI:=(w.inv2 e (ix u e) Z h1 Z Z).2 rfl;grind [pz,Zl9]
theorem Zt6 {f:Zd} {q:Int} {x:Jb} (w:Ff f q x) {row:Jb} {c:Int} (hr:In q row) (hl:(Jk row:Int)<=64) (k:0<=c) (c1:c<q):Zjt f row c=Jg (scl f row c):=by
 have l:=w.q64;unfold Zjt;have u:=Zj (B:=ZmK f row c) (λt=>(tabl t λt=>mulA f (ix row t) c,t)) (i:=0) (n:=row.length) Z λt e h=>by
  obtain ⟨o,r⟩:=hr t e h;have hM:=Zil w.fd (a:=ix row t) (b:=c) Z Z Z Z;have hl:(tabl t λt=>mulA f (ix row t) c).length=t.toNat:=Zy;grind [pz,ZmK,gApp1,Z5]
 have j:(([]:Jb),(0:Int))=(λt=>(tabl t λt=>mulA f (ix row t) c,t)) 0:=rfl;rw [j,u];refine Ze ?_;simp (disch:=omega) only [pz,ZmK];rfl
theorem ZAR {f:Zd} {q:Int} {a4:Jb} (hF:Ff f q a4) {v w:Jb} {c:Int} (h:In q v) (hw:In q w) (hl:(Jk v:Int)<=64) (he:Jk w=Jk v) (o:0<=c) (c1:c<q):Zio f v w c=Jg (less f v w c):=by
 have r:=hF.q64;have hp:=hF.fd.p2;have j:=hF.fd.p64;unfold Zio;have a3:=Zj (B:=Zm3 f v w c) (λt=>(tabl t λt=>sumA f (ix v t) (mulA f (ix w t) c) (f.Prime-1),t)) (i:=0) (n:=v.length) Z λt e k=>by
  obtain ⟨s,u⟩:=h t e k;obtain ⟨x,y⟩:=hw t e Z;have hM:=Zil hF.fd (a:=ix w t) (b:=c) Z Z Z Z;obtain ⟨g5,g6⟩:=Zb2 hF.fd hF.pw (ix w t) c;have hS:=ZrV hF.fd (a:=ix v t) (b:=mulA f (ix w t) c) (c:=f.Prime-1) Z Z Z Z Z Z;have hl:(tabl t λt=>sumA f (ix v t) (mulA f (ix w t) c) (f.Prime-1)).length=t.toNat:=Zy;grind [pz,Zm3,gApp1,Z5]
 have l:(([]:Jb),(0:Int))=(λt=>(tabl t λt=>sumA f (ix v t) (mulA f (ix w t) c) (f.Prime-1),t)) 0:=rfl;rw [l,a3];refine Ze ?_;simp (disch:=omega) only [pz,Zm3];rfl
theorem Zjj {f:Zd} {row:Jb} {c:Int}:(scl f row c).length=Jk row:=by unfold scl;rw [Zy];omega
theorem Zsx {f:Zd} {v w:Jb} {c:Int}:(less f v w c).length=Jk v:=by unfold less;rw [Zy];omega
theorem ZnM {f:Zd} {q:Int} {e:Jb} (h:Ff f q e) {row:Jb} {c:Int}:In q (scl f row c):=λi a h1=>by
 rw [Zjj] at h1;unfold scl;rw [ZL a h1];exact Zb2 h.fd h.pw _ _
theorem Zy9 {f:Zd} {q:Int} {e:Jb} (h:Ff f q e) {v w:Jb} {c:Int}:In q (less f v w c):=λi a h1=>by
 rw [Zsx] at h1;unfold less;rw [ZL a h1];exact ZiF h.fd h.pw _ _ _
theorem ZfK {f:Zd} {c r:Int} {row:Jb} {e:Ja}:(elim f c r row e).length=Jk e:=by unfold elim;rw [Zy];omega
theorem Mat.elim {f:Zd} {q w:Int} {h:Jb} (k:Ff f q h) {c r:Int} {row:Jb} {j:Ja} (e:Mat q w j) (l:In q row) (o:(Jk row:Int)=w):Mat q w (elim f c r row j):=by
 refine ⟨λi a h1=>?_,λi a h1=>?_,by rw [ZfK];exact e.n,e.w1⟩
 .rw [ZfK] at h1;unfold Proofs.YtcneolcmjjlmnaaGreatDoor.elim;rw [ZL a h1];split
  .exact o
  .rw [Zsx];exact e.len i a h1
 .rw [ZfK] at h1;unfold Proofs.YtcneolcmjjlmnaaGreatDoor.elim;rw [ZL a h1];split
  .exact l
  .exact Zy9 k
theorem Mat.set {q w:Int} {xs:Ja} {i:Int} {row:Jb} (h:Mat q w xs) (k:0<=i) (l:In q row) (o:(Jk row:Int)=w):Mat q w (xs.set i.toNat row):=by
 refine ⟨λj a f=>?_,λj a f=>?_,by rw [JC];exact h.n,h.w1⟩<;>rw [JC] at f
 .by_cases e:i=j
  .grind [ZaY]
  .rw [ZbQ k a e];exact h.len j a f
 .by_cases e:i=j
  .grind [ZaY]
  .rw [ZbQ k a e];exact h.rng j a f
theorem ZFN {f:Zd} {q w:Int} {a7:Jb} (hF:Ff f q a7) {piv:Jb} {c i:Int} {xs:Ja} (a:Mat q w xs) (k:0<=c) (a3:c<w) (a4:(Jk piv:Int)<=i) (l:i<Jk xs) (hp:¬ix (ix xs i) c=0):
  ZaG f piv c xs i=Jg (.inl (piv++[c],c+1,elim f c (Jk piv) (scl f (ix xs i) (ix a7 (ix (ix xs i) c))) ((xs.set i.toNat (ix xs (Jk piv))).set (Jk piv) (scl f (ix xs i) (ix a7 (ix (ix xs i) c)))))):=by
 have hq:=hF.q64;have hn:=a.n;have hw:=a.w1;have ai:=a.len i Z l;have aa:=a.rng i Z l;obtain ⟨s,h⟩:=aa c k Z;obtain ⟨v0,v1⟩:=hF.inv1 (ix (ix xs i) c) Z h;have hI:=ZFK hF (e:=ix (ix xs i) c) Z h;have hS:=Zt6 hF (row:=ix xs i) (c:=ix a7 (ix (ix xs i) c)) aa Z Z v1;have ao:(xs.set i.toNat (ix xs (Jk piv))).length=Jk xs:=JC;simp (disch:=omega) only [pz,ZaG,hI,hS];generalize a9:scl f (ix xs i) (ix a7 (ix (ix xs i) c))=row;have ag:(Jk row:Int)=w:=by rw [<-a9,Zjj];exact ai
 have ab:In q row:=by rw [<-a9];exact ZnM hF
 have hy:Mat q w ((xs.set i.toNat (ix xs (Jk piv))).set (Jk piv) row):=(a.set Z (a.rng _ Z Z) (a.len _ Z Z)).set (i:=(Jk piv:Int)) Z ab ag;have af:ix ((xs.set i.toNat (ix xs (Jk piv))).set (Jk piv) row) (Jk piv:Int)=row:=ZaY (i:=(Jk piv:Int)) Z (by rw [JC];omega);have ah:((xs.set i.toNat (ix xs (Jk piv))).set (Jk piv) row).length=Jk xs:=by rw [JC,JC]
 generalize ((xs.set i.toNat (ix xs (Jk piv))).set (Jk piv) row)=ys at hy af ah ⊢;have ae:=Zj (B:=ZgU f piv c row) (λj=>(j,elT f c (Jk piv) row ys j)) (i:=0) (n:=ys.length) Z λj o r=>by
  have a5:(elT f c (Jk piv) row ys j).length=Jk ys:=by rw [Zy];omega
  have a6:ix (elT f c (Jk piv) row ys j) j=ix ys j:=by rw [ZL o r,if_neg Z]
  by_cases hj:j=Jk piv
  .have hs:(elT f c (Jk piv) row ys j)=elT f c (Jk piv) row ys (j+1):=by
    grind
   grind [tabl,less,ix,Zy,pz,ZgU]
  .have am:=hy.len j o r;have ac:=hy.rng j o r;obtain ⟨x,y⟩:=ac c k Z;have hL:=ZAR hF (v:=ix ys j) (w:=row) (c:=ix (ix ys j) c) ac ab Z Z x y;have hs:(elT f c (Jk piv) row ys j).set j.toNat (less f (ix ys j) row (ix (ix ys j) c))=elT f c (Jk piv) row ys (j+1):=by
    grind [Zak]
   grind [pz,ZgU]
 have s:((0:Int),ys)=(λj=>(j,elT f c (Jk piv) row ys j)) 0:=by
  show _=((0:Int),_);congr 1;refine (Zbg ys).symm.trans (ZX λt t0 u=>?_);grind
 rw [s,ae];refine Ze ?_;have h:(elT f c (Jk piv) row ys (Jk ys:Int))=elim f c (Jk piv) row ys:=ZX λt t0 u=>by rw [if_pos u]
 simp (disch:=omega) only [pz,ZgU,h,ZfK,gApp1]
theorem Zax {α:Type} [Inhabited α] {n:Int} {f:Int->α} {i:Int} (a:0<=i) (h1:i<n):gIdx (tabl n f) i=Jg (f i):=by
 grind [ZaO,Zy,ZL]
theorem ZBA {f:Zd} {q:Int} {e:Jb}:(tabs f q e).qadd=tabl q λa=>tabl q λb=>sumA f a b 1:=rfl
theorem Zvj {f:Zd} {q:Int} {e:Jb}:(tabs f q e).qsub=tabl q λa=>tabl q λb=>sumA f a b (f.Prime-1):=rfl
theorem ZjR {f:Zd} {q:Int} {e:Jb}:(tabs f q e).qmul=tabl q λa=>tabl q λb=>mulA f a b:=rfl
theorem ZIM {f:Zd} {q:Int} {e:Jb}:(tabs f q e).qinv=tabl q λi=>if 1<=i then ix e i else 0:=rfl
theorem ZFb {f:Zd} {q:Int} {k:Jb} (j:Ff f q k) {v w c:Int} (v0:0<=v) (v1:v<q) (w0:0<=w) (w1:w<q) (a:0<=c) (c1:c<q):sumA f v (mulA f (sumA f 0 c (f.Prime-1)) w) 1=sumA f v (mulA f w c) (f.Prime-1):=by
 obtain ⟨e,h⟩:=Zb2 j.fd j.pw w c;rw [j.neg c w a c1 w0 w1,j.comm c w a c1 w0 w1,j.sub v _ v0 v1 e h]
theorem ZNY {f:Zd} {q:Int} {a2:Jb} (hF:Ff f q a2) {v w:Jb} {c:Int} (r:In q v) (hw:In q w) (hl:(Jk v:Int)<=64) (he:Jk w=Jk v) (s:0<=c) (c1:c<q):
  Zc7 (tabs f q a2) v w (sumA f 0 c (f.Prime-1))=Jg (less f v w c):=by
 have hq:=hF.q64;obtain ⟨n0,n1⟩:=ZiF hF.fd hF.pw 0 c (f.Prime-1);unfold Zc7;have a4:=Zj (B:=ZcQ (tabs f q a2) w (sumA f 0 c (f.Prime-1))) (λt=>(t,tabl (Jk v) λu=>if u<t then sumA f (ix v u) (mulA f (ix w u) c) (f.Prime-1) else ix v u)) (i:=0) (n:=v.length) Z λt a e=>by
  obtain ⟨j,k⟩:=r t a e;obtain ⟨l,o⟩:=hw t a Z;have a7:(tabl (Jk v) λu=>if u<t then sumA f (ix v u) (mulA f (ix w u) c) (f.Prime-1) else ix v u).length=Jk v:=by rw [Zy];omega
  have h:ix (tabl (Jk v) λu=>if u<t then sumA f (ix v u) (mulA f (ix w u) c) (f.Prime-1) else ix v u) t=ix v t:=by rw [ZL a e,if_neg Z]
  obtain ⟨x,y⟩:=Zb2 hF.fd hF.pw (sumA f 0 c (f.Prime-1)) (ix w t);have hs:(tabl (Jk v) λu=>if u<t then sumA f (ix v u) (mulA f (ix w u) c) (f.Prime-1) else ix v u).set t.toNat (sumA f (ix v t) (mulA f (sumA f 0 c (f.Prime-1)) (ix w t)) 1)=tabl (Jk v) λu=>if u<t+1 then sumA f (ix v u) (mulA f (ix w u) c) (f.Prime-1) else ix v u:=by
   apply Zak a e
   .omega
   .rw [if_pos Z,ZFb hF j k l o s c1]
  have i1:gIdx (tabl (Jk v) λu=>if u<t then sumA f (ix v u) (mulA f (ix w u) c) (f.Prime-1) else ix v u) t=Jg (ix v t):=by rw [ZaO a Z,h]
  have i2:gIdx (tabs f q a2).qadd (ix v t)=Jg (tabl q λb=>sumA f (ix v t) b 1):=by rw [ZBA,Zax j k]
  have i3:gIdx (tabs f q a2).qmul (sumA f 0 c (f.Prime-1))=Jg (tabl q λb=>mulA f (sumA f 0 c (f.Prime-1)) b):=by rw [ZjR,Zax n0 n1]
  have i4:gIdx (tabl q λb=>mulA f (sumA f 0 c (f.Prime-1)) b) (ix w t)=Jg (mulA f (sumA f 0 c (f.Prime-1)) (ix w t)):=Zax l o;have i5:gIdx (tabl q λb=>sumA f (ix v t) b 1) (mulA f (sumA f 0 c (f.Prime-1)) (ix w t))=Jg (sumA f (ix v t) (mulA f (sumA f 0 c (f.Prime-1)) (ix w t)) 1):=Zax x y;simp (disch:=omega) only [pz,ZcQ,h,i2,i3,i4,i5,hs]
 have e0:((0:Int),v)=(λt=>(t,tabl (Jk v) λu=>if u<t then sumA f (ix v u) (mulA f (ix w u) c) (f.Prime-1) else ix v u)) 0:=by
  simp_all [Zbg,ZX,if_neg]
 rw [e0,a4];refine Ze ?_;have e1:(tabl (Jk v) λu=>if u<(Jk v:Int) then sumA f (ix v u) (mulA f (ix w u) c) (f.Prime-1) else ix v u)=less f v w c:=ZX λt a e=>by rw [if_pos e]
 simp (disch:=omega) only [pz,ZcQ,e1]
theorem ZFp {f:Zd} {q:Int} {x:Jb} (u:Ff f q x) {v w:Jb} (i:In q v) (hw:In q w) (he:Jk w=Jk v):less f v w 0=v:=by
 refine Eq.trans (ZX λt a j=>?_) (Zbg v);obtain ⟨k,l⟩:=i t a j;obtain ⟨e,h⟩:=hw t a Z;have o:=u.q2;rw [u.comm _ 0 e h Z Z,u.z1 _ e h,u.z2 _ k l]
theorem ZOu {f:Zd} {q w:Int} {a3:Jb} (hF:Ff f q a3) {piv:Jb} {c d:Int} {row:Jb} {ys:Ja} (hy:Mat q w ys) (l:0<=c) (a5:c<w) (hr:(Jk piv:Int)<Jk ys) (ak:(Jk row:Int)=w) (aa:In q row) (al:ix ys (Jk piv)=row):
  loop (Zdd (tabs f q a3) piv c d ys) (0,ys)=Jg (if (Jk piv:Int)+1=Jk ys then .inr (.inr ((elim f c (Jk piv) row ys).take (Jk piv+1),piv++[c],d)) else .inr (.inl (piv++[c],d,c+1,elim f c (Jk piv) row ys))):=by
 have hn:=hy.n;have hw:=hy.w1;have hq:=hF.q64;have a6:=hF.q2;have ab:=Zj (B:=Zdd (tabs f q a3) piv c d ys) (λj=>(j,elT f c (Jk piv) row ys j)) (i:=0) (n:=ys.length) Z λj a k=>by
  have a7:(elT f c (Jk piv) row ys j).length=Jk ys:=by rw [Zy];omega
  have e:ix (elT f c (Jk piv) row ys j) j=ix ys j:=by rw [ZL a k,if_neg Z]
  have i1:gIdx (elT f c (Jk piv) row ys j) j=Jg (ix ys j):=by rw [ZaO a Z,e]
  by_cases hj:j=Jk piv
  .have hs:(elT f c (Jk piv) row ys j)=elT f c (Jk piv) row ys (j+1):=by
    grind
   grind [pz,Zdd,Zga]
  .have ao:=hy.len j a k;have a4:=hy.rng j a k;obtain ⟨o,r⟩:=a4 c l Z;by_cases hz:ix (ix ys j) c=0
   .have hs:(elT f c (Jk piv) row ys j)=elT f c (Jk piv) row ys (j+1):=by
     refine ZX λt x s=>?_;by_cases h:t<j
     .grind
     .by_cases h':t=j
      .rw [if_neg h,if_pos (show t<j+1 by omega),if_neg Z,h',hz,ZFp hF a4 aa Z]
      .grind
    grind [pz,Zdd,Zga]
   .have hL:=ZNY hF (v:=ix ys j) (w:=row) (c:=ix (ix ys j) c) a4 aa Z Z o r;have hs:(elT f c (Jk piv) row ys j).set j.toNat (less f (ix ys j) row (ix (ix ys j) c))=elT f c (Jk piv) row ys (j+1):=by
     grind [Zak]
    have u:ix (elT f c (Jk piv) row ys j) (Jk piv:Int)=row:=by
     grind [ZL]
    have y:gIdx (tabs f q a3).qsub 0=Jg (tabl q λb=>sumA f 0 b (f.Prime-1)):=by rw [Zvj,Zax Z Z]
    have i4:gIdx (tabl q λb=>sumA f 0 b (f.Prime-1)) (ix (ix ys j) c)=Jg (sumA f 0 (ix (ix ys j) c) (f.Prime-1)):=Zax o r;have i5:gNe j (Jk piv:Int)=Jg ():=by unfold gNe;rw [if_pos hj]
    have he:Z7.mk (tabs f q a3).qq (tabs f q a3).qadd (tabs f q a3).qsub (tabs f q a3).qmul (tabs f q a3).qinv=tabs f q a3:=rfl;simp (disch:=omega) only [pz,Zdd,Zga,e,u,y,i4,i5,he,hL,hs]
 have e0:((0:Int),ys)=(λj=>(j,elT f c (Jk piv) row ys j)) 0:=by
  simp_all [Zbg,ZX,if_neg]
 rw [e0,ab];refine Ze ?_;have e1:(elT f c (Jk piv) row ys (Jk ys:Int))=elim f c (Jk piv) row ys:=ZX λt x s=>by rw [if_pos s]
 have aj:(elim f c (Jk piv) row ys).length=Jk ys:=ZfK;have am:(piv++[c]).length=Jk piv+1:=by simp
 simp only [e1];by_cases h:(Jk piv:Int)+1=Jk ys
 .rw [if_pos h];have g:gSl (elim f c (Jk piv) row ys) 0 ((piv++[c]).length:Int)=Jg ((elim f c (Jk piv) row ys).take (Jk piv+1)):=by
   grind [Zba]
  simp (disch:=omega) only [pz,Zdd,gApp1,ZeT,g]
 .rw [if_neg h];simp (disch:=omega) only [pz,Zdd,gApp1,Zja]
theorem ZC5 {α:Type} [Inhabited α] {xs:List α} {k:Nat}:xs.set k (ix xs (k:Int))=xs:=by
 apply ZaP
 .simp
 .intro i a e;rw [JC] at e;by_cases h:(k:Int)=i
  .subst h;exact ZaY (i:=(k:Int)) a e
  .exact ZbQ (i:=(k:Int)) Z a h
theorem Zxc {f:Zd} {q w:Int} {a3:Jb} (hF:Ff f q a3) {piv:Jb} {c d:Int} {xs:Ja} (j:Mat q w xs) (r:0<=c) (v:c<w) (hr:(Jk piv:Int)<Jk xs) (hp:¬ix (ix xs (Jk piv)) c=0) (d0:0<=d) (d1:d<q):
  ZgZ (tabs f q a3) piv c d xs=Jg (if (Jk piv:Int)+1=Jk xs
   then .inr ((elim f c (Jk piv) (scl f (ix xs (Jk piv)) (ix a3 (ix (ix xs (Jk piv)) c))) (xs.set (Jk piv) (scl f (ix xs (Jk piv)) (ix a3 (ix (ix xs (Jk piv)) c))))).take (Jk piv+1),piv++[c],mulA f d (ix (ix xs (Jk piv)) c))
   else .inl (piv++[c],mulA f d (ix (ix xs (Jk piv)) c),c+1,elim f c (Jk piv) (scl f (ix xs (Jk piv)) (ix a3 (ix (ix xs (Jk piv)) c))) (xs.set (Jk piv) (scl f (ix xs (Jk piv)) (ix a3 (ix (ix xs (Jk piv)) c)))))):=by
 have hq:=hF.q64;have hn:=j.n;have hw:=j.w1;have aa:=j.len (Jk piv) Z hr;have a8:=j.rng (Jk piv) Z hr;obtain ⟨o,k⟩:=a8 c r Z;obtain ⟨v0,v1⟩:=hF.inv1 (ix (ix xs (Jk piv)) c) Z k;have i1:gIdx (tabs f q a3).qmul d=Jg (tabl q λb=>mulA f d b):=by rw [ZjR,Zax d0 d1]
 have i2:gIdx (tabl q λb=>mulA f d b) (ix (ix xs (Jk piv)) c)=Jg (mulA f d (ix (ix xs (Jk piv)) c)):=Zax o k;simp (disch:=omega) only [pz,ZgZ,i1,i2];generalize hR:ix xs (Jk piv)=R at *;generalize hE:ix R c=e at *;have a9:=Zj (B:=Zlp (tabs f q a3) piv c e (mulA f d e) R) (λt=>(t,xs.set (Jk piv) (tabl (Jk R) λu=>if u<t then mulA f (ix R u) (ix a3 e) else ix R u))) (i:=0) (n:=R.length) Z λt l a=>by
  obtain ⟨x,y⟩:=a8 t l a;have a2:(tabl (Jk R) λu=>if u<t then mulA f (ix R u) (ix a3 e) else ix R u).length=Jk R:=by rw [Zy];omega
  have s:ix (tabl (Jk R) λu=>if u<t then mulA f (ix R u) (ix a3 e) else ix R u) t=ix R t:=by rw [ZL l a,if_neg Z]
  have hs:(tabl (Jk R) λu=>if u<t then mulA f (ix R u) (ix a3 e) else ix R u).set t.toNat (mulA f (ix a3 e) (ix R t))=tabl (Jk R) λu=>if u<t+1 then mulA f (ix R u) (ix a3 e) else ix R u:=by
   apply Zak l a
   .omega
   .rw [if_pos Z,hF.comm _ _ Z v1 x y]
  generalize (tabl (Jk R) λu=>if u<t then mulA f (ix R u) (ix a3 e) else ix R u)=A at a2 s hs ⊢;have hA:ix (xs.set (Jk piv) A) (Jk piv)=A:=ZaY (i:=(Jk piv:Int)) Z hr;have ao:(xs.set (Jk piv) A).length=Jk xs:=JC;have i3:gIdx (tabs f q a3).qinv e=Jg (ix a3 e):=by rw [ZIM,Zax o k,if_pos Z]
  have i4:gIdx (tabs f q a3).qmul (ix a3 e)=Jg (tabl q λb=>mulA f (ix a3 e) b):=by rw [ZjR,Zax Z v1]
  have i5:gIdx (tabl q λb=>mulA f (ix a3 e) b) (ix R t)=Jg (mulA f (ix a3 e) (ix R t)):=Zax x y;simp (disch:=omega) only [pz,Zlp,hA,s,i3,i4,i5,hs,YV]
 have o:((0:Int),xs)=(λt=>(t,xs.set (Jk piv) (tabl (Jk R) λu=>if u<t then mulA f (ix R u) (ix a3 e) else ix R u))) 0:=by
  show _=((0:Int),xs.set (Jk piv) _);congr 1;have:(tabl (Jk R) λu=>if u<0 then mulA f (ix R u) (ix a3 e) else ix R u)=R:=by
   refine Eq.trans (ZX λt l a=>?_) (Zbg R);omega
  grind [ZC5]
 rw [o,a9];refine Ze ?_;have k:(tabl (Jk R) λu=>if u<(Jk R:Int) then mulA f (ix R u) (ix a3 e) else ix R u)=scl f R (ix a3 e):=ZX λt l a=>by rw [if_pos a]
 simp only [k];have a5:((scl f R (ix a3 e)).length:Int)=w:=by rw [Zjj];exact aa
 have a4:In q (scl f R (ix a3 e)):=ZnM hF;generalize scl f R (ix a3 e)=row at a5 a4 ⊢;have hy:Mat q w (xs.set (Jk piv) row):=j.set (i:=(Jk piv:Int)) Z a4 a5;have ab:ix (xs.set (Jk piv) row) (Jk piv)=row:=ZaY (i:=(Jk piv:Int)) Z hr;have ac:(xs.set (Jk piv) row).length=Jk xs:=JC;have hL:=ZOu hF (d:=mulA f d e) hy r v Z a5 a4 ab;rw [ac] at hL;simp (disch:=omega) only [pz,Zlp];rw [hL];by_cases h:(Jk piv:Int)+1=Jk xs
 .rw [if_pos h,if_pos h]
 .rw [if_neg h,if_neg h]
theorem ZLq {f:Zd} {q w:Int} {piv:Jb} {c:Int} {xs:Ja} (a:Mat q w xs) (y:0<=c) (a2:c<w) (hr:(Jk piv:Int)<=Jk xs):
  ∃i:Int,(Jk piv:Int)<=i/\i<=Jk xs/\(∀j,(Jk piv:Int)<=j->j<i->ix (ix xs j) c=0)/\(i<Jk xs->¬ix (ix xs i) c=0)/\ZjL f piv c xs=ZaG f piv c xs i:=by
 have hn:=a.n;have a6:∀(d:Nat) (i:Int),i+d=Jk xs->(Jk piv:Int)<=i->(∀j,(Jk piv:Int)<=j->j<i->ix (ix xs j) c=0)->∃i':Int,(Jk piv:Int)<=i'/\i'<=Jk xs/\(∀j,(Jk piv:Int)<=j->j<i'->ix (ix xs j) c=0)/\(i'<Jk xs->¬ix (ix xs i') c=0)/\loop (ZcJ f piv c xs) i=ZaG f piv c xs i':=by
  intro d;induction d with
  | zero=>
   intro i hi a4 ha;refine ⟨i,a4,by omega,ha,λh=>by omega,?_⟩;have hB:ZcJ f piv c xs i=(ZaG f piv c xs i).map λx=>.inr x:=by
    grind [pz,ZcJ]
   cases hk:ZaG f piv c xs i with
   | none=>
    exfalso;unfold ZaG at hk;grind
   | some r=>rw [hk] at hB;exact Ze hB
  | succ d ih=>
   intro i hi a4 ha;have hl:=a.len i Z Z;by_cases h:ix (ix xs i) c=0
   .obtain ⟨i',e,k,l,o,s⟩:=ih (i+1) Z Z λj u v=>by
     grind
    refine ⟨i',e,k,l,o,?_⟩;rw [<-s];refine ZJ ?_;simp (disch:=omega) only [pz,ZcJ,h]
   .refine ⟨i,a4,by omega,ha,λ_=>h,?_⟩;have hB:ZcJ f piv c xs i=(ZaG f piv c xs i).map λx=>.inr x:=by
     grind [pz,ZcJ]
    cases hk:ZaG f piv c xs i with
    | none=>
     grind [loop,ZcJ,ZP,ZN]
    | some r=>rw [hk] at hB;exact Ze hB
 unfold ZjL;exact a6 (Jk xs-Jk piv) (Jk piv) Z Z λj u v=>by omega
theorem ZGJ {q w:Int} {piv:Jb} {c i:Int} {xs:Ja} (a:Mat q w xs) (l:0<=c) (o:c<w) (hr:(Jk piv:Int)<=Jk xs) (r:(Jk piv:Int)<=i) (s:i<=Jk xs) (hz:∀j,(Jk piv:Int)<=j->j<i->ix (ix xs j) c=0) (hp:i<Jk xs->¬ix (ix xs i) c=0):
  Zjq (xs.drop (Jk piv)) (λf=>Zgh f c)=Jg (if i<Jk xs then i-Jk piv else -1):=by
 have u:=a.n;unfold Zjq;have a5:((xs.drop (Jk piv)).length:Int)=(Jk xs:Int)-Jk piv:=by rw [List.length_drop];omega
 have x:∀k,0<=k->ix (xs.drop (Jk piv)) k=ix xs (Jk piv+k):=λk k0=>Zhh (i:=(Jk piv:Int)) Z k0;have a2:=Zj (B:=Zc8 (xs.drop (Jk piv)) (λf=>Zgh f c)) (λk=>k) (i:=0) (n:=i-Jk piv) Z λk k0 k1=>by
  have hl:=a.len (Jk piv+k) Z Z;have a3:=hz (Jk piv+k) Z Z;simp (disch:=omega) only [pz,Zc8,Zgh,x,a3]
 rw [a2];refine Ze ?_;by_cases h:i<Jk xs
 .rw [if_pos h];have hl:=a.len i Z h;have a6:=hp h;have e:(Jk piv:Int)+(i-Jk piv)=i:=Z;simp (disch:=omega) only [pz,Zc8,Zgh,x,e]
 .rw [if_neg h];simp (disch:=omega) only [pz,Zc8]
theorem ZzU {xs:Ja} {k:Nat} (h:k<=Jk xs):gSl xs 0 (k:Int)=Jg (xs.take k):=by
 grind [Zba]
theorem ZMz {f:Zd} {q w:Int} {a2:Jb} (hF:Ff f q a2):∀(n:Nat) (c:Int) (piv:Jb) (xs:Ja) (d:Int),c+n=w->0<=c->(Jk piv:Int)<Jk xs->Mat q w xs->0<=d->d<q ->
  ∃R a3 d',loop (ZdV f w) (piv,c,xs)=Jg (R,a3)/\(Jk a3)<=Jk R/\(Jk R)=Jk xs/\Mat q w R/\loop (Zce (tabs f q a2)) (piv,d,c,xs)=Jg (R.take (Jk a3),a3,d'):=by
 intro n;induction n with
 | zero=>
  intro c piv xs d hc j hp a o r;have hn:=a.n;have hw:=a.w1;have y:=a.len 0 Z Z;refine ⟨xs,piv,d,Ze ?_,by omega,rfl,a,Ze ?_⟩
  .grind [pz,ZdV]
  .grind [pz,Zce,ZeT,ZzU]
 | succ n ih=>
  intro c piv xs d hc j hp a o r;have hn:=a.n;have hw:=a.w1;have aa:=hF.q2;have y:=a.len 0 Z Z;obtain ⟨i,i0,i1,iz,ip,hs⟩:=ZLq (f:=f) (piv:=piv) a j Z Z;have hi:=ZGJ (piv:=piv) a j Z Z i0 i1 iz ip;have ah:gSl xs (Jk piv:Int) (Jk xs:Int)=Jg (xs.drop (Jk piv)):=ZiQ (lo:=(Jk piv:Int)) Z Z;have hB:ZdV f w (piv,c,xs)=ZaG f piv c xs i:=by
   rw [<-hs];simp (disch:=omega) only [pz,ZdV]
  by_cases h:i<Jk xs
  .rw [if_pos h] at hi;have ae:=ip h;have ag:=ZFN hF (piv:=piv) a j (by omega:c<w) i0 h ae;rw [ag] at hB;rw [ZJ hB];have ao:=a.len i Z h;have ak:=a.rng i Z h;have aj:=a.len (Jk piv) Z hp;have am:=a.rng (Jk piv) Z hp;have ac:In q (scl f (ix xs i) (ix a2 (ix (ix xs i) c))):=ZnM hF;have a9:((scl f (ix xs i) (ix a2 (ix (ix xs i) c))).length:Int)=w:=by rw [Zjj];exact ao
   obtain ⟨m0,m1⟩:=ak c j Z;have hI:∃d',0<=d'/\d'<q/\Zce (tabs f q a2) (piv,d,c,xs)=Jg (if (Jk piv:Int)+1=Jk xs
     then .inr ((elim f c (Jk piv) (scl f (ix xs i) (ix a2 (ix (ix xs i) c))) ((xs.set i.toNat (ix xs (Jk piv))).set (Jk piv) (scl f (ix xs i) (ix a2 (ix (ix xs i) c))))).take (Jk piv+1),piv++[c],d')
     else .inl (piv++[c],d',c+1,elim f c (Jk piv) (scl f (ix xs i) (ix a2 (ix (ix xs i) c))) ((xs.set i.toNat (ix xs (Jk piv))).set (Jk piv) (scl f (ix xs i) (ix a2 (ix (ix xs i) c)))))):=by
    by_cases af:i=Jk piv
    .subst af;have hk:=Zxc hF (piv:=piv) a j (by omega:c<w) hp ae o r;obtain ⟨k,l⟩:=Zb2 hF.fd hF.pw d (ix (ix xs (Jk piv)) c);refine ⟨_,k,l,?_⟩;rw [Jp,ZC5];rw [Yv] at hi;rw [<-hk];simp (disch:=omega) only [pz,Zce,Zi0,ah,hi]
    .have b0:Mat q w ((xs.set (Jk piv) (ix xs i)).set i.toNat (ix xs (Jk piv))):=(a.set (i:=(Jk piv:Int)) Z ak ao).set Z am aj;have aw:((xs.set (Jk piv) (ix xs i)).set i.toNat (ix xs (Jk piv))).length=Jk xs:=by rw [JC,JC]
     have a7:(xs.set (Jk piv) (ix xs i)).length=Jk xs:=JC;have ap:ix ((xs.set (Jk piv) (ix xs i)).set i.toNat (ix xs (Jk piv))) (Jk piv)=ix xs i:=by
      rw [ZbQ Z Z af];exact ZaY (i:=(Jk piv:Int)) Z hp
     have az:∀row,((xs.set (Jk piv) (ix xs i)).set i.toNat (ix xs (Jk piv))).set (Jk piv) row=(xs.set i.toNat (ix xs (Jk piv))).set (Jk piv) row:=λrow=>by
      rw [List.set_comm (ix xs i) (ix xs piv.length) (by omega:piv.length≠i.toNat),YV]
     obtain ⟨n0,n1⟩:=ZiF hF.fd hF.pw 0 d (f.Prime-1);have hk:=Zxc hF (piv:=piv) (d:=sumA f 0 d (f.Prime-1)) b0 j (by omega:c<w) Z (by rw [ap];exact ae) n0 n1;rw [ap,aw,az] at hk;obtain ⟨k,l⟩:=Zb2 hF.fd hF.pw (sumA f 0 d (f.Prime-1)) (ix (ix xs i) c);refine ⟨_,k,l,?_⟩;rw [<-hk];have j1:gIdx (tabs f q a2).qsub 0=Jg (tabl q λb=>sumA f 0 b (f.Prime-1)):=by rw [Zvj,Zax Z Z]
     have j2:gIdx (tabl q λb=>sumA f 0 b (f.Prime-1)) d=Jg (sumA f 0 d (f.Prime-1)):=Zax o r;have e:(Jk piv:Int)+(i-Jk piv)=i:=Z;simp (disch:=omega) only [pz,Zce,Zi0,ah,hi,e,j1,j2]
   obtain ⟨d',k,l,hI⟩:=hI;have aq:((xs.set i.toNat (ix xs (Jk piv))).set (Jk piv) (scl f (ix xs i) (ix a2 (ix (ix xs i) c)))).length=Jk xs:=by rw [JC,JC]
   have b1:Mat q w ((xs.set i.toNat (ix xs (Jk piv))).set (Jk piv) (scl f (ix xs i) (ix a2 (ix (ix xs i) c)))):=(a.set Z am aj).set (i:=(Jk piv:Int)) Z ac a9;have ad:Mat q w (elim f c (Jk piv) (scl f (ix xs i) (ix a2 (ix (ix xs i) c))) ((xs.set i.toNat (ix xs (Jk piv))).set (Jk piv) (scl f (ix xs i) (ix a2 (ix (ix xs i) c))))):=Mat.elim hF b1 ac a9;have al:(elim f c (Jk piv) (scl f (ix xs i) (ix a2 (ix (ix xs i) c))) ((xs.set i.toNat (ix xs (Jk piv))).set (Jk piv) (scl f (ix xs i) (ix a2 (ix (ix xs i) c))))).length=Jk xs:=by rw [ZfK,aq]
   generalize elim f c (Jk piv) (scl f (ix xs i) (ix a2 (ix (ix xs i) c))) ((xs.set i.toNat (ix xs (Jk piv))).set (Jk piv) (scl f (ix xs i) (ix a2 (ix (ix xs i) c))))=E at hI ad al ⊢;have au:(piv++[c]).length=Jk piv+1:=by simp
   by_cases a8:(Jk piv:Int)+1=Jk xs
   .rw [if_pos a8] at hI;refine ⟨E,piv++[c],d',Ze ?_,by omega,al,ad,?_⟩
    .by_cases b9:c+1<w
     .simp_all [pz,ZdV]
     .grind [pz,ZdV]
    .rw [au];exact Ze hI
   .rw [if_neg a8] at hI;rw [ZJ hI];obtain ⟨R,a3,ab,s,u,g3,v,x⟩:=ih (c+1) (piv++[c]) E d' Z Z Z ad k l;exact ⟨R,a3,ab,s,u,by omega,v,x⟩
  .rw [if_neg h] at hi;have ag:ZaG f piv c xs i=Jg (.inl (piv,c+1,xs)):=by
    obtain rfl:i=(Jk xs:Int):=Z;simp (disch:=omega) only [pz,ZaG]
   rw [ag] at hB;rw [ZJ hB];have hI:Zce (tabs f q a2) (piv,d,c,xs)=Jg (.inl (piv,0,c+1,xs)):=by
    simp (disch:=omega) only [pz,Zce,Zi0,Zja,ah,hi]
   rw [ZJ hI];obtain ⟨R,a3,ab,s,u,g3,v,x⟩:=ih (c+1) piv xs 0 Z Z hp a Z Z;exact ⟨R,a3,ab,s,u,g3,v,x⟩
theorem Zqm {m:Ja} (hs:Sz2 m):Zf5 m=Jg m:=by
 unfold Zf5;have h1:=hs.1;have e:=Zj (B:=ZkM m) (λk=>(m.take k.toNat,k)) (i:=0) (n:=m.length) Z λk a h1=>by
  have h:=Zjc (hs.2 (ix m k) (Zl a h1));have j:(m.take k.toNat).length=k.toNat:=by rw [Jt];omega
  grind [pz,ZkM,gApp1,Zai]
 grind [Ze,pz,ZkM]
theorem Zoz {f:Zd} {q w:Int} {u:Jb} (hF:Ff f q u) {m:Ja} (hs:Sz2 m) (hm:Mat q w m) (hw:0<=w) (h1:1<=(Jk m:Int)):
  ∃R piv d,ZeY f m=Jg R/\ZjU (tabs f q u) m=Jg (R,piv,d)/\(Jk R)<=Jk m/\∀x∈R,(Jk x:Int)<=1048576:=by
 have o:=hF.q2;obtain ⟨R,piv,d,h,r,s,j,k⟩:=ZMz hF w.toNat 0 [] m 1 Z Z (by simp;omega) hm Z Z;have e:=hm.len 0 Z Z;refine ⟨R.take (Jk piv),piv,d,?_,?_,by rw [Jt];omega,λx l=>?_⟩
 .unfold ZeY Zqg;rw [Zqm hs];simp (disch:=omega) only [pz,e,h,ZzU]
 .unfold ZjU;rw [ZaN hs];exact k
 .obtain ⟨i,a,b,rfl⟩:=ZU (Xq l);have:=j.len i a b;have:=hm.w1;omega
theorem ZgL {α:Type} {R:α->α->Prop} (asym:∀x y,R x y->¬R y x):∀{a b:List α},a.Pairwise R->b.Pairwise R->(∀x,x∈a↔x∈b)->a=b
 | [],[],_,_,_=>rfl
 | [],y::b,_,_,h=>by have:=(h y).2 (JA ..);simp at this
 | x::a,[],_,_,h=>by have:=(h x).1 (JA ..);simp at this
 | x::a,y::b,ha,f,h=>by
  rw [J5] at ha f;have irr:∀x,¬R x x:=λx i=>asym x x i i;have e:x=y:=by
   rcases List.mem_cons.1 ((h x).1 (JA ..)) with e|i
   .exact e
   .rcases List.mem_cons.1 ((h y).2 (JA ..)) with e|hy
    .exact e.symm
    .exact absurd (ha.1 y hy) (asym _ _ (f.1 x i))
  subst e;rw [ZgL asym ha.2 f.2 λz=>?_];constructor
  .intro hz;rcases List.mem_cons.1 ((h z).1 (JI _ hz)) with e|hz'
   .subst e;exact absurd (ha.1 z hz) (irr z)
   .exact hz'
  .intro hz;rcases List.mem_cons.1 ((h z).2 (JI _ hz)) with e|hz'
   .subst e;exact absurd (f.1 z hz) (irr z)
   .exact hz'
def insL {α:Type} (c:α->Int) (y:α):List α->List α
 | []=>[y]
 | x::r=>if c x<0 then x::insL c y r else if c x=0 then x::r else y::x::r
theorem ZfX {α:Type} {c:α->Int} {y:α} (a:∀x,c x=0->x=y):∀{l:List α} {z:α},z∈insL c y l↔z=y\/z∈l
 | [],z=>by simp [insL]
 | x::r,z=>by
  rw [insL];by_cases h1:c x<0
  .rw [if_pos h1,Xc,ZfX a,Xc];grind
  .grind
theorem Zh6 {α:Type} {R:α->α->Prop} {c:α->Int} {y:α} (e:∀x,c x=0->x=y) (h1:∀x,c x<0->R x y) (f:∀x,0<c x->R y x) (j:∀x y z,R x y->R y z->R x z):∀{l:List α},l.Pairwise R->(insL c y l).Pairwise R
 | [],_=>by simp [insL]
 | x::r,h=>by
  rw [J5] at h;rw [insL];by_cases a:c x<0
  .rw [if_pos a,J5];refine ⟨λz hz=>?_,Zh6 e h1 f j h.2⟩;grind [ZfX]
  .rw [if_neg a];by_cases i:c x=0
   .simp_all
   .rw [if_neg i,J5,J5];grind
theorem Zii {α:Type} (c:α->Int) (y:α):∀(l:List α),(insL c y l).length<=Jk l+1
 | []=>by simp [insL]
 | x::r=>by
  have:=Zii c y r;grind [insL]
theorem ZEb {l:Jb} {n:Int} (hl:(Jk l:Int)<=1000000):∀(t:Jb) (i:Int) (u:Jb),0<=i->l.drop i.toNat=t->i<=(Jk l:Int)->(Jk u:Int)<=i+1->loop (ZaL l n) (u,Ji,i)=Jg (u++t):=by
 intro t;induction t with
 | nil=>
  simp_all [congrArg,JL,Ze,pz,ZaL]
 | cons a t x=>
  intro i u j e o w;have f:i<(Jk l:Int):=by have:=congrArg J3 e;simp at this;omega
  have h:=ZaJ (xs:=l) j f;rw [e] at h;obtain ⟨rfl,k⟩:=List.cons.inj h;have hB:ZaL l n (u,Ji,i)=Jg (.inl (u++[ix l i],Ji,i+1)):=by
   simp (disch:=omega) only [pz,ZaL,Zcl,ZbD]
  grind [ZJ,Jo,JM,Js]
theorem ZNp {l:Jb} {n:Int} (w:(Jk l:Int)<=1000000):∀(t:Jb) (i:Int) (u:Jb),0<=i->l.drop i.toNat=t->i<=(Jk l:Int)->(Jk u:Int)<=i->loop (ZaL l n) (u,Jj,i)=Jg (u++insL (λx=>x-n) n t):=by
 intro t;induction t with
 | nil=>
  intro i u h e r ho;have hi:i=(Jk l:Int):=by have:=congrArg J3 e;simp at this;omega
  grind [Ze,pz,ZaL,insL]
 | cons a t ih=>
  intro i u h e r ho;have j:i<(Jk l:Int):=by have:=congrArg J3 e;simp at this;omega
  have k:=ZaJ (xs:=l) h j;rw [e] at k;obtain ⟨rfl,f⟩:=List.cons.inj k;rw [insL];by_cases h1:ix l i-n<0
  .rw [if_pos h1];have hB:ZaL l n (u,Jj,i)=Jg (.inl (u++[ix l i],Jj,i+1)):=by
    simp (disch:=omega) only [pz,ZaL,Zcl,ZbD]
   grind [ZJ,Jo,JM,Js]
  .rw [if_neg h1];by_cases o:ix l i-n=0
   .rw [if_pos o];have hB:ZaL l n (u,Jj,i)=Jg (.inl (u++[ix l i],Ji,i+1)):=by
     simp (disch:=omega) only [pz,ZaL,Zcl,ZbD]
    rw [ZJ hB,ZEb w t (i+1) _ Z f.symm Z (by rw [Jo,JM];omega),Js];rfl
   .rw [if_neg o];have hB:ZaL l n (u,Jj,i)=Jg (.inl (u++[n]++[ix l i],Ji,i+1)):=by
     have s:(u++[n]).length=Jk u+1:=by simp
     simp (disch:=omega) only [pz,ZaL,Zcl,ZbD]
    rw [ZJ hB,ZEb w t (i+1) _ Z f.symm Z (by rw [Jo,Jo,JM,JM];omega),Js,Js];rfl
theorem ZtA {l:Jb} {n:Int} (e:(Jk l:Int)<=1000000):Za3 l n=Jg (insL (λx=>x-n) n l):=ZNp e l 0 [] (JY 0) rfl Z (by simp)
theorem Zy3 {l:Ja} {y:Jb} (hl:(Jk l:Int)<=1000000) (w:∀x∈l,(Jk x:Int)<=1048576):∀(t:Ja) (i:Int) (u:Ja),0<=i->l.drop i.toNat=t->i<=(Jk l:Int)->(Jk u:Int)<=i+1->loop (Za6 l y) (u,Ji,i)=Jg (u++t):=by
 intro t;induction t with
 | nil=>
  simp_all [congrArg,JL,Ze,pz,Za6]
 | cons a t ih=>
  intro i u f h r ho;have e:i<(Jk l:Int):=by have:=congrArg J3 h;simp at this;omega
  have j:=ZaJ (xs:=l) f e;rw [h] at j;obtain ⟨rfl,o⟩:=List.cons.inj j;have k:=Za7 (a:=ix l i) (b:=y) (by have:=w _ (Zl f e);omega);have hB:Za6 l y (u,Ji,i)=Jg (.inl (u++[ix l i],Ji,i+1)):=by
   simp (disch:=omega) only [pz,Za6,Zds,Zdl,k]
  grind [ZJ,Jo,JM,Js]
theorem ZFD {l:Ja} {y:Jb} (hl:(Jk l:Int)<=1000000) (hr:∀x∈l,(Jk x:Int)<=1048576):∀(t:Ja) (i:Int) (w:Ja),0<=i->l.drop i.toNat=t->i<=(Jk l:Int)->(Jk w:Int)<=i->loop (Za6 l y) (w,Jj,i)=Jg (w++insL (λx=>cmpL x y) y t):=by
 intro t;induction t with
 | nil=>
  intro i w j e s ho;have hi:i=(Jk l:Int):=by have:=congrArg J3 e;simp at this;omega
  grind [Ze,pz,Za6,insL]
 | cons a t ih=>
  intro i w j e s ho;have f:i<(Jk l:Int):=by have:=congrArg J3 e;simp at this;omega
  have o:=ZaJ (xs:=l) j f;rw [e] at o;obtain ⟨rfl,h⟩:=List.cons.inj o;have k:=Za7 (a:=ix l i) (b:=y) (by have:=hr _ (Zl j f);omega);rw [insL];by_cases h1:cmpL (ix l i) y<0
  .rw [if_pos h1];have hB:Za6 l y (w,Jj,i)=Jg (.inl (w++[ix l i],Jj,i+1)):=by
    simp (disch:=omega) only [pz,Za6,Zds,Zdl,k]
   grind [ZJ,Jo,JM,Js]
  .rw [if_neg h1];by_cases r:cmpL (ix l i) y=0
   .rw [if_pos r];have hB:Za6 l y (w,Jj,i)=Jg (.inl (w++[ix l i],Ji,i+1)):=by
     simp (disch:=omega) only [pz,Za6,Zds,Zdl,k]
    rw [ZJ hB,Zy3 hl hr t (i+1) _ Z h.symm Z (by rw [Jo,JM];omega),Js];rfl
   .rw [if_neg r];have hB:Za6 l y (w,Jj,i)=Jg (.inl (w++[y]++[ix l i],Ji,i+1)):=by
     have u:(w++[y]).length=Jk w+1:=by simp
     simp (disch:=omega) only [pz,Za6,Zds,Zdl,k]
    rw [ZJ hB,Zy3 hl hr t (i+1) _ Z h.symm Z (by rw [Jo,Jo,JM,JM];omega),Js,Js];rfl
theorem ZNL {l:Ja} {y:Jb} (h:(Jk l:Int)<=1000000) (e:∀x∈l,(Jk x:Int)<=1048576):Zsg l y=Jg (insL (λx=>cmpL x y) y l):=ZFD h e l 0 [] (JY 0) rfl Z (by simp)
def imgS (p s:Jb):Jb:=sortI (s.map λx=>ix p x)
theorem ZDB {p s:Jb} {z:Int}:z∈imgS p s↔∃x∈s,ix p x=z:=by
 grind [imgS,Za1]
theorem ZuA (p s:Jb):(imgS p s).length=Jk s:=by
 unfold imgS;rw [(Za1 _).length_eq,Ju]
structure SetIn (s:Jb) (n:Int):Prop where
 srt:s.Pairwise (·<·)
 rng:∀x∈s,0<=x/\x<n
theorem ZG4 {p s:Jb} {n:Int} (hp:Vc.Perm p n) (hs:SetIn s n):(s.map λx=>ix p x).Nodup:=by
 refine List.pairwise_map.2 (hs.srt.imp_of_mem λ{a b} k f l e=>?_);have u:=hs.rng a k;have o:=hs.rng b f;have w:=hp.len;have h:=Z3 (xs:=p) (i:=a) Z Z;have j:=Z3 (xs:=p) (i:=b) Z Z;rw [e] at h;have:=(List.getElem?_inj Z hp.nd).1 (h.trans j.symm);omega
theorem ZKS {p s:Jb} {n:Int} (hp:Vc.Perm p n) (hs:SetIn s n):SetIn (imgS p s) n:=by
 refine ⟨?_,λz hz=>?_⟩
 .have h1:=Ziu (s.map λx=>ix p x);have e:(imgS p s).Nodup:=(Za1 _).nodup_iff.2 (ZG4 hp hs);exact (h1.and e).imp λ{a b} h=>by have:=h.1;have:=h.2;omega
 .obtain ⟨x,f,rfl⟩:=ZDB.1 hz;have:=hs.rng x f;have j:=hp.len;exact hp.rng _ (Zl Z Z)
theorem ZLz {p s:Jb} {n:Int} (hp:Vc.Perm p n) (hs:SetIn s n) (hl:(Jk s:Int)<=1000):ZmM p s=Jg (imgS p s):=by
 unfold ZmM;have a7:=hp.len;obtain ⟨s',⟨h1,a,f,u⟩,v⟩:=ZfJ (B:=Zle p s) (λi q=>q.2=i/\q.1.Pairwise (·<·)/\(∀z,z∈q.1↔∃x∈s.take i.toNat,ix p x=z)/\(Jk q.1:Int)<=i) (i:=0) (n:=s.length) Z (s:=(([]:Jb),(0:Int))) ⟨rfl,by simp,by simp,by simp⟩ λi q w i1 ⟨o,r,g3,g4⟩=>by
  obtain ⟨a2,j⟩:=q;dsimp only at o r g3 g4;subst o;have hr:=hs.rng _ (Zl w i1);have a3:=ZtA (l:=a2) (n:=ix p (ix s j)) Z;refine ⟨(insL (λx=>x-ix p (ix s j)) (ix p (ix s j)) a2,j+1),by simp (disch:=omega) only [pz,Zle,a3],rfl,?_,λz=>?_,?_⟩
  .exact Zh6 (λx h=>by omega) (λx h=>by omega) (λx h=>by omega) (λx y z h k=>by omega) r
  .grind [ZfX,Zai]
  .grind [Zii,ix]
 obtain ⟨a2,j⟩:=s';dsimp only at h1 a f u;subst h1;rw [v];have hset:=ZKS hp hs;have e:a2=imgS p s:=ZgL (R:=(·<·)) (λx y h k=>by omega) a hset.srt λz=>by
  rw [f,ZDB,Jp,Jx]
 grind [Ze,pz,Zle]
def LtR (a b:Jb):Prop:=cmpL a b<0
theorem LtR.asym (x y:Jb) (h:LtR x y):¬LtR y x:=λk=>by
 grind [LtR,ZcT]
theorem ZtU {f:Jb->Jb->Jm Bool} (u:∀a b,(Jk a:Int)<=1000->f a b=Jg (decide (a=b))):∀(l:Ja) (p:Jb),(∀x∈l,(Jk x:Int)<=1000)->(p::l).Pairwise (λa b=>lexC a b<=0) ->
  ∃q,cpt f p l=Jg q/\(p::q).Pairwise LtR/\(∀z,z∈p::q↔z∈p::l)/\(Jk q)<=Jk l
 | [],p,_,_=>⟨[],rfl,by simp,by simp,JB _⟩
 | y::l,p,hl,hs=>by
  rw [J5] at hs;obtain ⟨q,j,q2,h,k⟩:=ZtU u l y (λx i=>hl x (JI _ i)) hs.2;have a2:=u y p (hl y (JA ..));have w:=hs.1 y (JA ..);rw [ZaQ] at w;by_cases e:y=p
  .subst e;refine ⟨q,?_,q2,λz=>?_,by simp;omega⟩
   .grind [cpt]
   .rw [h];simp
  .refine ⟨y::q,?_,?_,λz=>?_,by simp;omega⟩
   .grind [cpt]
   .have o:LtR p y:=by
     grind [LtR,cmpL,Zaz]
    rw [J5];refine ⟨λz hz=>?_,q2⟩;rcases List.mem_cons.1 hz with rfl|hz
    .exact o
    .exact Zby _ _ _ o ((List.pairwise_cons.1 q2).1 z hz)
   .grind
theorem ZKO {f:Jb->Jb->Jm Bool} (k:∀a b,(Jk a:Int)<=1000->f a b=Jg (decide (a=b))) {l:Ja} (o:∀x∈l,(Jk x:Int)<=1000) (hs:l.Pairwise (λa b=>lexC a b<=0)):
  ∃q,cptL f l=Jg q/\q.Pairwise LtR/\(∀z,z∈q↔z∈l)/\(Jk q)<=Jk l:=by
 cases l with
 | nil=>exact ⟨[],rfl,by simp,by simp,JB _⟩
 | cons p l=>
  obtain ⟨q,h,q2,i,j⟩:=ZtU k l p (λx e=>o x (JI _ e)) hs;grind [cptL]
def dis (xs:Jb):Jb:=xs.foldl (λl y=>insL (λx=>x-y) y l) []
def cnt (xs:Jb):Nat:=(dis xs).length
theorem ZoN:∀(xs l:Jb),l.Pairwise (·<·)->(xs.foldl (λl y=>insL (λx=>x-y) y l) l).Pairwise (·<·)/\∀z,z∈xs.foldl (λl y=>insL (λx=>x-y) y l) l↔z∈l\/z∈xs
 | [],l,h=>⟨h,by simp⟩
 | y::xs,l,h=>by
  have h1:=Zh6 (R:=(·<· :Int->Int->Prop)) (c:=λx=>x-y) (y:=y) (λx h=>by omega) (λx h=>by omega) (λx h=>by omega) (λx y z a b=>Int.lt_trans a b) h;obtain ⟨e,f⟩:=ZoN xs _ h1;grind [ZfX]
theorem Zkm (xs:Jb):(dis xs).Pairwise (·<·):=(ZoN xs [] (by simp)).1
theorem ZcK {xs:Jb} {z:Int}:z∈dis xs↔z∈xs:=by rw [dis,(ZoN xs [] (by simp)).2];simp
theorem ZE8 (xs:Jb):(dis xs).Nodup:=(Zkm xs).imp λh=>by omega
theorem ZIN {xs l:Jb} (hp:l.Pairwise (·<·)) (e:∀z,z∈l↔z∈xs):l=dis xs:=ZgL (λx y a b=>by omega) hp (Zkm xs) λz=>by rw [e,ZcK]
theorem Zyb {xs l:Jb} (h:∀z∈xs,z∈l):cnt xs<=Jk l:=ZcE (ZE8 xs) λz hz=>h z (ZcK.1 hz)
theorem Zd7 (xs:Jb):cnt xs<=Jk xs:=Zyb λ_ h=>h
theorem ZOC {xs l:Jb} (a:l.Nodup) (h:∀z∈l,z∈xs):Jk l<=cnt xs:=ZcE a λz hz=>ZcK.2 (h z hz)
theorem ZgV {xs:Jb} {z:Int} (h:z∈xs):(xs.idxOf z:Int)<(Jk xs:Int)/\ix xs (xs.idxOf z:Int)=z:=by
 have h1:=Yj h;refine ⟨by omega,Zaa ?_⟩;grind
theorem ZF9 {xs k:Jb} (o:Jk xs=Jk k) (h:∀i j:Int,0<=i->i<(Jk xs:Int)->0<=j->j<(Jk xs:Int)->ix k i=ix k j->ix xs i=ix xs j):cnt xs<=cnt k:=by
 have:cnt xs<=((dis k).map λz=>ix xs (k.idxOf z:Int)).length:=Zyb λz hz=>by
  obtain ⟨i,a,e,rfl⟩:=ZU hz;have l:ix k i∈k:=Zl a Z;refine List.mem_map.2 ⟨ix k i,ZcK.2 l,?_⟩;grind [ZgV]
 rwa [Ju] at this
def sgl (cells:Jb) (v:Int):Jb:=tabl (Jk cells) λw=>if w=v then 2*ix cells w else 2*ix cells w+1
theorem Zhw (cells:Jb) (v:Int):(sgl cells v).length=Jk cells:=by unfold sgl;rw [Zy];omega
theorem Zs8 {cells:Jb} {v w:Int} (a:0<=w) (h1:w<(Jk cells:Int)):ix (sgl cells v) w=if w=v then 2*ix cells w else 2*ix cells w+1:=ZL a h1
theorem ZtZ {cells:Jb} {u v:Int} (e:0<=u) (f:u<(Jk cells:Int)) (v0:0<=v) (v1:v<(Jk cells:Int)) (a3:u≠v) (h:ix cells u=ix cells v):cnt cells+1<=cnt (sgl cells v):=by
 have a2:∀w:Int,0<=w->w<(Jk cells:Int)->ix (sgl cells v) w∈sgl cells v:=λw a b=>Zl a (by rw [Zhw];exact b);have:=ZOC (xs:=sgl cells v) (l:=(2*ix cells v)::(dis cells).map λx=>2*x+1) (by
  rw [List.nodup_cons];refine ⟨λhm=>?_,?_⟩
  .grind
  .grind [Zkm]) (by
  intro z hz;rcases List.mem_cons.1 hz with rfl|hz
  .have:=a2 v v0 v1;rwa [Zs8 v0 v1,if_pos rfl] at this
  .obtain ⟨x,o,rfl⟩:=List.mem_map.1 hz;obtain ⟨i,j,k,rfl⟩:=ZU (ZcK.1 o);by_cases hi:i=v
   .have:=a2 u e f;rw [Zs8 e f,if_neg a3,h] at this;rw [hi];exact this
   .have:=a2 i j k;rwa [Zs8 j k,if_neg hi] at this)
 grind [cnt]
def keyAt (near:Ja) (cells:Jb) (v:Int):Jb:=ix cells v::sortI ((ix near v).map λw=>ix cells w)
def rkeys (near:Ja) (cells:Jb):Ja:=tabl (Jk near) (keyAt near cells)
def kindsOf (keys:Ja):Ja:=keys.foldl (λl y=>insL (λx=>cmpL x y) y l) []
theorem ZkC:∀(xs l:Ja),l.Pairwise LtR->(xs.foldl (λl y=>insL (λx=>cmpL x y) y l) l).Pairwise LtR/\(∀z,z∈xs.foldl (λl y=>insL (λx=>cmpL x y) y l) l↔z∈l\/z∈xs)/\(xs.foldl (λl y=>insL (λx=>cmpL x y) y l) l).length<=Jk l+Jk xs
 | [],l,h=>⟨h,by simp,by simp⟩
 | y::xs,l,h=>by
  have h1:=Zh6 (R:=LtR) (c:=λx=>cmpL x y) (y:=y) (λx h=>(Zaz _ _).1 h) (λx h=>h) (λx h=>by
   have:=ZcT x y;show cmpL y x<0;omega) (λx y z a b=>Zby _ _ _ a b) h
  obtain ⟨e,f,i⟩:=ZkC xs _ h1;grind [Zii,cmpL,Jy,ZfX,Zaz]
theorem Ztp (keys:Ja):(kindsOf keys).Pairwise LtR:=(ZkC keys [] (by simp)).1
theorem ZcN {keys:Ja} {z:Jb}:z∈kindsOf keys↔z∈keys:=by rw [kindsOf,(ZkC keys [] (by simp)).2.1];simp
theorem Zkn (keys:Ja):(kindsOf keys).length<=Jk keys:=by have:=(ZkC keys [] (by simp)).2.2;simpa [kindsOf] using this
theorem ZPf (x y:Jb) (h:LtR x y):¬LtR y x:=λk=>by
 have h:cmpL x y<0:=h;have k:cmpL y x<0:=k;grind [ZcT]
theorem ZJd {keys l:Ja} (hp:l.Pairwise LtR) (e:∀z,z∈l↔z∈keys):l=kindsOf keys:=ZgL ZPf hp (Ztp keys) λz=>by rw [e,ZcN]
def rnd (near:Ja) (cells:Jb):Jb:=(rkeys near cells).map λx=>((kindsOf (rkeys near cells)).idxOf x:Int)
theorem ZdC (near:Ja) (cells:Jb):(rkeys near cells).length=Jk near:=by unfold rkeys;rw [Zy];omega
theorem ZcZ (near:Ja) (cells:Jb):(rnd near cells).length=Jk near:=by unfold rnd;rw [Ju,ZdC]
theorem Zje {near:Ja} {cells:Jb} {v:Int} (a:0<=v) (h1:v<(Jk near:Int)):ix (rkeys near cells) v=keyAt near cells v:=ZL a h1
theorem Zj7 {near:Ja} {cells:Jb} {v:Int} (a:0<=v) (h1:v<(Jk near:Int)):ix (rnd near cells) v=((kindsOf (rkeys near cells)).idxOf (keyAt near cells v):Int):=by
 grind [rnd,Zdx,ZdC,Zje]
theorem ZzQ {near:Ja} {cells:Jb} {v:Int} (a:0<=v) (h1:v<(Jk near:Int)):keyAt near cells v∈kindsOf (rkeys near cells):=by
 rw [ZcN,<-Zje a h1];grind [Zl,ZdC]
theorem ZNg {near:Ja} {cells:Jb}:∀x∈rnd near cells,0<=x/\x<(Jk near:Int):=by
 intro x a;obtain ⟨y,e,rfl⟩:=List.mem_map.1 a;grind [Yj,ZcN,Zkn,rkeys,ZdC]
theorem ZMa {near:Ja} {cells:Jb} {u v:Int} (a:0<=u) (e:u<(Jk near:Int)) (v0:0<=v) (v1:v<(Jk near:Int)) (h:ix (rnd near cells) u=ix (rnd near cells) v):keyAt near cells u=keyAt near cells v:=by
 rw [Zj7 a e,Zj7 v0 v1] at h;have h1:=Yj (ZzQ (cells:=cells) a e);have f:=Yj (ZzQ (cells:=cells) v0 v1);rw [<-WN h1,<-WN f];grind
theorem ZhQ {near:Ja} {cells:Jb} (l:Jk cells=Jk near):cnt cells<=cnt (rnd near cells):=by
 refine ZF9 (by rw [ZcZ,l]) λi j a f e k h=>?_;have:=ZMa a Z e Z h;unfold keyAt at this;grind
def refM (near:Ja):Nat->Jb->Jb
 | 0,cells=>cells
 | f+1,cells=>if cnt (rnd near cells)=cnt cells then rnd near cells else refM near f (rnd near cells)
def refN (near:Ja) (cells:Jb):Jb:=refM near (Jk near+1) cells
theorem Zyt (near:Ja):∀(f:Nat) (cells:Jb),Jk cells=Jk near->Jk near<f+cnt cells->(refM near f cells).length=Jk near/\cnt cells<=cnt (refM near f cells)/\∀x∈refM near f cells,0<=x/\x<(Jk near:Int)
 | 0,cells,hl,hf=>by have:=Zd7 cells;omega
 | f+1,cells,hl,hf=>by
  have h1:=ZhQ hl;have a:=ZcZ near cells;rw [refM];by_cases h:cnt (rnd near cells)=cnt cells
  .rw [if_pos h];exact ⟨a,h1,ZNg⟩
  .rw [if_neg h];obtain ⟨e,i,j⟩:=Zyt near f (rnd near cells) a Z;grind
theorem Zsi {near:Ja} {cells:Jb} (e:Jk cells=Jk near):(refN near cells).length=Jk near/\cnt cells<=cnt (refN near cells)/\∀x∈refN near cells,0<=x/\x<(Jk near:Int):=Zyt near _ cells e Z
def eC (a b:Zc):Int:=if cmpI a.A b.A=0 then cmpI a.B b.B else cmpI a.A b.A
theorem ZAH {x y:Int}:cmpI x y=0↔x=y:=by
 grind [cmpI]
theorem eC_lt {a b:Zc}:eC a b<0↔eLess a b:=by
 grind [eC,eLess,cmpI]
theorem eC_gt {a b:Zc}:0<eC a b↔eLess b a:=by
 grind [eC,eLess,cmpI]
theorem ZAU {a b:Zc}:eC a b=0↔a=b:=by
 cases a;cases b;unfold eC;simp only [Zc.mk.injEq];split
 .grind [ZAH]
 .grind [ZAH]
theorem ZJO (x y:Zc) (h:eLess x y):¬eLess y x:=λk=>by unfold eLess at *;omega
theorem Znh (x y z:Zc) (h:eLess x y) (k:eLess y z):eLess x z:=by unfold eLess at *;omega
def srtE (l:List Zc):List Zc:=l.foldl (λl y=>insL (λx=>eC x y) y l) []
theorem Zn6:∀(xs l:List Zc),l.Pairwise eLess->(xs.foldl (λl y=>insL (λx=>eC x y) y l) l).Pairwise eLess/\(∀z,z∈xs.foldl (λl y=>insL (λx=>eC x y) y l) l↔z∈l\/z∈xs)/\(xs.foldl (λl y=>insL (λx=>eC x y) y l) l).length<=Jk l+Jk xs
 | [],l,h=>⟨h,by simp,by simp⟩
 | y::xs,l,h=>by
  have h1:=Zh6 (R:=eLess) (c:=λx=>eC x y) (y:=y) (λx h=>ZAU.1 h) (λx h=>eC_lt.1 h) (λx h=>eC_gt.1 h) Znh h;obtain ⟨a,e,f⟩:=Zn6 xs _ h1;grind [Zii,eC,Jy,ZfX,ZAU]
theorem ZzD (l:List Zc):(srtE l).Pairwise eLess:=(Zn6 l [] (by simp)).1
theorem ZB4 {l:List Zc} {z:Zc}:z∈srtE l↔z∈l:=by rw [srtE,(Zn6 l [] (by simp)).2.1];simp
theorem ZKQ (l:List Zc):(srtE l).length<=Jk l:=by have:=(Zn6 l [] (by simp)).2.2;simpa [srtE] using this
theorem Znx {l q:List Zc} (hp:q.Pairwise eLess) (e:∀z,z∈q↔z∈l):q=srtE l:=ZgL ZJO hp (ZzD l) λz=>by rw [e,ZB4]
def mapE (p:Jb) (e:Zc):Zc:=⟨min (ix p e.A) (ix p e.B),max (ix p e.A) (ix p e.B)⟩
def colM (g:Zb) (p:Jb):Jb:=tabl (Jk p) λi=>ix g.Colors (p.idxOf i:Int)
def relab (g:Zb) (p:Jb):Zb:=⟨colM g p,srtE (g.Edges.map (mapE p))⟩
theorem ZqJ {p:Jb} {n:Int} (hp:Vc.Perm p n) {i:Int} (e:0<=i) (h1:i<n):i∈p:=by
 have h:=hp.len;have hs:=Zls hp.nd (l':=idP n) (λx a=>Z2.2 (hp.rng x a)) (by rw [Zaj];omega);grind [Z2]
theorem Zli {p:Jb} (hp:p.Nodup) {i j:Int} (a:0<=i) (h1:i<(Jk p:Int)) (k0:0<=j) (k1:j<(Jk p:Int)) (h:ix p i=ix p j):i=j:=by
 have e:=Z3 a h1;have f:=Z3 k0 k1;grind [JF,Option.some.inj,List.getElem_inj]
theorem ZKw {p:Jb} (hp:p.Nodup) {i:Int} (e:0<=i) (h1:i<(Jk p:Int)):(p.idxOf (ix p i):Int)=i:=by
 obtain ⟨a,b⟩:=ZgV (Zl e h1);exact Zli hp Z a e h1 b
theorem Zcr {g:Zb} (hg:ValidG g) {e:Zc} (h:e∈g.Edges):0<=e.A/\e.A<e.B/\e.B<(Jk g.Colors:Int):=by
 obtain ⟨k,k0,k1,rfl⟩:=ZU h;exact (hg.edg k k0 k1).1
theorem ZLO {g:Zb} (hg:ValidG g):g.Edges.Pairwise eLess:=by
 have h:∀(d:Nat) (i j:Int),(j-i).toNat=d+1->0<=i->i<j->j<(Jk g.Edges:Int)->eLess (ix g.Edges i) (ix g.Edges j):=by
  intro d;induction d with
  | zero=>
   intro i j f e h1 a;obtain rfl:i=j-1:=Z;exact (hg.edg j Z a).2 Z
  | succ d k=>
   intro i j f e h1 a;exact Znh _ _ _ (k i (j-1) Z e Z Z) ((hg.edg j Z a).2 Z)
 rw [List.pairwise_iff_getElem];intro i j hi o l;have:=h (j-i-1) (i:Int) (j:Int) Z Z Z Z;simp_all [Zaa,JF]
theorem ZEF {g:Zb} (cl:(Jk g.Colors:Int)<=64) (col:∀x∈g.Colors,0<=x/\x<=63) (el:(Jk g.Edges:Int)<=512) (pw:g.Edges.Pairwise eLess) (edg:∀e∈g.Edges,0<=e.A/\e.A<e.B/\e.B<(Jk g.Colors:Int)):ValidG g:=by
 refine ⟨cl,λk a b=>col _ (Zl a b),el,λk a b=>⟨edg _ (Zl a b),λh=>?_⟩⟩;have:=List.pairwise_iff_getElem.1 pw (k-1).toNat k.toNat Z Z Z;have f:=Z3 (xs:=g.Edges) (i:=k-1) Z Z;have j:=Z3 (xs:=g.Edges) (i:=k) Z Z;rw [JF Z] at f j;grind
theorem Zxy (g:Zb) (p:Jb):(colM g p).length=Jk p:=by unfold colM;rw [Zy];omega
theorem Znt {g:Zb} (hg:ValidG g) {p:Jb} (hp:Vc.Perm p (Jk g.Colors)):ValidG (relab g p):=by
 have hl:=hp.len;have a2:(colM g p).length=Jk p:=Zxy g p;refine ZEF (by show ((colM g p).length:Int)<=64;have:=hg.cl;omega) (λx j=>?_) ?_ (ZzD _) λe u=>?_
 .obtain ⟨i,a,f,rfl⟩:=ZU j;have f:i<(colM g p).length:=f;have hi:ix (colM g p) i=ix g.Colors (p.idxOf i:Int):=ZL a Z;show 0<=ix (colM g p) i/\ix (colM g p) i<=63;rw [hi];have w:=ZqJ hp a Z;have:=(ZgV w).1;exact hg.col _ Z Z
 .have:=ZKQ (g.Edges.map (mapE p));rw [Ju] at this;show ((srtE (g.Edges.map (mapE p))).length:Int)<=512;have:=hg.el;omega
 .have u:e∈srtE (g.Edges.map (mapE p)):=u;rw [ZB4] at u;obtain ⟨d,k,rfl⟩:=List.mem_map.1 u;have l:=Zcr hg k;have o:=hp.rng _ (Zl (xs:=p) (i:=d.A) Z Z);have r2:=hp.rng _ (Zl (xs:=p) (i:=d.B) Z Z);have a3:ix p d.A≠ix p d.B:=λh=>by have:=Zli hp.nd Z Z Z Z h;omega
  show 0<=min _ _/\min _ _<max _ _/\max _ _<((colM g p).length:Int);omega
def adj (es:List Zc) (a b:Int):Bool:=es.any λe=>(e.A==a&&e.B==b)||(e.A==b&&e.B==a)
theorem ZBb {es:List Zc} {a b:Int}:adj es a b=Ji↔∃e∈es,(e.A=a/\e.B=b)\/(e.A=b/\e.B=a):=by
 unfold adj;simp
def nearM (g:Zb):Ja:=tabl (Jk g.Colors) λa=>(idP (Jk g.Colors)).filter λb=>adj g.Edges a b
theorem Zno (g:Zb):(nearM g).length=Jk g.Colors:=by unfold nearM;rw [Zy];omega
theorem ZAD {g:Zb} {a:Int} (e:0<=a) (h1:a<(Jk g.Colors:Int)):ix (nearM g) a=(idP (Jk g.Colors)).filter λb=>adj g.Edges a b:=ZL e h1
theorem ZPg {g:Zb} {a x:Int} (e:0<=a) (h1:a<(Jk g.Colors:Int)):x∈ix (nearM g) a↔(0<=x/\x<(Jk g.Colors:Int))/\adj g.Edges a x=true:=by
 rw [ZAD e h1,Xr,Z2]
theorem ZN2 {g:Zb} {a:Int} (e:0<=a) (h1:a<(Jk g.Colors:Int)):(ix (nearM g) a).length<=Jk g.Colors:=by
 grind [ZAD,Xf,adj,idP,Zaj]
def flatE (l:List Zc):Jb:=l.flatMap λe=>[e.A,e.B]
def cmpG (g h:Zb):Int:=if cmpL g.Colors h.Colors=0 then cmpL (flatE g.Edges) (flatE h.Edges) else cmpL g.Colors h.Colors
def tgt (cells:Jb):Int:=((dis cells).find? λt=>decide (2<=cells.count t)).getD (-1)
def vts (cells:Jb) (t:Int):Jb:=(idP (Jk cells)).filter λv=>ix cells v==t
structure CSt where
 best:Zb
 perms:Ja
 nodes:Int
 leaves:Int
 full:Bool
def leafM (g:Zb) (p:Jb) (s:CSt):CSt:=
 let c:=if s.perms=[] then -1 else cmpG (relab g p) s.best
 ⟨if c<0 then relab g p else s.best,if c<0 then [p] else if c=0 then s.perms++[p] else s.perms,s.nodes,s.leaves+1,s.full⟩
def srch (g:Zb) (near:Ja) (B:Int):Nat->Jb->CSt->CSt
 | 0,_,s=>s
 | d+1,cells,s=>if tgt cells<0 then leafM g cells s else (vts cells (tgt cells)).foldl (λs v=>if s.full=Ji then s else if s.nodes=B then { s with full:=Ji } else srch g near B d (refN near (sgl cells v)) { s with nodes:=s.nodes+1 }) s
def stepM (g:Zb) (near:Ja) (B:Int) (d:Nat) (cells:Jb) (s:CSt) (v:Int):CSt:=if s.full=Ji then s else if s.nodes=B then { s with full:=Ji } else srch g near B d (refN near (sgl cells v)) { s with nodes:=s.nodes+1 }
theorem Zkt {g:Zb} {near:Ja} {B:Int} {d:Nat} {cells:Jb} {s:CSt}:srch g near B (d+1) cells s=if tgt cells<0 then leafM g cells s else (vts cells (tgt cells)).foldl (stepM g near B d cells) s:=rfl
theorem Zms {cells:Jb} {t v:Int}:v∈vts cells t↔(0<=v/\v<(Jk cells:Int))/\ix cells v=t:=by
 unfold vts;rw [Xr,Z2,beq_iff_eq]
theorem ZmU {cells:Jb} {t:Int}:2<=cells.count t↔∃i j:Int,0<=i/\i<j/\j<(Jk cells:Int)/\ix cells i=t/\ix cells j=t:=by
 rw [<-List.replicate_sublist_iff];constructor
 .intro h;obtain ⟨is,h1,e⟩:=List.sublist_eq_map_getElem h;have w:Jk is=2:=by have:=congrArg J3 h1;simp at this;exact this.symm
  obtain ⟨a,b,rfl⟩:∃a b,is=[a,b]:=by
   match is,w with
   | [a,b],_=>exact ⟨a,b,rfl⟩
  simp only [JG,List.map_nil,Jn,List.cons.injEq,and_true] at h1;have u:a<b:=by simpa using e
  refine ⟨(a.val:Int),(b.val:Int),by omega,by have:a.val<b.val:=u;omega,by have:=b.isLt;omega,?_,?_⟩
  .simp_all [Zaa,JF]
  .rw [Zaa (JF b.isLt)];grind
 .rintro ⟨i,j,f,x,k,hi,hj⟩;have o:=Z3 (xs:=cells) (i:=i) f Z;have r:=Z3 (xs:=cells) (i:=j) Z k;have:=List.map_getElem_sublist (l:=cells) (is:=[⟨i.toNat,by omega⟩,⟨j.toNat,by omega⟩]) (by simp;omega);grind
theorem Zdk {cells:Jb} (f:∀x∈cells,0<=x):(tgt cells=-1/\cells.Nodup)\/(0<=tgt cells/\2<=cells.count (tgt cells)/\∀t,2<=cells.count t->tgt cells<=t):=by
 unfold tgt;cases hf:(dis cells).find? λt=>decide (2<=cells.count t) with
 | none=>
  left;refine ⟨rfl,List.nodup_iff_count.2 λa=>?_⟩;rw [List.find?_eq_none] at hf;rcases Nat.lt_or_ge (cells.count a) 2 with h|h
  .omega
  .grind [WO,ZcK]
 | some t=>
  right;have h1:=List.find?_some hf;have i:=List.mem_of_find?_eq_some hf;have h1:2<=cells.count t:=by simpa using h1
  refine ⟨f t (ZcK.1 i),h1,λu k=>?_⟩;have j:u∈dis cells:=ZcK.2 (List.count_pos_iff.1 Z);obtain ⟨_,as,bs,e,l⟩:=List.find?_eq_some_iff_append.1 hf;have hp:=Zkm cells;rw [e] at j hp;show t<=u;rcases List.mem_append.1 j with h|h
  .grind
  .rcases List.mem_cons.1 h with h|h
   .omega
   .grind [J5]
structure Cel (n:Nat) (cells:Jb):Prop where
 len:Jk cells=n
 rng:∀x∈cells,0<=x/\x<(n:Int)
theorem Cel.ref {near:Ja} {cells:Jb} (e:Jk cells=Jk near):Cel (Jk near) (refN near cells):=⟨(Zsi e).1,(Zsi e).2.2⟩
theorem Cel.perm {n:Nat} {cells:Jb} (h:Cel n cells) (a:cells.Nodup):Vc.Perm cells n:=⟨by rw [h.len],h.rng,a⟩
theorem Cel.more {near:Ja} {cells:Jb} (h:Cel (Jk near) cells) (ht:¬tgt cells<0) {v:Int} (a:v∈vts cells (tgt cells)):cnt cells+1<=cnt (refN near (sgl cells v)):=by
 obtain ⟨⟨v0,v1⟩,e⟩:=Zms.1 a;rcases Zdk (cells:=cells) (λx f=>(h.rng x f).1) with ⟨h1,_⟩|⟨h1,k,_⟩
 .omega
 obtain ⟨i,j,o,a3,l,hi,w⟩:=ZmU.1 k;have hg:=(Zsi (near:=near) (cells:=sgl cells v) (by rw [Zhw,h.len])).2.1;by_cases a2:i=v
 .have:=ZtZ (u:=j) (v:=v) Z l v0 v1 Z (by rw [w,e]);omega
 .grind [ZtZ]
theorem ZA4 {cells:Jb} (a:∀x∈cells,0<=x) (o:¬tgt cells<0):vts cells (tgt cells)≠[]:=by
 rcases Zdk a with ⟨h1,_⟩|⟨h1,e,_⟩
 .omega
 obtain ⟨i,j,f,k,h,hi,l⟩:=ZmU.1 e;exact List.ne_nil_of_mem (Zms.2 ⟨⟨f,by omega⟩,hi⟩)
structure CInv (B K:Int) (s:CSt):Prop where
 le:s.leaves<=s.nodes+K
 pl:(Jk s.perms:Int)<=s.leaves
 n0:0<=s.nodes
 nB:s.nodes<=B
theorem Zsr (g:Zb) (near:Ja) (B:Int):∀(d:Nat) (cells:Jb) (s:CSt) (K:Int),CInv B K s->CInv B (K+1) (srch g near B d cells s)
 | 0,cells,s,K,h=>⟨by have:=h.le;show s.leaves<=s.nodes+(K+1);omega,h.pl,h.n0,h.nB⟩
 | d+1,cells,s,K,h=>by
  rw [Zkt];by_cases k:tgt cells<0
  .rw [if_pos k];have h1:=h.le;have e:=h.pl;refine ⟨by show s.leaves+1<=s.nodes+(K+1);omega,?_,h.n0,h.nB⟩;unfold leafM;grind
  .rw [if_neg k];have j:∀(vs:Jb) (s:CSt),CInv B K s->CInv B K (vs.foldl (stepM g near B d cells) s):=by
    intro vs;induction vs with
    | nil=>intro s h;exact h
    | cons v vs l=>
     intro s h;rw [XB];refine l _ ?_;unfold stepM;by_cases o:s.full=Ji
     .grind
     .rw [if_neg o];by_cases a:s.nodes=B
      .rw [if_pos a];exact ⟨h.le,h.pl,h.n0,h.nB⟩
      .rw [if_neg a];have h1:=h.le;have f:=h.n0;have i:=h.nB;have:=Zsr g near B d (refN near (sgl cells v)) { s with nodes:=s.nodes+1 } (K-1) ⟨by show s.leaves<=s.nodes+1+(K-1);omega,h.pl,by show 0<=s.nodes+1;omega,by show s.nodes+1<=B;omega⟩;grind
   have:=j (vts cells (tgt cells)) s h;exact ⟨by have:=this.le;omega,this.pl,this.n0,this.nB⟩
def Bst (g:Zb) (s:CSt):Prop:=s.perms≠[]->∃p,Vc.Perm p (Jk g.Colors)/\s.best=relab g p
theorem ZnY {g:Zb} {near:Ja} (j:Jk near=Jk g.Colors) (B:Int):∀(d:Nat) (cells:Jb) (s:CSt),Cel (Jk near) cells->Jk near<d+cnt cells->Bst g s->Bst g (srch g near B d cells s)/\((srch g near B d cells s).full=Jj->(srch g near B d cells s).perms≠[])
 | 0,cells,s,a,o,h=>by have:=Zd7 cells;have:=a.len;omega
 | d+1,cells,s,a,o,h=>by
  rw [Zkt];rcases Zdk (cells:=cells) (λx i=>(a.rng x i).1) with ⟨h1,k⟩|⟨h1,k,_⟩
  .rw [if_pos Z];have hp:Vc.Perm cells (Jk g.Colors):=by rw [<-j];exact a.perm k
   unfold leafM Bst;dsimp only;generalize w:(if s.perms=[] then -1 else cmpG (relab g cells) s.best)=c;by_cases f:c<0
   .grind
   .have u:s.perms≠[]:=λe=>by rw [if_pos e] at w;omega
    rw [if_neg f,if_neg f];refine ⟨λ_=>h u,λ_=>?_⟩;split
    .simp
    .exact u
  .rw [if_neg Z];have a2:∀(vs:Jb) (s:CSt),(∀v∈vs,v∈vts cells (tgt cells))->Bst g s->(vs=[]->s.full=Jj->s.perms≠[])->Bst g (vs.foldl (stepM g near B d cells) s)/\((vs.foldl (stepM g near B d cells) s).full=Jj->(vs.foldl (stepM g near B d cells) s).perms≠[]):=by
    intro vs;induction vs with
    | nil=>intro s _ h h';exact ⟨h,h' rfl⟩
    | cons v vs ih=>
     intro s hm h _;rw [XB];have a4:Bst g (stepM g near B d cells s v)/\((stepM g near B d cells s v).full=Jj->(stepM g near B d cells s v).perms≠[]):=by
      unfold stepM;by_cases hf:s.full=Ji
      .grind
      .rw [if_neg hf];by_cases l:s.nodes=B
       .rw [if_pos l];exact ⟨h,λe=>by cases e⟩
       .rw [if_neg l];have a3:=a.more (near:=near) Z (hm v (JA ..));exact ZnY j B d _ _ (Cel.ref (by rw [Zhw,a.len])) Z h
     grind
   exact a2 _ s (λv r=>r) h λe=>absurd e (ZA4 (λx i=>(a.rng x i).1) Z)
theorem ZG0 (i x:Int) (hi:0<=i/\i<=1000000):∀(m:Nat) (A C:Jb),Jk A=m->(Jk A:Int)+Jk C<=1000000->(A++C).Pairwise (·<=·)->(∀c∈C,x<c) ->
  ∃ys,loop (ZfT i) ((Jk A:Int),A++x::C)=Jg (.inl (ys,i+1))/\ys.Pairwise (·<=·)/\ys.Perm (A++x::C):=by
 intro m;induction m with
 | zero=>
  intro A C hA hl hs hC;obtain rfl:=List.length_eq_zero_iff.1 hA;refine ⟨x::C,Ze (by simp (disch:=omega) only [pz,ZfT,Xm]),?_,List.Perm.refl _⟩;grind
 | succ m ih=>
  intro A C hA hl hs hC;obtain ⟨w,a,rfl⟩:∃w a,A=w++[a]:=by
   rcases List.eq_nil_or_concat A with h|⟨w,a,h⟩
   .grind
   .grind
  have a5:Jk w=m:=by simpa using hA
  rw [Jo,JM] at hl;have hL:((w++[a]).length:Int)=(Jk w:Int)+1:=by rw [Jo];simp
  have e:ix ((w++[a])++x::C) ((Jk w:Int)+1)=x:=ixMid (by rw [hL]);have l:(w++[a])++x::C=w++a::x::C:=by simp
  have f:ix ((w++[a])++x::C) (Jk w:Int)=a:=by rw [l];exact ixMid rfl
  have aa:(((w++[a])++x::C).length:Int)=(Jk w:Int)+2+Jk C:=by simp;omega
  have w1:(Jk w:Int)+1-1=(Jk w:Int):=Z;rw [hL];by_cases ab:x<a
  .have s1:((w++[a])++x::C).set ((Jk w:Int)+1).toNat a=w++a::(a::C):=by
    simp
   have s2:(w++a::(a::C)).set (Jk w:Int).toNat x=w++x::(a::C):=by
    simp
   have o:(w++a::(a::C)).set (Jk w) x=w++x::(a::C):=by rw [<-s2,Jp]
   have u:((w++a::(a::C)).length:Int)=(Jk w:Int)+2+Jk C:=by simp;omega
   have hB:ZfT i ((Jk w:Int)+1,(w++[a])++x::C)=Jg (.inl ((Jk w:Int),w++x::(a::C))):=by
    simp (disch:=omega) only [pz,ZfT,ZpK,e,f,w1,s1,o]
   rw [ZJ hB];have j:(w++(a::C)).Pairwise (·<=·):=by simpa using hs
   obtain ⟨ys,h1,r,s⟩:=ih w (a::C) a5 (by simp;omega) j (λc k=>by
    grind)
   refine ⟨ys,h1,r,s.trans ?_⟩;grind
  .refine ⟨(w++[a])++x::C,Ze (by simp (disch:=omega) only [pz,ZfT,e,f,w1]),?_,List.Perm.refl _⟩;rw [WP] at hs ⊢;refine ⟨hs.1,?_,λy hy z hz=>?_⟩
   .rw [J5];exact ⟨λc k=>by have:=hC c k;omega,hs.2.1⟩
   .rcases List.mem_cons.1 hz with rfl|hz
    .rw [WP] at hs;have h1:=hs.1;rcases List.mem_append.1 hy with hy|hy
     .have:=h1.2.2 y hy a (by simp);omega
     .simp at hy;omega
    .exact hs.2.2 y hy z hz
theorem ZNQ {xs:Jb} (hl:(Jk xs:Int)<=1000000):Zmr xs=Jg (sortI xs):=by
 unfold Zmr;obtain ⟨⟨w,j⟩,⟨h1,a,f⟩,o⟩:=ZfJ (B:=ZnR xs) (λi q=>q.2=i/\q.1.Pairwise (·<=·)/\q.1.Perm (xs.take i.toNat)) (i:=0) (n:=xs.length) Z (s:=(([]:Jb),(0:Int))) ⟨rfl,by simp,by simp⟩ λi q r u ⟨h,k,l⟩=>by
  obtain ⟨w,j⟩:=q;dsimp only at h k l;subst h;have a2:(Jk w:Int)=j:=by
   have:=l.length_eq;grind
  obtain ⟨x,h1,a,f⟩:=ZG0 j (ix xs j) ⟨r,by omega⟩ _ w [] rfl (by simp;omega) (by simpa using k) (by simp);refine ⟨(x,j+1),by simp (disch:=omega) only [pz,ZnR,h1],rfl,a,?_⟩;grind [Zai]
 dsimp only at h1 a f;rw [o];refine Ze ?_;subst h1;rw [Jp,Jx] at f;have e:w=sortI xs:=ZlD (f.trans (Za1 xs).symm) a (Ziu xs);grind [pz,ZnR]
theorem ZJN {xs:Jb} {i:Int} (a:0<=i) (h1:i<(Jk xs:Int)):dis (xs.take (i+1).toNat)=insL (λx=>x-ix xs i) (ix xs i) (dis (xs.take i.toNat)):=by
 grind [dis,Zai]
theorem Zrx {xs:Jb} (j:(Jk xs:Int)<=1000000):ZfZ xs=Jg (cnt xs:Int):=by
 unfold ZfZ;have h:=Zj (B:=ZnE xs) (λk=>(dis (xs.take k.toNat),k)) (i:=0) (n:=xs.length) Z λk k0 k1=>by
  have a:=Zd7 (xs.take k.toNat);rw [Jt] at a;have a:(dis (xs.take k.toNat)).length<=_:=a;grind [ZtA,dis,ix,ZJN,pz,ZnE]
 have e:(([]:Jb),(0:Int))=(λk:Int=>(dis (xs.take k.toNat),k)) 0:=rfl;rw [e,h];refine Ze ?_;simp (disch:=omega) only [pz,ZnE];rfl
theorem cptG {α:Type} {eqb:α->α->Bool} {Le R:α->α->Prop} (o:∀a b,eqb a b=Ji↔a=b) (h1:∀a b,Le a b->a≠b->R a b) (x:∀a b c,R a b->R b c->R a c):∀(l:List α) (p:α),(p::l).Pairwise Le ->
  ∃q,cpt (λa b=>Jg (eqb a b)) p l=Jg q/\(p::q).Pairwise R/\(∀z,z∈p::q↔z∈p::l)/\(Jk q)<=Jk l
 | [],p,_=>⟨[],rfl,by simp,by simp,JB _⟩
 | y::l,p,hs=>by
  rw [J5] at hs;obtain ⟨q,j,q2,f,k⟩:=cptG o h1 x l y hs.2;have w:=hs.1 y (JA ..);by_cases e:y=p
  .subst e;have i:=(o y y).2 rfl;refine ⟨q,?_,q2,λz=>?_,by simp;omega⟩
   .grind [cpt]
   .rw [f];simp
  .have i:eqb y p=false:=by
    grind
   refine ⟨y::q,?_,?_,λz=>?_,by simp;omega⟩
   .grind [cpt]
   .have u:R p y:=h1 p y w λh=>e h.symm;rw [J5];refine ⟨λz hz=>?_,q2⟩;rcases List.mem_cons.1 hz with rfl|hz
    .exact u
    .grind [J5]
   .grind
theorem cptGL {α:Type} {eqb:α->α->Bool} {Le R:α->α->Prop} (k:∀a b,eqb a b=Ji↔a=b) (h1:∀a b,Le a b->a≠b->R a b) (j:∀a b c,R a b->R b c->R a c) {l:List α} (hs:l.Pairwise Le):
  ∃q,cptL (λa b=>Jg (eqb a b)) l=Jg q/\q.Pairwise R/\∀z,z∈q↔z∈l:=by
 cases l with
 | nil=>exact ⟨[],rfl,by simp,by simp⟩
 | cons p l=>
  obtain ⟨q,e,q2,f,h⟩:=cptG k h1 j l p hs;grind [cptL]
theorem Zmi {xs:Jb} (l:(Jk xs:Int)<=1000000):Zh1 xs=Jg (cnt xs:Int):=by
 unfold Zh1 ZmP;have j:(sortI xs).length=Jk xs:=(Za1 xs).length_eq;obtain ⟨q,f,q2,i⟩:=cptGL (eqb:=λa b:Int=>a==b) (Le:=(·<=·)) (R:=(·<·)) (λa b=>by simp) (λa b h k=>by omega) (λa b c h k=>by omega) (Ziu xs);have e:q=dis xs:=ZIN q2 λz=>by rw [i];exact (Za1 xs).mem_iff
 rw [Zou Z,Jr,ZnP Z,Jr,if_pos Z,f,e];rfl
theorem ZsB (cells:Jb) (t:Int):(vts cells t).length=cells.count t:=by
 have a:cells=(idP (Jk cells:Int)).map λj=>ix cells j:=by
  grind [ZaP,Ju,Zaj,Zdx,Zeh]
 have:((idP (Jk cells:Int)).map λj=>ix cells j).count t=(vts cells t).length:=by
  rw [List.count,List.countP_map,List.countP_eq_length_filter];rfl
 grind
def PrU (u v i j:Int):Prop:=0<=i/\i<j/\(j<u\/(j=u/\i<v))
def TgI (cells:Jb) (u v e:Int):Prop:=(e=-1/\∀i j,PrU u v i j->ix cells i≠ix cells j)\/(0<=e/\(∃i j,PrU u v i j/\ix cells i=e/\ix cells j=e)/\∀i j,PrU u v i j->ix cells i=ix cells j->e<=ix cells j)
theorem ZPy {cells:Jb} {u v a2:Int} (f:0<=v/\v<u) (hu:0<=ix cells u) (h:TgI cells u v a2):TgI cells u (v+1) (if ix cells u=ix cells v/\(a2<0\/ix cells u<a2) then ix cells u else a2):=by
 have hp:∀i j,PrU u (v+1) i j->PrU u v i j\/(i=v/\j=u):=λi j ⟨a,b,c⟩=>by
  by_cases h:j=u/\i=v
  .omega
  .exact .inl ⟨a,b,by omega⟩
 have r:∀i j,PrU u v i j->PrU u (v+1) i j:=λi j ⟨a,b,c⟩=>⟨a,b,by omega⟩
 have l:PrU u (v+1) v u:=⟨f.1,f.2,.inr ⟨rfl,by omega⟩⟩
 rcases h with ⟨h1,o⟩|⟨h1,⟨i,j,o,s,w⟩,x⟩
 .by_cases he:ix cells u=ix cells v
  .rw [if_pos ⟨he,.inl Z⟩];refine .inr ⟨hu,⟨v,u,l,he.symm,rfl⟩,λi j a4 e=>?_⟩;grind
  .rw [if_neg λk=>he k.1];refine .inl ⟨h1,λi j a4 e=>?_⟩;grind
 .by_cases he:ix cells u=ix cells v/\(a2<0\/ix cells u<a2)
  .rw [if_pos he];refine .inr ⟨hu,⟨v,u,l,he.1.symm,rfl⟩,λi' j' a4 e=>?_⟩;grind
  .rw [if_neg he];refine .inr ⟨h1,⟨i,j,r i j o,s,w⟩,λi' j' a4 e=>?_⟩;grind
theorem ZwF {cells:Jb} (hl:(Jk cells:Int)<=1000000) (h0:∀x∈cells,0<=x):Zj8 cells=Jg (tgt cells):=by
 unfold Zj8;have hx:∀i,0<=i->i<(Jk cells:Int)->0<=ix cells i:=λi a b=>h0 _ (Zl a b);obtain ⟨⟨a3,u⟩,⟨h1,r⟩,h3⟩:=ZfJ (B:=ZjT cells) (λu q=>q.2=u/\TgI cells u 0 q.1) (i:=0) (n:=cells.length) Z (s:=((-1:Int),(0:Int))) ⟨rfl,.inl ⟨rfl,λi j ⟨a,b,c⟩=>by omega⟩⟩ λu q u0 u1 ⟨g1,g2⟩=>by
  obtain ⟨a3,j⟩:=q;dsimp only at g1 g2;subst g1;obtain ⟨⟨a2,v⟩,⟨k1,k2⟩,k3⟩:=ZfJ (B:=ZcU cells j) (λv q=>q.2=v/\TgI cells j v q.1) (i:=0) (n:=j) u0 (s:=(a3,(0:Int))) ⟨rfl,g2⟩ λv q v0 v1 ⟨m1,m2⟩=>by
   obtain ⟨o,w⟩:=q;dsimp only at m1 m2;subst m1;have a7:=ZPy ⟨v0,v1⟩ (hx j u0 u1) m2;generalize hE:(if ix cells j=ix cells w/\(o<0\/ix cells j<o) then ix cells j else o)=o2 at a7;refine ⟨(o2,w+1),?_,rfl,a7⟩;by_cases he:ix cells j=ix cells w
   .by_cases ho:o<0
    .rw [if_pos ⟨he,.inl ho⟩] at hE;grind [pz,ZcU,ZcP]
    .by_cases hc:ix cells j<o
     .rw [if_pos ⟨he,.inr hc⟩] at hE;grind [pz,ZcU,ZcP]
     .rw [if_neg λk=>by omega] at hE;grind [pz,ZcU,ZcP]
   .rw [if_neg λk=>he k.1] at hE;grind [pz,ZcU,ZcP]
  dsimp only at k1 k2;subst k1;have a9:loop (ZcU cells v) (a2,v)=Jg (.inl (a2,v+1)):=Ze (by simp (disch:=omega) only [pz,ZcU]);refine ⟨(a2,v+1),by simp (disch:=omega) only [pz,ZjT,k3,a9],rfl,?_⟩;rcases k2 with ⟨a1,l⟩|⟨a1,⟨i,j,l,y,a4⟩,a5⟩
  .exact .inl ⟨a1,λi j ⟨f,h,b3⟩=>l i j ⟨f,h,by omega⟩⟩
  .obtain ⟨c1,c2,c3⟩:=l;exact .inr ⟨a1,⟨i,j,⟨c1,c2,.inl Z⟩,y,a4⟩,λi j ⟨f,h,b3⟩=>a5 i j ⟨f,h,by omega⟩⟩
 dsimp only at h1 r;rw [h3];subst h1;have e:a3=tgt cells:=by
  rcases Zdk h0 with ⟨t1,t2⟩|⟨t1,t2,t3⟩
  .rcases r with ⟨a1,_⟩|⟨a1,⟨i,j,⟨f,h,b3⟩,y,a4⟩,_⟩
   .omega
   .grind [Zli]
  .obtain ⟨i,j,i0,a8,j1,hi,hj⟩:=ZmU.1 t2;rcases r with ⟨_,l⟩|⟨a1,⟨i',j',⟨f,h,b3⟩,y,a4⟩,a5⟩
   .exact absurd (hi.trans hj.symm) (l i j ⟨i0,a8,.inl j1⟩)
   .have h1:=a5 i j ⟨i0,a8,.inl j1⟩ (hi.trans hj.symm);have r:=t3 a3 (ZmU.2 ⟨i',j',f,h,by omega,y,a4⟩);omega
 grind [Ze,pz,ZjT]
theorem ZED {cells:Jb} {t k:Int} (h:0<=k):(idP (k+1)).filter (λv=>ix cells v==t)=(idP k).filter (λv=>ix cells v==t)++(if ix cells k=t then [k] else []):=by
 grind [idP,Z5,ix]
theorem ZJj {cells:Jb} (hl:(Jk cells:Int)<=1000000) (hr:∀x∈cells,0<=x/\x<(Jk cells:Int)):ZkE cells=Jg (if tgt cells<0 then [] else vts cells (tgt cells)):=by
 unfold ZkE;have a6:∀c:Int,0<=c->c<(Jk cells:Int)->loop (ZcD cells c) (([]:Jb),0)=Jg (if 1<((vts cells c).length:Int) then .inr (vts cells c) else .inl (c+1)):=λc l c1=>by
  have a4:=Zj (B:=ZcD cells c) (λk=>((idP k).filter (λv=>ix cells v==c),k)) (i:=0) (n:=cells.length) Z λk k0 k1=>by
   have a2:=Xf (λv=>ix cells v==c) (idP k);rw [Zaj] at a2;have u:=ZED (cells:=cells) (t:=c) k0;by_cases e:ix cells k=c
   .rw [if_pos e] at u;grind [pz,ZcD]
   .rw [if_neg e,JL] at u;grind [pz,ZcD]
  have r:(([]:Jb),(0:Int))=(λk:Int=>((idP k).filter (λv=>ix cells v==c),k)) 0:=rfl;rw [r,a4];refine Ze ?_;show ZcD cells c (vts cells c,(Jk cells:Int))=_;by_cases h:1<((vts cells c).length:Int)
  .simp_all [if_pos,pz,ZcD]
  .rw [if_neg h];grind [pz,ZcD]
 rcases Zbn (B:=ZiC cells) (λk=>k) (λc=>1<((vts cells c).length:Int)) (i:=0) (n:=cells.length) Z (λc l c1 s=>by
   simp_all [if_neg,pz,ZiC]) with ⟨c,l,c1,hP,hmin,he⟩|⟨hall,he⟩
 .rw [he];have w:2<=cells.count c:=by rw [<-ZsB];omega
  have ht:tgt cells=c:=by
   rcases Zdk (λx a=>(hr x a).1) with ⟨f,j⟩|⟨f,j,o⟩
   .grind
   .have h1:=o c w;rcases XF (tgt cells) c with k|k
    .grind [tgt,ZsB]
    .omega
  simp_all [if_neg,if_pos,Ze,pz,ZiC]
 .rw [he];have ht:tgt cells<0:=by
   rcases Zdk (λx a=>(hr x a).1) with ⟨f,j⟩|⟨f,j,o⟩
   .omega
   .grind [tgt,WO,ZsB]
  simp_all [if_pos,Ze,pz,ZiC]
theorem Zun {l:Ja} (h:l.Pairwise LtR):StrictL l:=λi j f o k=>by
 have:=List.pairwise_iff_getElem.1 h i.toNat j.toNat Z Z Z;have a:=Z3 (xs:=l) (i:=i) f Z;have e:=Z3 (xs:=l) (i:=j) Z k;rw [JF Z] at a e;rwa [Option.some.inj a,Option.some.inj e] at this
theorem ZxQ {xs:Ja} {z:Jb} (h:z∈xs):(xs.idxOf z:Int)<(Jk xs:Int)/\ix xs (xs.idxOf z:Int)=z:=by
 have h1:=Yj h;refine ⟨by omega,Zaa ?_⟩;grind
theorem ZOF {l:Ja} (hs:StrictL l) {i j:Int} (a:0<=i) (f:i<(Jk l:Int)) (o:0<=j) (r:j<(Jk l:Int)) (h:ix l i=ix l j):i=j:=by
 have e:=(Zaz (ix l i) (ix l j)).2 h;have s:=(Zaz (ix l j) (ix l i)).2 h.symm;rcases J7 i j with k|k|k
 .have:=hs i j a k r;omega
 .exact k
 .have:=hs j i o k f;omega
theorem ZJJ {l:Ja} {p:Jb} (hs:StrictL l) (hl:(Jk l:Int)<=1048576) (hr:∀x∈l,(Jk x:Int)<=1048576) (hm:p∈l):
  ZdX l p (λh i=>Zam h i)=Jg ((l.idxOf p:Int),Ji):=by
 unfold ZdX;generalize a3:ZbX l p (λh i=>Zam h i)=B;obtain ⟨a,hi⟩:=ZxQ hm;generalize hI:(l.idxOf p:Int)=I at a hi ⊢;have b:0<=I:=Z;have eI:cmpL (ix l I) p=0:=(Zaz _ _).2 hi;have aa:∀(d:Nat) (lo hi:Int),(hi-lo).toNat<=d->0<=lo->lo<=hi->hi<=(Jk l:Int)->(∀j,0<=j->j<lo->cmpL (ix l j) p<0)->(∀j,hi<=j->j<(Jk l:Int)->0<=cmpL (ix l j) p)->loop B (lo,hi)=Jg (I,Ji):=by
  intro d;induction d with
  | zero=>
   intro lo a2 w f h1 k o r;obtain rfl:lo=a2:=Z;have ac:lo<=I:=by
    grind
   have a8:I=lo:=by
    rcases XF lo I with c|c
    .have s:=hs lo I f c a;grind
    .omega
   subst a8;have a6:=hr (ix l I) (Zl f a);have u:=ZbH (a:=ix l I) (b:=p) Z;refine Ze ?_;rw [<-a3];grind [pz,ZbX]
  | succ d ih=>
   intro lo a2 w f h1 k o r;by_cases ad:lo<a2
   .have hm:=ZxY f h1 (show a2<=1048576 by omega);have ab:lo<=(lo+a2)/2/\(lo+a2)/2<a2:=Z;have a6:=hr (ix l ((lo+a2)/2)) (Zl Z Z);have u:=ZbH (a:=ix l ((lo+a2)/2)) (b:=p) Z;have v:gNn 1=Jg ():=rfl;by_cases e:cmpL (ix l ((lo+a2)/2)) p<0
    .have hB:B (lo,a2)=Jg (.inl ((lo+a2)/2+1,a2)):=by
      rw [<-a3];simp only [ZbX,hm,v];simp (disch:=omega) only [pz,u]
     rw [ZJ hB];refine ih _ _ Z Z Z k (λj a b=>?_) r;by_cases hj:j=(lo+a2)/2
     .rw [hj];exact e
     .have:=hs j ((lo+a2)/2) a Z Z;grind [Zby]
    .have hB:B (lo,a2)=Jg (.inl (lo,(lo+a2)/2)):=by
      rw [<-a3];grind [ZbX,pz]
     rw [ZJ hB];refine ih _ _ Z f Z Z o λj a b=>?_;by_cases hj:j=(lo+a2)/2
     .rw [hj];omega
     .have s:=hs ((lo+a2)/2) j Z Z b;rcases XF (cmpL (ix l j) p) 0 with c|c
      .exact absurd (Zby _ _ _ s c) e
      .exact c
   .exact ih lo a2 Z f h1 k o r
 exact aa _ 0 (Jk l) (JB _) Z Z Z (λj a b=>by omega) λj a b=>by omega
structure Nr (near:Ja):Prop where
 n:Jk near<=64
 row:∀a∈near,Jk a<=64/\∀w∈a,0<=w/\w<(Jk near:Int)
theorem Nr.ix {near:Ja} (h:Nr near) {v:Int} (e:0<=v) (h1:v<(Jk near:Int)):(Vc.ix near v).length<=64/\∀j,0<=j->j<((Vc.ix near v).length:Int)->0<=Vc.ix (Vc.ix near v) j/\Vc.ix (Vc.ix near v) j<(Jk near:Int):=by
 obtain ⟨a,b⟩:=h.row _ (Zl e h1);grind [Zl]
theorem ZGs {near:Ja} {cells:Jb} {v:Int}:(keyAt near cells v).length=(Vc.ix near v).length+1:=by
 unfold keyAt;rw [Jy,(Za1 _).length_eq,Ju]
theorem Nr.keys {near:Ja} (h:Nr near) {cells:Jb}:∀x∈rkeys near cells,Jk x<=65:=λx f=>by
 obtain ⟨i,e,a,rfl⟩:=ZU f;rw [ZdC] at a;rw [Zje e a,ZGs];have:=(h.ix e a).1;omega
theorem Zej {α e:Type} [Inhabited α] {xs:List α} {f:α->e} {k:Int} (a:0<=k) (h1:k<(Jk xs:Int)):(xs.take (k+1).toNat).map f=(xs.take k.toNat).map f++[f (Vc.ix xs k)]:=by
 grind [Zai]
theorem around {near:Ja} {cells:Jb} {v k:Int} (k0:0<=k) (k1:k<((Vc.ix near v).length:Int)):((Vc.ix near v).take (k+1).toNat).map (λw=>ix cells w)=((Vc.ix near v).take k.toNat).map (λw=>ix cells w)++[ix cells (ix (Vc.ix near v) k)]:=Zej k0 k1
theorem ZMu {keys:Ja} {i:Int} (a:0<=i) (h1:i<(Jk keys:Int)):kindsOf (keys.take (i+1).toNat)=insL (λx=>cmpL x (ix keys i)) (ix keys i) (kindsOf (keys.take i.toNat)):=by
 grind [kindsOf,Zai]
theorem ZLM {near:Ja} {cells:Jb} {k:Int} (k0:0<=k):tabl (k+1) (keyAt near cells)=tabl k (keyAt near cells)++[keyAt near cells k]:=Z5 k0
theorem Zt7 {near:Ja} {cells:Jb} (hN:Nr near) (hl:Jk cells=Jk near):Zjg near cells=Jg (rnd near cells):=by
 unfold Zjg;have hn:=hN.n
 -- the keys
 have h1:=Zj (B:=ZmA near cells) (λk=>(tabl k (keyAt near cells),k)) (i:=0) (n:=near.length) Z λk k0 k1=>by
  obtain ⟨a,b⟩:=hN.ix k0 k1;have a3:=Zj (B:=Zid near cells (tabl k (keyAt near cells)) k) (λj=>(((Vc.ix near k).take j.toNat).map (λw=>ix cells w),j)) (i:=0) (n:=(Vc.ix near k).length) Z λj f h=>by
   have hb:=b j f h;have au:(((Vc.ix near k).take j.toNat).map (λw=>ix cells w)).length<=64:=by rw [Ju,Jt];omega
   simp (disch:=omega) only [pz,Zid,around f h]
  have e0:(([]:Jb),(0:Int))=(λj:Int=>(((Vc.ix near k).take j.toNat).map (λw=>ix cells w),j)) 0:=by simp
  have ab:=ZNQ (xs:=(Vc.ix near k).map (λw=>ix cells w)) (by rw [Ju];omega);have aw:(sortI ((Vc.ix near k).map (λw=>ix cells w))).length<=64:=by rw [(Za1 _).length_eq,Ju];omega
  have ae:gApp 8 [ix cells k] (sortI ((Vc.ix near k).map (λw=>ix cells w)))=Jg (keyAt near cells k):=by
   rw [ZaE (by simp;omega) (by simp;omega)];rfl
  have ag:(tabl k (keyAt near cells)).length<=64:=by rw [Zy];omega
  have a2:loop (Zid near cells (tabl k (keyAt near cells)) k) (([]:Jb),0)=Jg (.inl (tabl (k+1) (keyAt near cells),k+1)):=by
   rw [e0,a3];refine Ze ?_;rw [ZLM k0];simp (disch:=omega) only [pz,Zid,ab,ae]
  grind [pz,ZmA]
 have e1:(([]:Ja),(0:Int))=(λk:Int=>(tabl k (keyAt near cells),k)) 0:=rfl;rw [e1,h1];show loop _ (rkeys near cells,(Jk near:Int))=_
 -- the kinds
 generalize hK:rkeys near cells=keys;have a5:Jk keys=Jk near:=by rw [<-hK,ZdC]
 have aa:∀x∈keys,Jk x<=65:=by rw [<-hK];exact hN.keys
 have h2:=Zj (B:=ZhR near keys) (λk=>(kindsOf (keys.take k.toNat),k)) (i:=0) (n:=near.length) Z λk k0 k1=>by
  have ac:=Zkn (keys.take k.toNat);rw [Jt] at ac;have hp:=ZNL (l:=kindsOf (keys.take k.toNat)) (y:=ix keys k) Z (λx u=>by
   grind [Xq,ZcN])
  grind [ZMu,pz,ZhR]
 have e2:(([]:Ja),(0:Int))=(λk:Int=>(kindsOf (keys.take k.toNat),k)) 0:=rfl
 -- the numbers
 have av:(kindsOf keys).length<=64:=by have:=Zkn keys;omega
 have o:∀x∈kindsOf keys,Jk x<=65:=λx u=>aa x (ZcN.1 u);have ad:=Zun (Ztp keys);have a6:(rnd near cells).length=Jk near:=ZcZ near cells;have h3:=Zj (B:=Zjr near keys (kindsOf keys)) (λk=>((rnd near cells).take k.toNat,k)) (i:=0) (n:=near.length) Z λk k0 k1=>by
  have hm:ix keys k∈kindsOf keys:=ZcN.2 (Zl k0 Z);obtain ⟨r,s⟩:=ZxQ hm;have a4:ix (rnd near cells) k=((kindsOf keys).idxOf (ix keys k):Int):=by
   grind [Zj7,Zje]
  generalize hI:((kindsOf keys).idxOf (ix keys k):Int)=I at r s a4;have af:0<=I:=Z;have a3:=Zj (B:=Ze8 keys (kindsOf keys) k) (λj=>((rnd near cells).take k.toNat++(if I<j then [I] else []),j)) (i:=0) (n:=(kindsOf keys).length) Z λj f h=>by
   have hc:=Za7 (a:=ix (kindsOf keys) j) (b:=ix keys k) (by have:=o _ (Zl f h);omega);have ag:((rnd near cells).take k.toNat).length<=64:=by rw [Jt];omega
   by_cases he:j=I
   .have hz:cmpL (ix (kindsOf keys) j) (ix keys k)=0:=(Zaz _ _).2 (by rw [he];exact s);rw [if_neg Z,if_pos Z,JL];simp (disch:=omega) only [pz,Ze8,hc,hz];rw [he]
   .have hz:¬cmpL (ix (kindsOf keys) j) (ix keys k)=0:=λe=>he (ZOF ad f h af r (by rw [(Zaz _ _).1 e,s]));have v:(if I<j+1 then [I] else [])=(if I<j then [I] else []):=by
     grind
    grind [pz,Ze8]
  have v:((rnd near cells).take k.toNat,(0:Int))=(λj:Int=>((rnd near cells).take k.toNat++(if I<j then [I] else []),j)) 0:=by
   grind
  have a2:loop (Ze8 keys (kindsOf keys) k) ((rnd near cells).take k.toNat,0)=Jg (.inl ((rnd near cells).take (k+1).toNat,k+1)):=by
   rw [v,a3];refine Ze ?_;rw [if_pos r,Zai k0 Z,a4];grind [pz,Ze8]
  simp (disch:=omega) only [pz,Zjr,a2]
 have e4:(([]:Jb),(0:Int))=(λk:Int=>((rnd near cells).take k.toNat,k)) 0:=rfl;have h4:loop (Zjr near keys (kindsOf keys)) (([]:Jb),0)=Jg (.inr (.inr (rnd near cells))):=by
  rw [e4,h3];refine Ze ?_;rw [Jp,<-a6,Jx,a6];simp (disch:=omega) only [pz,Zjr]
 have h5:loop (ZhR near keys) (([]:Ja),0)=Jg (.inr (rnd near cells)):=by
  rw [e2,h2];refine Ze ?_;rw [Jp,<-a5,Jx,a5];simp (disch:=omega) only [pz,ZhR,h4]
 exact Ze (by simp (disch:=omega) only [pz,ZmA,h5])
theorem ZML {a b:Jb} (h:(Jk a:Int)<=1000):Zdp a b=Jg (decide (a=b)):=by
 by_cases e:a=b
 .rw [(ZtL Z).eq e,decide_eq_true e]
 .rw [(ZtL Z).ne e,decide_eq_false e]
theorem Zz7 {near:Ja} {cells:Jb} (hN:Nr near) (hl:Jk cells=Jk near):ZkA near cells=Jg (rnd near cells):=by
 unfold ZkA;have hn:=hN.n;have ag:gMake 24 ([]:Jb) (Jk cells:Int) (Jk cells:Int)=Jg (tabl (Jk near) λi=>if i<0 then keyAt near cells i else []):=by
  rw [Zaq Z Z Z,Jp];congr 1;refine ZaP (by rw [JD,Zy];omega) λi o h=>?_;simp_all [JD,ZaZ,ZL,if_neg]
 rw [ag,Jr];have h1:=Zj (B:=ZmZ near cells) (λk=>(k,tabl (Jk near) λi=>if i<k then keyAt near cells i else [])) (i:=0) (n:=near.length) Z λk k0 k1=>by
  obtain ⟨a,b⟩:=hN.ix k0 k1;generalize hX:(tabl (Jk near) λi=>if i<k then keyAt near cells i else [])=X;have a7:Jk X=Jk near:=by rw [<-hX,Zy];omega
  have a6:=Zj (B:=Zip cells k X (ix cells k) (Vc.ix near k)) (λj=>(((Vc.ix near k).take j.toNat).map (λw=>ix cells w),j)) (i:=0) (n:=(Vc.ix near k).length) Z λj j0 j1=>by
   have r:=b j j0 j1;have au:(((Vc.ix near k).take j.toNat).map (λw=>ix cells w)).length<=64:=by rw [Ju,Jt];omega
   simp (disch:=omega) only [pz,Zip,around j0 j1]
  have e0:(([]:Jb),(0:Int))=(λj:Int=>(((Vc.ix near k).take j.toNat).map (λw=>ix cells w),j)) 0:=by simp
  have a3:=ZnP (p:=(Vc.ix near k).map (λw=>ix cells w)) (by rw [Ju];omega);have ah:(sortI ((Vc.ix near k).map (λw=>ix cells w))).length<=64:=by rw [(Za1 _).length_eq,Ju];omega
  have ab:gApp 8 [ix cells k] (sortI ((Vc.ix near k).map (λw=>ix cells w)))=Jg (keyAt near cells k):=by
   rw [ZaE (by simp;omega) (by simp;omega)];rfl
  have hset:X.set k.toNat (keyAt near cells k)=tabl (Jk near) λi=>if i<k+1 then keyAt near cells i else []:=by
   rw [<-hX];refine Zak k0 k1 (λi o h i2=>?_) ?_
   .grind
   .grind
  have ak:loop (Zip cells k X (ix cells k) (Vc.ix near k)) (([]:Jb),0)=Jg (.inl (k+1,tabl (Jk near) λi=>if i<k+1 then keyAt near cells i else [])):=by
   rw [e0,a6];refine Ze ?_;rw [<-hset];simp (disch:=omega) only [pz,Zip,a3,ab]
  grind [pz,ZmZ]
 rw [h1];have e1:(tabl (Jk near) λi=>if i<(Jk near:Int) then keyAt near cells i else [])=rkeys near cells:=ZX λi o h=>by rw [if_pos h]
 rw [e1];generalize hK:rkeys near cells=keys;have av:Jk keys=Jk near:=by rw [<-hK,ZdC]
 have a2:∀x∈keys,Jk x<=65:=by rw [<-hK];exact hN.keys
 have ad:ZmE keys=Jg keys:=by
  grind [ZmE,ZaE]
 have a3:=Zvb (q:=keys) Z (λx e=>by have:=a2 x e;omega);have ah:=Za4 keys;obtain ⟨q,q1,q2,q3,q4⟩:=ZKO (f:=λs u=>Zdp s u) (λa b ha=>ZML ha) (l:=sortRows keys) (λx e=>by have:=a2 x (Zau.1 e);omega) (ZgA keys);have hq:q=kindsOf keys:=ZJd q2 λz=>by rw [q3,Zau]
 have ae:Zh8 (sortRows keys) (λs u=>Zdp s u)=Jg (kindsOf keys):=by
  unfold Zh8;grind
 have aw:(kindsOf keys).length<=64:=by have:=Zkn keys;omega
 have v:∀x∈kindsOf keys,Jk x<=65:=λx e=>a2 x (ZcN.1 e);have aa:=Zun (Ztp keys);have y:gMake 8 (0:Int) (Jk cells:Int) (Jk cells:Int)=Jg (tabl (Jk near) λi=>if i<0 then ix (rnd near cells) i else 0):=by
  rw [Zaq Z Z Z,Jp];congr 1;refine ZaP (by rw [JD,Zy];omega) λi o h=>?_;simp_all [JD,ZaZ,ZL,if_neg]
 have h3:=Zj (B:=Zjf near cells keys (kindsOf keys)) (λk=>(k,tabl (Jk near) λi=>if i<k then ix (rnd near cells) i else 0)) (i:=0) (n:=near.length) Z λk k0 k1=>by
  have hm:ix keys k∈kindsOf keys:=ZcN.2 (Zl k0 Z);have r:=ZJJ aa Z (λx e=>by have:=v x e;omega) hm;have a5:ix (rnd near cells) k=((kindsOf keys).idxOf (ix keys k):Int):=by
   grind [Zj7,Zje]
  rw [<-a5] at r;have hset:(tabl (Jk near) λi=>if i<k then ix (rnd near cells) i else 0).set k.toNat (ix (rnd near cells) k)=tabl (Jk near) λi=>if i<k+1 then ix (rnd near cells) i else 0:=by
   grind [Zak]
  generalize (tabl (Jk near) λi=>if i<k then ix (rnd near cells) i else 0)=X at hset ⊢;have a7:Jk X=Jk near:=by
   have:=congrArg J3 hset;grind [JC,Zy]
  simp (disch:=omega) only [pz,Zjf,r,hset]
 have e3:(tabl (Jk near) λi=>if i<(Jk near:Int) then ix (rnd near cells) i else 0)=rnd near cells:=by
  have:=Zbg (rnd near cells);rw [ZcZ] at this;refine Eq.trans (ZX λi o h=>?_) this;rw [if_pos h]
 have h4:loop (Zjf near cells keys (kindsOf keys)) (0,tabl (Jk near) λi=>if i<0 then ix (rnd near cells) i else 0)=Jg (.inr (rnd near cells)):=by
  rw [h3,e3];exact Ze (by simp (disch:=omega) only [pz,Zjf])
 exact Ze (by simp (disch:=omega) only [pz,ZmZ,ad,a3,ae,y,h4])
theorem ZAr {near:Ja} (k:Nr near):∀(f:Nat) (c:Jb),Jk c=Jk near->Jk near<f+1+cnt c->loop (Ze7 near) ((cnt c:Int),rnd near c)=Jg (refM near (f+1) c)
 | 0,c,a,hf=>by
  have h1:=ZhQ a;have j:=Zd7 (rnd near c);have e:=ZcZ near c;have i:=k.n;have l:=Zrx (xs:=rnd near c) Z;rw [refM,if_pos Z];grind [Ze,pz,Ze7]
 | f+1,c,a,hf=>by
  have h1:=ZhQ a;have e:=ZcZ near c;have i:=k.n;have l:=Zrx (xs:=rnd near c) Z;rw [refM];by_cases h:cnt (rnd near c)=cnt c
  .simp_all [if_pos,Ze,pz,Ze7]
  .rw [if_neg h];have o:=Zt7 (cells:=rnd near c) k e;have hB:Ze7 near ((cnt c:Int),rnd near c)=Jg (.inl ((cnt (rnd near c):Int),rnd near (rnd near c))):=by simp (disch:=omega) only [pz,Ze7,l,o]
   rw [ZJ hB];exact ZAr k f (rnd near c) e Z
theorem ZDu {near:Ja} {c:Jb} (h:Nr near) (a:Jk c=Jk near):Zgy near c=Jg (refN near c):=by
 unfold Zgy;have e:=h.n;have j:=Zrx (xs:=c) Z;have k:=Zt7 h a;have:=ZAr h (Jk near) c a Z;simp (disch:=omega) only [pz,j,k,this];rfl
theorem ZD8 {near:Ja} (l:Nr near):∀(f:Nat) (c:Jb),Jk c=Jk near->Jk near<f+1+cnt c->loop (ZeW near) c=Jg (refM near (f+1) c)
 | 0,c,e,hf=>by
  have h1:=ZhQ e;have k:=Zd7 (rnd near c);have i:=ZcZ near c;have j:=l.n;have o:=Zmi (xs:=rnd near c) Z;have a:=Zmi (xs:=c) Z;have u:=Zz7 l e;rw [refM,if_pos Z];exact Ze (by simp (disch:=omega) only [pz,ZeW,o,a,u])
 | f+1,c,e,hf=>by
  have h1:=ZhQ e;have i:=ZcZ near c;have j:=l.n;have o:=Zmi (xs:=rnd near c) Z;have a:=Zmi (xs:=c) Z;have u:=Zz7 l e;rw [refM];by_cases h:cnt (rnd near c)=cnt c
  .rw [if_pos h];exact Ze (by simp (disch:=omega) only [pz,ZeW,o,a,u])
  .rw [if_neg h];have hB:ZeW near c=Jg (.inl (rnd near c)):=by simp (disch:=omega) only [pz,ZeW,o,a,u]
   rw [ZJ hB];exact ZD8 l f (rnd near c) i Z
theorem ZuL {near:Ja} {c:Jb} (e:Nr near) (a:Jk c=Jk near):ZjJ near c=Jg (refN near c):=ZD8 e (Jk near) c a Z
def tb (n:Int) (F:Int->Int->Bool):List (List Bool):=tabl n λa=>tabl n λb=>F a b
theorem ZkZ (n:Int) (F:Int->Int->Bool):(tb n F).length=n.toNat:=Zy
theorem tb_ix {n a:Int} {F:Int->Int->Bool} (a0:0<=a) (a1:a<n):ix (tb n F) a=tabl n λb=>F a b:=ZL a0 a1
theorem ZC0 {n a b:Int} {F:Int->Int->Bool} (a0:0<=a) (a1:a<n) (e:0<=b) (f:b<n):ix (ix (tb n F) a) b=F a b:=by rw [tb_ix a0 a1];exact ZL e f
theorem ZfA {n a:Int} {F:Int->Int->Bool} (a0:0<=a) (a1:a<n):(ix (tb n F) a).length=n.toNat:=by rw [tb_ix a0 a1,Zy]
theorem ZDt {n:Int} {F G:Int->Int->Bool} (h:∀a b,0<=a->a<n->0<=b->b<n->F a b=G a b):tb n F=tb n G:=ZX λa a0 a1=>ZX λb e f=>h a b a0 a1 e f
theorem ZkB {n A B:Int} {F:Int->Int->Bool} (a0:0<=A) (a1:A<n) (e:0<=B) (f:B<n):(tb n F).set A.toNat ((ix (tb n F) A).set B.toNat Ji)=tb n λa b=>F a b||(a==A&&b==B):=by
 unfold tb;refine Zak a0 a1 (λi h j hi=>ZX λb _ _=>?_) ?_
 .simp [hi]
 .grind [ZL,Zak]
theorem ZzS {n A B:Int} {F:Int->Int->Bool} (a0:0<=A) (a1:A<n) (e:0<=B) (f:B<n):((tb n F).set A.toNat ((ix (tb n F) A).set B.toNat Ji)).set B.toNat ((ix ((tb n F).set A.toNat ((ix (tb n F) A).set B.toNat Ji)) B).set A.toNat Ji)=tb n λa b=>F a b||((A==a&&B==b)||(A==b&&B==a)):=by
 rw [ZkB a0 a1 e f,ZkB e f a0 a1];grind
theorem ZI0 {es:List Zc} {k:Int} (k0:0<=k) (k1:k<(Jk es:Int)) (a b:Int):adj (es.take (k+1).toNat) a b=(adj (es.take k.toNat) a b||(((ix es k).A==a&&(ix es k).B==b)||((ix es k).A==b&&(ix es k).B==a))):=by
 grind [adj,Zai]
theorem Zzf {g:Zb} (l:Jk g.Colors<=64) (he:Jk g.Edges<=1000000) (hg:∀e∈g.Edges,(0<=e.A/\e.A<(Jk g.Colors:Int))/\0<=e.B/\e.B<(Jk g.Colors:Int)):Zb4 g=Jg (tb (Jk g.Colors) (adj g.Edges)):=by
 unfold Zb4;have h1:=Zj (B:=Zju g) (λk=>(tabl k (λ_=>Jn (Jk g.Colors) Jj),k)) (i:=0) (n:=g.Colors.length) Z λk k0 k1=>by
  have a4:gMake 1 Jj (Jk g.Colors:Int) (Jk g.Colors:Int)=Jg (Jn (Jk g.Colors) Jj):=by
   grind [Zaq,Jp]
  have hl:(tabl k (λ_=>Jn (Jk g.Colors) Jj)).length<=64:=by rw [Zy];omega
  have a3:tabl (k+1) (λ_=>Jn (Jk g.Colors) Jj)=_:=Z5 k0;grind [pz,Zju]
 have o:(([]:List (List Bool)),(0:Int))=(λk:Int=>(tabl k (λ_=>Jn (Jk g.Colors) Jj),k)) 0:=rfl;have r:=Zj (B:=Zfn g) (λk=>(k,tb (Jk g.Colors) (adj (g.Edges.take k.toNat)))) (i:=0) (n:=g.Edges.length) Z λk k0 k1=>by
  obtain ⟨⟨x0,x1⟩,f,h⟩:=hg (ix g.Edges k) (Zl k0 k1);have hs:=ZzS (F:=adj (g.Edges.take k.toNat)) x0 x1 f h;have ht:(tb (Jk g.Colors:Int) λa b=>adj (g.Edges.take k.toNat) a b||(((ix g.Edges k).A==a&&(ix g.Edges k).B==b)||((ix g.Edges k).A==b&&(ix g.Edges k).B==a)))=tb (Jk g.Colors) (adj (g.Edges.take (k+1).toNat)):=ZDt λa b _ _ _ _=>(ZI0 k0 k1 a b).symm;rw [ht] at hs;have j:=ZkB (F:=adj (g.Edges.take k.toNat)) x0 x1 f h;have l1:=ZkZ (Jk g.Colors:Int) (adj (g.Edges.take k.toNat));have l2:=ZfA (F:=adj (g.Edges.take k.toNat)) x0 x1;have s:(ix ((tb (Jk g.Colors:Int) (adj (g.Edges.take k.toNat))).set (ix g.Edges k).A.toNat ((ix (tb (Jk g.Colors:Int) (adj (g.Edges.take k.toNat))) (ix g.Edges k).A).set (ix g.Edges k).B.toNat Ji)) (ix g.Edges k).B).length=Jk g.Colors:=by rw [j,ZfA f h];omega
  grind [tb,adj,ix,set,JC,pz,Zfn]
 have u:tabl (Jk g.Colors:Int) (λ_=>Jn (Jk g.Colors) Jj)=tb (Jk g.Colors) (adj (g.Edges.take (0:Int).toNat)):=by
  refine ZX λi v w=>?_;grind [ZaP,JD,Zy,ZaZ,ZL,adj]
 have x:loop (Zfn g) (0,tabl (Jk g.Colors:Int) (λ_=>Jn (Jk g.Colors) Jj))=Jg (.inr (tb (Jk g.Colors) (adj g.Edges))):=by
  grind [Jp,Jx,Ze,pz,Zfn]
 grind [Ze,pz,Zju]
theorem ZGR {g:Zb} (hg:ValidG g):ZnU g=Jg (nearM g):=by
 unfold ZnU;have a8:=hg.cl;have a7:=hg.el;have ht:=Zzf (g:=g) Z Z (λe he=>by have:=Zcr hg he;exact ⟨⟨this.1,by omega⟩,by omega,this.2.2⟩);have e:Zb.mk g.Colors g.Edges=g:=rfl;rw [e,ht,Jr];have hl:=ZkZ (Jk g.Colors:Int) (adj g.Edges);rw [Jp] at hl;have h1:=Zj (B:=ZmQ (tb (Jk g.Colors) (adj g.Edges))) (λk=>(tabl k (λa=>(idP (Jk g.Colors)).filter λb=>adj g.Edges a b),k)) (i:=0) (n:=g.Colors.length) Z λk k0 k1=>by
  have a9:(tabl k (λa=>(idP (Jk g.Colors)).filter λb=>adj g.Edges a b)).length<=64:=by rw [Zy];omega
  have w:=ZfA (F:=adj g.Edges) k0 k1;have a6:=Zj (B:=Ze0 (tb (Jk g.Colors) (adj g.Edges)) (tabl k (λa=>(idP (Jk g.Colors)).filter λb=>adj g.Edges a b)) k) (λj=>((idP j).filter (λb=>adj g.Edges k b),j)) (i:=0) (n:=g.Colors.length) Z λj l o=>by
   have f:=ZC0 (F:=adj g.Edges) k0 k1 l o;have x:=Xf (λb=>adj g.Edges k b) (idP j);rw [Zaj] at x;have u:(idP (j+1)).filter (λb=>adj g.Edges k b)=(idP j).filter (λb=>adj g.Edges k b)++(if adj g.Edges k j=Ji then [j] else []):=by
    grind [idP,Z5,adj]
   cases h:adj g.Edges k j with
   | true=>
    rw [h] at f u;rw [if_pos rfl] at u;generalize tb (Jk g.Colors:Int) (adj g.Edges)=X at f hl w ⊢;simp (disch:=omega) only [pz,Ze0,f,u]
   | false=>
    rw [h] at f u;rw [if_neg (by simp),JL] at u;grind [tb,adj,pz,Ze0]
  have s:(([]:Jb),(0:Int))=(λj:Int=>((idP j).filter (λb=>adj g.Edges k b),j)) 0:=rfl;have u:tabl (k+1) (λa=>(idP (Jk g.Colors)).filter λb=>adj g.Edges a b)=tabl k (λa=>(idP (Jk g.Colors)).filter λb=>adj g.Edges a b)++[(idP (Jk g.Colors)).filter λb=>adj g.Edges k b]:=Z5 k0;have a3:loop (Ze0 (tb (Jk g.Colors) (adj g.Edges)) (tabl k (λa=>(idP (Jk g.Colors)).filter λb=>adj g.Edges a b)) k) (([]:Jb),0)=Jg (.inl (tabl (k+1) (λa=>(idP (Jk g.Colors)).filter λb=>adj g.Edges a b),k+1)):=by
   grind [Ze,tb,adj,pz,Ze0]
  grind [pz,ZmQ]
 have r:(([]:Ja),(0:Int))=(λk:Int=>(tabl k (λa=>(idP (Jk g.Colors)).filter λb=>adj g.Edges a b),k)) 0:=rfl;rw [r,h1];exact Ze (by simp (disch:=omega) only [pz,ZmQ];rfl)
theorem Zq7 {g:Zb} (hg:ValidG g):Nr (nearM g):=by
 have h:=hg.cl;have j:=Zno g;refine ⟨by omega,λa e=>?_⟩;obtain ⟨v,v0,v1,rfl⟩:=ZU e;grind [ZN2,ZPg]
def nb (es:List Zc) (v:Int):Jb:=es.filterMap λe=>if e.A=v then Jg e.B else if e.B=v then Jg e.A else none
theorem Zyn {es:List Zc} {k:Int} (k0:0<=k) (k1:k<(Jk es:Int)) (v:Int):nb (es.take (k+1).toNat) v=nb (es.take k.toNat) v++(if (ix es k).A=v then [(ix es k).B] else if (ix es k).B=v then [(ix es k).A] else []):=by
 grind [nb,Zai,ix]
theorem ZrB (es:List Zc) (v:Int):(nb es v).length<=Jk es:=List.length_filterMap_le _ _
theorem ZOL {g:Zb} (hg:ValidG g) {v:Int} (v0:0<=v) (v1:v<(Jk g.Colors:Int)):sortI (nb g.Edges v)=(idP (Jk g.Colors)).filter λb=>adj g.Edges v b:=by
 refine ZlD ((Za1 _).trans ?_) (Ziu _) (((Zqj _).filter _));rw [List.perm_ext_iff_of_nodup]
 .intro x;unfold nb;rw [List.mem_filterMap,Xr,Z2,ZBb];constructor
  .rintro ⟨e,k,h⟩;have i:=Zcr hg k;grind
  .grind
 .unfold nb List.Nodup;rw [List.pairwise_filterMap];refine (ZLO hg).imp_of_mem λ{a b} l f u x j y w o=>?_;have va:=Zcr hg l;have vb:=Zcr hg f;grind [eLess]
 .grind [Zg0]
theorem ZHV {g:Zb} (hg:ValidG g):ZmV g=Jg (nearM g):=by
 unfold ZmV;have a2:=hg.cl;have x:=hg.el;have w:gMake 24 ([]:Jb) (Jk g.Colors:Int) (Jk g.Colors:Int)=Jg (tabl (Jk g.Colors) λv=>nb (g.Edges.take (0:Int).toNat) v):=by
  rw [Zaq Z Z Z,Jp];congr 1;refine ZaP (by rw [JD,Zy];omega) λi a e=>?_;rw [JD] at e;rw [ZaZ a Z,ZL a Z];rfl
 rw [w,Jr];have h1:=Zj (B:=ZkL g) (λk=>(k,tabl (Jk g.Colors) λv=>nb (g.Edges.take k.toNat) v)) (i:=0) (n:=g.Edges.length) Z λk k0 k1=>by
  obtain ⟨a0,ab,f⟩:=Zcr hg (Zl k0 k1);have s1:(tabl (Jk g.Colors) λv=>nb (g.Edges.take k.toNat) v).set (ix g.Edges k).A.toNat (nb (g.Edges.take k.toNat) (ix g.Edges k).A++[(ix g.Edges k).B])=tabl (Jk g.Colors) λv=>if v=(ix g.Edges k).A then nb (g.Edges.take k.toNat) v++[(ix g.Edges k).B] else nb (g.Edges.take k.toNat) v:=
   Zak a0 Z (λi a e hi=>by rw [if_neg hi]) (by rw [if_pos rfl])
  have s2:(tabl (Jk g.Colors) λv=>if v=(ix g.Edges k).A then nb (g.Edges.take k.toNat) v++[(ix g.Edges k).B] else nb (g.Edges.take k.toNat) v).set (ix g.Edges k).B.toNat (nb (g.Edges.take k.toNat) (ix g.Edges k).B++[(ix g.Edges k).A])=tabl (Jk g.Colors) λv=>nb (g.Edges.take (k+1).toNat) v:=by
   refine Zak Z f (λi a e hi=>?_) ?_
   .grind [Zyn,ix]
   .rw [Zyn k0 k1,if_neg Z,if_pos rfl]
  have x1:ix (tabl (Jk g.Colors:Int) λv=>nb (g.Edges.take k.toNat) v) (ix g.Edges k).A=nb (g.Edges.take k.toNat) (ix g.Edges k).A:=ZL a0 Z;have x2:ix (tabl (Jk g.Colors:Int) λv=>if v=(ix g.Edges k).A then nb (g.Edges.take k.toNat) v++[(ix g.Edges k).B] else nb (g.Edges.take k.toNat) v) (ix g.Edges k).B=nb (g.Edges.take k.toNat) (ix g.Edges k).B:=by rw [ZL Z f,if_neg Z]
  have n1:=ZrB (g.Edges.take k.toNat) (ix g.Edges k).A;have n2:=ZrB (g.Edges.take k.toNat) (ix g.Edges k).B;rw [Jt] at n1 n2;have l1:(tabl (Jk g.Colors:Int) λv=>nb (g.Edges.take k.toNat) v).length=Jk g.Colors:=by rw [Zy];omega
  have l2:(tabl (Jk g.Colors:Int) λv=>if v=(ix g.Edges k).A then nb (g.Edges.take k.toNat) v++[(ix g.Edges k).B] else nb (g.Edges.take k.toNat) v).length=Jk g.Colors:=by rw [Zy];omega
  generalize (tabl (Jk g.Colors:Int) λv=>nb (g.Edges.take k.toNat) v)=X at s1 x1 l1 ⊢;generalize (tabl (Jk g.Colors:Int) λv=>if v=(ix g.Edges k).A then nb (g.Edges.take k.toNat) v++[(ix g.Edges k).B] else nb (g.Edges.take k.toNat) v)=Jf at s1 s2 x2 l2;simp (disch:=omega) only [pz,ZkL,x1,s1,x2,s2]
 rw [h1,Jp,Jx];have l0:(tabl (Jk g.Colors:Int) λv=>nb g.Edges v).length=Jk g.Colors:=by rw [Zy];omega
 have h:=Zj (B:=ZiS (tabl (Jk g.Colors) λv=>nb g.Edges v)) (λk=>(k,tabl (Jk g.Colors) λv=>if v<k then (idP (Jk g.Colors)).filter (λb=>adj g.Edges v b) else nb g.Edges v)) (i:=0) (n:=g.Colors.length) Z λk k0 k1=>by
  have s1:(tabl (Jk g.Colors) λv=>if v<k then (idP (Jk g.Colors)).filter (λb=>adj g.Edges v b) else nb g.Edges v).set k.toNat ((idP (Jk g.Colors)).filter λb=>adj g.Edges k b)=tabl (Jk g.Colors) λv=>if v<k+1 then (idP (Jk g.Colors)).filter (λb=>adj g.Edges v b) else nb g.Edges v:=by
   refine Zak k0 k1 (λi a e hi=>?_) ?_
   .grind
   .grind
  have x1:ix (tabl (Jk g.Colors:Int) λv=>if v<k then (idP (Jk g.Colors)).filter (λb=>adj g.Edges v b) else nb g.Edges v) k=nb g.Edges k:=by rw [ZL k0 k1,if_neg Z]
  have j:=ZrB g.Edges k;have u:=ZnP (p:=nb g.Edges k) Z;rw [ZOL hg k0 k1] at u;have l1:(tabl (Jk g.Colors:Int) λv=>if v<k then (idP (Jk g.Colors)).filter (λb=>adj g.Edges v b) else nb g.Edges v).length=Jk g.Colors:=by rw [Zy];omega
  grind [tabl,idP,adj,nb,Jf,pz,ZiS]
 have l:(tabl (Jk g.Colors:Int) λv=>nb g.Edges v)=tabl (Jk g.Colors) λv=>if v<0 then (idP (Jk g.Colors)).filter (λb=>adj g.Edges v b) else nb g.Edges v:=ZX λi a e=>by rw [if_neg Z]
 have o:(tabl (Jk g.Colors:Int) λv=>if v<(Jk g.Colors:Int) then (idP (Jk g.Colors)).filter (λb=>adj g.Edges v b) else nb g.Edges v)=nearM g:=ZX λi a e=>by rw [if_pos e]
 have r:loop (ZiS (tabl (Jk g.Colors) λv=>nb g.Edges v)) (0,tabl (Jk g.Colors) λv=>nb g.Edges v)=Jg (.inr (nearM g)):=by
  grind [tabl,nb,Jf,Ze,pz,ZiS]
 grind [Ze,pz,ZkL]
theorem compareE (a b:Zc):Zbp a b=Jg (eC a b):=by
 unfold Zbp;simp only [Zv4,or_ok,Jr];rfl
theorem eC_ok:CmpOk eC where
 swo:=by
  have t:∀x y,ltC eC x y=Ji↔eLess x y:=λx y=>by unfold ltC;rw [decide_eq_true_eq,eC_lt]
  have f:∀x y,ltC eC x y=Jj↔¬eLess x y:=λx y=>by rw [<-t,Bool.not_eq_true]
  exact ⟨λx=>(f x x).2 (by unfold eLess;omega),λx y z h k=>(t x z).2 (Znh _ _ _ ((t _ _).1 h) ((t _ _).1 k)),λx y z h k=>(f x z).2 (by
   grind [eLess])⟩
 tot:=λx y h k=>by
  unfold ltC at h k;simp only [decide_eq_false_iff_not] at h k;rw [eC_lt] at h k;unfold eLess at h k;cases x;cases y;grind
def mkE (e:Zc):Zc:=⟨min e.A e.B,max e.A e.B⟩
theorem ZwE {es:List Zc} (hl:Jk es<=1000000):Zhr es=Jg (srtE (es.map mkE)):=by
 unfold Zhr;have h1:=Zj (B:=ZlC es) (λk=>((es.take k.toNat).map mkE,k)) (i:=0) (n:=es.length) Z λk k0 k1=>by
  have a4:((es.take k.toNat).map mkE).length<=1000000:=by rw [Ju,Jt];omega
  have hm:((es.take (k+1).toNat).map mkE)=(es.take k.toNat).map mkE++[mkE (ix es k)]:=Zej k0 k1;have s:Zc.mk (if (ix es k).B<(ix es k).A then (ix es k).B else (ix es k).A) (if (ix es k).B>(ix es k).A then (ix es k).B else (ix es k).A)=mkE (ix es k):=by
   grind [mkE]
  grind [pz,ZlC]
 have e:(([]:List Zc),(0:Int))=(λk:Int=>((es.take k.toNat).map mkE,k)) 0:=rfl;rw [e,h1,Jp,Jx];have hf:(λa c=>(Zbp a c).getD 0)=eC:=by funext a c;rw [compareE];rfl
 have hs:Zhg (es.map mkE) (λf j=>Zbp f j)=Jg (sortC eC (es.map mkE)):=by
  unfold Zhg;rw [if_pos ⟨⟨eC,compareE,eC_ok⟩,by rw [Ju];omega⟩,hf]
 have w:(sortC eC (es.map mkE)).Perm (es.map mkE):=List.mergeSort_perm _ _;have a2:(sortC eC (es.map mkE)).Pairwise λa b=>¬eLess b a:=by
  have:=List.pairwise_mergeSort (le:=λx y=>!ltC eC y x) (λa b c h k=>by
   grind [JV,ltC,decide_eq_false_iff_not,eC_lt,eLess]) (λa b=>by
   simp only [Bool.or_eq_true,JV,ltC,decide_eq_false_iff_not,eC_lt];unfold eLess;omega) (es.map mkE)
  refine List.Pairwise.imp (λ{a b} h=>?_) this;grind [ltC,eC_lt]
 obtain ⟨q,l,q2,o⟩:=cptGL (eqb:=λ(a b:Zc)=>a.A==b.A&&a.B==b.B) (Le:=λa b=>¬eLess b a) (R:=eLess) (λa b=>by
   cases a;cases b;simp) (λa b h k=>by
   cases a;cases b;unfold eLess at *;simp only [Zc.mk.injEq,ne_eq] at *;omega) Znh a2
 have u:Zhu (sortC eC (es.map mkE))=Jg (srtE (es.map mkE)):=by
  have r:q=srtE (es.map mkE):=Znx q2 λz=>by rw [o,w.mem_iff]
  unfold Zhu;rw [if_pos (by rw [w.length_eq,Ju];omega),l,r]
 grind [Ze,pz,ZlC]
theorem ZBm {g:Zb} {p:Jb} (hp:Vc.Perm p (Jk g.Colors)) {k:Int} (k0:0<=k) (k1:k<(Jk g.Colors:Int)):
  (tabl (Jk g.Colors) λi=>if (p.idxOf i:Int)<k then ix g.Colors (p.idxOf i:Int) else 0).set (ix p k).toNat (ix g.Colors k)=tabl (Jk g.Colors) λi=>if (p.idxOf i:Int)<k+1 then ix g.Colors (p.idxOf i:Int) else 0:=by
 have l:=hp.len;have h:=hp.rng _ (Zl (xs:=p) k0 Z);refine Zak h.1 h.2 (λi a f hi=>?_) ?_
 .have j:(p.idxOf i:Int)≠k:=λe=>hi (by
   have:=(ZgV (ZqJ hp a f)).2;grind)
  by_cases c:(p.idxOf i:Int)<k
  .rw [if_pos c,if_pos Z]
  .rw [if_neg c,if_neg Z]
 .rw [ZKw hp.nd k0 Z,if_pos Z]
theorem ZBL {g:Zb} {p:Jb}:(tabl (Jk g.Colors) λi=>if (p.idxOf i:Int)<0 then ix g.Colors (p.idxOf i:Int) else 0)=Jn (Jk g.Colors) 0:=by
 refine ZaP (by rw [JD,Zy];omega) λi a e=>?_;simp_all [Zy,ZaZ,ZL,if_neg]
theorem ZDp {g:Zb} {p:Jb} (hp:Vc.Perm p (Jk g.Colors)):(tabl (Jk g.Colors) λi=>if (p.idxOf i:Int)<(Jk g.Colors:Int) then ix g.Colors (p.idxOf i:Int) else 0)=colM g p:=by
 have h:=hp.len;unfold colM;rw [h];refine ZX λi a e=>?_;have:=(ZgV (ZqJ hp a e)).1;omega
def mvE (p:Jb) (e:Zc):Zc:=⟨ix p e.A,ix p e.B⟩
theorem mv_mk (p:Jb) (es:List Zc):(es.map (mvE p)).map mkE=es.map (mapE p):=by rw [Xb];rfl
theorem ZFO {g:Zb} (hg:ValidG g) {p:Jb} (hp:Vc.Perm p (Jk g.Colors)):ZiA g p=Jg (relab g p):=by
 unfold ZiA;have w:=hg.cl;have u:=hg.el;have hl:=hp.len;have l:gMake 8 (0:Int) (Jk g.Colors:Int) (Jk g.Colors:Int)=Jg (tabl (Jk g.Colors) λi=>if (p.idxOf i:Int)<0 then ix g.Colors (p.idxOf i:Int) else 0):=by
  rw [Zaq Z Z Z,Jp,ZBL]
 rw [l,Jr];have h1:=Zj (B:=ZmF g p) (λk=>(k,tabl (Jk g.Colors) λi=>if (p.idxOf i:Int)<k then ix g.Colors (p.idxOf i:Int) else 0)) (i:=0) (n:=g.Colors.length) Z λk k0 k1=>by
  have hs:=ZBm hp k0 k1;have x:=hp.rng _ (Zl (xs:=p) k0 Z);grind [tabl,ix,Zy,pz,ZmF]
 rw [h1,ZDp hp];have a:=Zj (B:=Zi3 g p (colM g p)) (λk=>(k,(g.Edges.take k.toNat).map (mvE p))) (i:=0) (n:=g.Edges.length) Z λk k0 k1=>by
  have f:=Zcr hg (Zl k0 k1);have o:((g.Edges.take k.toNat).map (mvE p)).length<=512:=by rw [Ju,Jt];omega
  have hm:((g.Edges.take (k+1).toNat).map (mvE p))=(g.Edges.take k.toNat).map (mvE p)++[Zc.mk (ix p (ix g.Edges k).A) (ix p (ix g.Edges k).B)]:=Zej k0 k1;grind [pz,Zi3]
 have e:((0:Int),([]:List Zc))=(λk:Int=>(k,(g.Edges.take k.toNat).map (mvE p))) 0:=rfl;have j:=ZwE (es:=g.Edges.map (mvE p)) (by rw [Ju];omega);rw [mv_mk] at j;have h:loop (Zi3 g p (colM g p)) (0,([]:List Zc))=Jg (.inr (relab g p)):=by
  rw [e,a,Jp,Jx];exact Ze (by simp (disch:=omega) only [pz,Zi3,j];rfl)
 grind [Ze,pz,ZmF]
def rwE (n:Int) (F:Int->Int->Bool) (a:Int):List Zc:=((idP n).filter λb=>decide (a<b)&&F a b).map λb=>⟨a,b⟩
def ofE (n k:Int) (F:Int->Int->Bool):List Zc:=(idP k).flatMap (rwE n F)
theorem ZDb (n:Int) (F:Int->Int->Bool) (a:Int):(rwE n F a).length<=n.toNat:=by
 grind [rwE,Ju,Xf,decide,idP,Zaj]
theorem Zy5 {n k:Int} {F:Int->Int->Bool} (h:0<=k):ofE n (k+1) F=ofE n k F++rwE n F k:=by
 simp_all [ofE,idP,Z5,List.flatMap_append]
theorem ZLZ {F:Int->Int->Bool} {a k:Int} (h:0<=k):rwE (k+1) F a=rwE k F a++(if a<k/\F a k=Ji then [⟨a,k⟩] else []):=by
 grind [rwE,idP,Z5]
theorem ZFY {F:Int->Int->Bool} {a:Int} (h:0<=a):rwE (a+1) F a=[]:=by
 grind [rwE,idP,decide,List.filter_eq_nil_iff,Z2]
theorem ZG1 {n:Int} {F:Int->Int->Bool} {e:Zc}:e∈ofE n n F↔(0<=e.A/\e.A<n)/\(0<=e.B/\e.B<n)/\e.A<e.B/\F e.A e.B=true:=by
 unfold ofE rwE;rw [List.mem_flatMap];constructor
 .rintro ⟨a,l,k⟩;obtain ⟨b,f,rfl⟩:=List.mem_map.1 k;simp_all [Xr,Jz,decide_eq_true_eq,Z2]
 .rintro ⟨h1,h,i,j⟩;refine ⟨e.A,Z2.2 h1,List.mem_map.2 ⟨e.B,?_,rfl⟩⟩;simp_all [Xr,Jz,decide_eq_true_eq,Z2]
theorem ZcI (n:Int):(idP n).Pairwise (·<·):=by
 have h:=List.Pairwise.and (Zqj n) (Zg0 n);grind
theorem ZGz (n:Int) (F:Int->Int->Bool):(ofE n n F).Pairwise eLess:=by
 unfold ofE;rw [List.pairwise_flatMap];refine ⟨λa l=>?_,(ZcI n).imp λ{a b} k x e y j=>?_⟩
 .unfold rwE;rw [List.pairwise_map];exact ((ZcI n).filter _).imp λh=>.inr ⟨rfl,h⟩
 .unfold rwE at e j;obtain ⟨_,_,rfl⟩:=List.mem_map.1 e;obtain ⟨_,_,rfl⟩:=List.mem_map.1 j;exact .inl k
theorem ZJf {cs:Jb} {F:Int->Int->Bool} (u:Jk cs<=64):Zez cs (tb (Jk cs) F)=Jg ⟨cs,ofE (Jk cs) (Jk cs) F⟩:=by
 unfold Zez;rw [Zld Z,Jr];have hl:=ZkZ (Jk cs:Int) F;rw [Jp] at hl;obtain ⟨⟨j,a2⟩,⟨h1,v,w⟩,x⟩:=ZfJ (B:=ZiH cs (tb (Jk cs) F) cs) (λk q=>q.1=k/\q.2=ofE (Jk cs) k F/\(Jk q.2:Int)<=64*k) (i:=0) (n:=cs.length) Z (s:=((0:Int),([]:List Zc))) ⟨rfl,rfl,by simp⟩ λk q k0 k1 ⟨h,l,o⟩=>by
  obtain ⟨j,a2⟩:=q;dsimp only at h l o;subst h;have a5:=ZfA (F:=F) k0 k1;have a8:=Zj (B:=Zet cs (tb (Jk cs) F) j) (λb=>(b,a2++rwE b F j)) (i:=j+1) (n:=cs.length) Z λb y r=>by
   have f:=ZC0 (F:=F) k0 k1 (show 0<=b by omega) r;have a9:=ZDb b F j;have a3:=ZLZ (F:=F) (a:=j) (k:=b) Z;have a6:(a2++rwE b F j).length<=10000:=by rw [Jo];omega
   cases e:F j b with
   | true=>
    rw [e] at f;rw [if_pos ⟨by omega,e⟩] at a3;generalize tb (Jk cs:Int) F=X at f hl a5 ⊢;rw [a3,<-Js];generalize a2++rwE b F j=Jf at a6 ⊢;grind [pz,Zet]
   | false=>
    rw [e] at f;rw [if_neg (by simp [e]),JL] at a3;grind [tb,pz,Zet]
  have e0:(j+1,a2)=(λb=>(b,a2++rwE b F j)) (j+1):=by
   grind [ZFY]
  have a4:loop (Zet cs (tb (Jk cs) F) j) (j+1,a2)=Jg (.inl (j+1,ofE (Jk cs) (j+1) F)):=by
   grind [Ze,Zy5,pz,Zet]
  refine ⟨(j+1,ofE (Jk cs) (j+1) F),by simp (disch:=omega) only [pz,ZiH,a4],rfl,rfl,?_⟩;grind [Zy5,Jo,ZDb]
 grind [Ze,pz,ZiH]
theorem ZOl {g:Zb} (hg:ValidG g) {p:Jb} (hp:Vc.Perm p (Jk g.Colors)):Zjx g p=Jg (relab g p):=by
 unfold Zjx;have aa:=hg.cl;have a9:=hg.el;have hl:=hp.len;have a6:gMake 8 (0:Int) (Jk p:Int) (Jk p:Int)=Jg (tabl (Jk g.Colors) λi=>if (p.idxOf i:Int)<0 then ix g.Colors (p.idxOf i:Int) else 0):=by
  rw [Zaq Z Z Z,Jp,ZBL];grind
 rw [a6,Jr];have h1:=Zj (B:=Zob g p) (λk=>(k,tabl (Jk g.Colors) λi=>if (p.idxOf i:Int)<k then ix g.Colors (p.idxOf i:Int) else 0)) (i:=0) (n:=g.Colors.length) Z λk k0 k1=>by
  have hs:=ZBm hp k0 k1;have hr:=hp.rng _ (Zl (xs:=p) k0 Z);grind [tabl,ix,Zy,pz,Zob]
 rw [h1,ZDp hp];have a5:(colM g p).length=Jk g.Colors:=by rw [Zxy];omega
 have a3:=Zzf (g:=⟨colM g p,[]⟩) (by show (colM g p).length<=64;omega) (by simp) (λe he=>by simp at he);have a3:Zb4 ⟨colM g p,[]⟩=Jg (tb (Jk g.Colors) (adj ((g.Edges.take (0:Int).toNat).map (mvE p)))):=by
  grind
 have s:=Zj (B:=ZgW g p (colM g p)) (λk=>(k,tb (Jk g.Colors) (adj ((g.Edges.take k.toNat).map (mvE p))))) (i:=0) (n:=g.Edges.length) Z λk k0 k1=>by
  have u:=Zcr hg (Zl k0 k1);obtain ⟨x0,x1⟩:=hp.rng _ (Zl (xs:=p) (i:=(ix g.Edges k).A) Z Z);obtain ⟨j,l⟩:=hp.rng _ (Zl (xs:=p) (i:=(ix g.Edges k).B) Z Z);have hs:=ZzS (F:=adj ((g.Edges.take k.toNat).map (mvE p))) x0 x1 j l;have ht:(tb (Jk g.Colors:Int) λa b=>adj ((g.Edges.take k.toNat).map (mvE p)) a b||((ix p (ix g.Edges k).A==a&&ix p (ix g.Edges k).B==b)||(ix p (ix g.Edges k).A==b&&ix p (ix g.Edges k).B==a)))=tb (Jk g.Colors) (adj ((g.Edges.take (k+1).toNat).map (mvE p))):=ZDt λa b _ _ _ _=>by
   grind [Zej,adj,mvE]
  rw [ht] at hs;have o:=ZkB (F:=adj ((g.Edges.take k.toNat).map (mvE p))) x0 x1 j l;have l1:=ZkZ (Jk g.Colors:Int) (adj ((g.Edges.take k.toNat).map (mvE p)));have l2:=ZfA (F:=adj ((g.Edges.take k.toNat).map (mvE p))) x0 x1;have v:(ix ((tb (Jk g.Colors:Int) (adj ((g.Edges.take k.toNat).map (mvE p)))).set (ix p (ix g.Edges k).A).toNat ((ix (tb (Jk g.Colors:Int) (adj ((g.Edges.take k.toNat).map (mvE p)))) (ix p (ix g.Edges k).A)).set (ix p (ix g.Edges k).B).toNat Ji)) (ix p (ix g.Edges k).B)).length=Jk g.Colors:=by rw [o,ZfA j l];omega
  generalize tb (Jk g.Colors:Int) (adj ((g.Edges.take k.toNat).map (mvE p)))=X at hs l1 l2 v ⊢;have w:(X.set (ix p (ix g.Edges k).A).toNat ((ix X (ix p (ix g.Edges k).A)).set (ix p (ix g.Edges k).B).toNat Ji)).length=Jk g.Colors:=by rw [JC];omega
  simp (disch:=omega) only [pz,ZgW];rw [hs]
 have a2:=ZJf (cs:=colM g p) (F:=adj (g.Edges.map (mvE p))) Z;rw [a5] at a2;have hE:ofE (Jk g.Colors:Int) (Jk g.Colors) (adj (g.Edges.map (mvE p)))=srtE (g.Edges.map (mapE p)):=by
  refine Znx (ZGz _ _) λz=>?_;rw [ZG1,ZBb,List.mem_map];constructor
  .rintro ⟨_,_,r,e,he,h⟩;obtain ⟨d,f,rfl⟩:=List.mem_map.1 he;refine ⟨d,f,?_⟩;unfold mapE;have h:(ix p d.A=z.A/\ix p d.B=z.B)\/(ix p d.A=z.B/\ix p d.B=z.A):=h;cases z
   (simp_all;omega)
  .rintro ⟨d,f,rfl⟩;have u:=Zcr hg f;have x:=hp.rng _ (Zl (xs:=p) (i:=d.A) Z Z);have r2:=hp.rng _ (Zl (xs:=p) (i:=d.B) Z Z);have ab:ix p d.A≠ix p d.B:=λh=>by have:=Zli hp.nd Z Z Z Z h;omega
   unfold mapE;refine ⟨by dsimp only;omega,by dsimp only;omega,by dsimp only;omega,mvE p d,List.mem_map_of_mem f,?_⟩;show (ix p d.A=min _ _/\ix p d.B=max _ _)\/(ix p d.A=max _ _/\ix p d.B=min _ _);omega
 rw [hE] at a2;have r:loop (ZgW g p (colM g p)) (0,tb (Jk g.Colors) (adj ((g.Edges.take (0:Int).toNat).map (mvE p))))=Jg (.inr (relab g p)):=by
  rw [s,Jp,Jx];exact Ze (by simp (disch:=omega) only [pz,ZgW,a2];rfl)
 exact Ze (by simp (disch:=omega) only [pz,Zob,a3,r])
theorem ZvD {es:List Zc} {k:Int} (k0:0<=k) (k1:k<(Jk es:Int)):flatE (es.take (k+1).toNat)=flatE (es.take k.toNat)++[(ix es k).A,(ix es k).B]:=by
 grind [flatE,Zai]
theorem ZeR (es:List Zc):(flatE es).length=2*Jk es:=by
 induction es with
 | nil=>rfl
 | cons e es h=>unfold flatE at *;rw [List.flatMap_cons,Jo,h];simp;omega
theorem Zv2 {g:Zb} (j:Jk g.Edges<=1000000):Zjl g=Jg (flatE g.Edges):=by
 unfold Zjl;have h1:=Zj (B:=ZkS g) (λk=>(flatE (g.Edges.take k.toNat),k)) (i:=0) (n:=g.Edges.length) Z λk k0 k1=>by
  have e:=ZeR (g.Edges.take k.toNat);rw [Jt] at e;have h:gApp 8 (flatE (g.Edges.take k.toNat)) [(ix g.Edges k).A,(ix g.Edges k).B]=Jg (flatE (g.Edges.take (k+1).toNat)):=by
   grind [ZaE,ZvD]
  grind [pz,ZkS]
 have a:(([]:Jb),(0:Int))=(λk:Int=>(flatE (g.Edges.take k.toNat),k)) 0:=rfl;grind [Jp,Jx,Ze,pz,ZkS]
theorem ZNv {es:List Zc} (j:Jk es<=1000000):ZhM es=Jg (flatE es):=by
 unfold ZhM;have h1:=Zj (B:=Zoj es) (λk=>(flatE (es.take k.toNat),k)) (i:=0) (n:=es.length) Z λk k0 k1=>by
  have e:=ZeR (es.take k.toNat);rw [Jt] at e;have h:gApp 8 (flatE (es.take k.toNat)) [(ix es k).A,(ix es k).B]=Jg (flatE (es.take (k+1).toNat)):=by
   grind [ZaE,ZvD]
  grind [pz,Zoj]
 have a:(([]:Jb),(0:Int))=(λk:Int=>(flatE (es.take k.toNat),k)) 0:=rfl;grind [Jp,Jx,Ze,pz,Zoj]
theorem ZMw {g h:Zb} (f:Jk g.Colors<=1000000) (h1:Jk g.Edges<=1000000) (e:Jk h.Edges<=1000000):ZhY g h=Jg (cmpG g h):=by
 unfold ZhY cmpG;have i:Zb.mk g.Colors g.Edges=g:=rfl;have j:Zb.mk h.Colors h.Edges=h:=rfl;have c1:=Za7 (a:=g.Colors) (b:=h.Colors) Z;have k:=ZeR g.Edges;have c2:=Za7 (a:=flatE g.Edges) (b:=flatE h.Edges) Z;have k1:=Zv2 (g:=g) h1;have k2:=Zv2 (g:=h) e;by_cases c:cmpL g.Colors h.Colors=0
 .simp_all
 .grind
theorem ZNM {g h:Zb} (a:Jk g.Colors<=1000000) (h1:Jk g.Edges<=1000000) (e:Jk h.Edges<=1000000):Zh5 g h=Jg (cmpG g h):=by
 grind [Zh5,cmpG,ZbH,ZeR,flatE,ZNv,cmpL]
def spS (g:Zb) (near:Ja) (B:Int) (s:CSt):ZH:=⟨g,near,s.best,s.perms,s.nodes,s.leaves,B,s.full⟩
def ipS (g:Zb) (near:Ja) (B:Int) (s:CSt):ZI:=⟨⟨B-s.nodes,s.full⟩,g,near,s.nodes,s.leaves,s.best,s.perms⟩
theorem ZlN {g:Zb} {p:Jb} {s:CSt} (h:s.perms=[]\/cmpG (relab g p) s.best<0):leafM g p s=⟨relab g p,[p],s.nodes,s.leaves+1,s.full⟩:=by
 unfold leafM;grind
theorem ZDM {g:Zb} {p:Jb} {s:CSt} (h:s.perms≠[]) (a:cmpG (relab g p) s.best=0):leafM g p s=⟨s.best,s.perms++[p],s.nodes,s.leaves+1,s.full⟩:=by
 unfold leafM;grind
theorem Zwa {g:Zb} {p:Jb} {s:CSt} (h:s.perms≠[]) (a:0<cmpG (relab g p) s.best):leafM g p s=⟨s.best,s.perms,s.nodes,s.leaves+1,s.full⟩:=by
 unfold leafM;grind
theorem ZxL {g:Zb} (hg:ValidG g) {s:CSt} (a:Bst g s) (h:s.perms≠[]):Jk s.best.Edges<=512:=by
 obtain ⟨p,hp,e⟩:=a h;rw [e];have:=(Znt hg hp).el;omega
section
variable {g:Zb} {B:Int} (hg:ValidG g) (hB:B<=20000)
include hg hB
theorem ZNc {rf:ZH->Jb->Jm ZH} {cells:Jb} {s:CSt} {K:Int} (hp:Vc.Perm cells (Jk g.Colors)) (ht:tgt cells<0) (hK:K<=1000) (hi:CInv B K s) (i:Bst g s):
  q_spec_l22Find_run rf (spS g (nearM g) B s) cells=Jg (spS g (nearM g) B (leafM g cells s)):=by
 have a9:=hg.cl;have a7:=hg.el;have hl:=hp.len;have k:=hi.le;have l:=hi.pl;have o:=hi.nB;have r:=hi.n0;have w:=ZwF (cells:=cells) Z (λx j=>(hp.rng x j).1);have hr:Zjx (Zb.mk g.Colors g.Edges) cells=Jg (relab g cells):=ZOl hg hp;have e:=Znt hg hp;have aa:=e.cl;have a6:=e.el;have a2:=Zld (p:=cells) Z;unfold q_spec_l22Find_run spS;dsimp only;by_cases u:s.perms=[]
 .rw [ZlN (.inl u)];have f:(Jk s.perms:Int)=0:=by rw [u];rfl
  have a3:gApp 24 ([]:Ja) [cells]=Jg [cells]:=rfl;simp (disch:=omega) only [pz,w,hr,ZdF,Zd0,a2,a3]
 .have f:0<Jk s.perms:=List.length_pos_iff.2 u;have a8:=ZxL hg i u;have a:ZhY (Zb.mk (relab g cells).Colors (relab g cells).Edges) (Zb.mk s.best.Colors s.best.Edges)=Jg (cmpG (relab g cells) s.best):=ZMw (g:=relab g cells) (h:=s.best) Z Z Z;have a3:gApp 24 ([]:Ja) [cells]=Jg [cells]:=rfl;rcases J7 (cmpG (relab g cells) s.best) 0 with c|c|c
  .rw [ZlN (.inr c)];simp (disch:=omega) only [pz,w,hr,ZdF,Zd0,a2,a,a3]
  .rw [ZDM u c];simp (disch:=omega) only [pz,w,hr,ZdF,Zd0,a2,a,c]
  .rw [Zwa u c];simp (disch:=omega) only [pz,w,hr,ZdF,Zd0,a2,a]
theorem ZJm {cells:Jb} {s:CSt} {K:Int} (hp:Vc.Perm cells (Jk g.Colors)) (hK:K<=1000) (hi:CInv B K s) (i:Bst g s):
  ZgN (ipS g (nearM g) B s) cells=Jg (ipS g (nearM g) B (leafM g cells s)):=by
 have a5:=hg.cl;have a3:=hg.el;have hl:=hp.len;have j:=hi.le;have k:=hi.pl;have l:=hi.nB;have o:=hi.n0;have x:ZiA (Zb.mk g.Colors g.Edges) cells=Jg (relab g cells):=ZFO hg hp;have e:=Znt hg hp;have a6:=e.cl;have a2:=e.el;unfold ZgN ipS;dsimp only;by_cases u:s.perms=[]
 .rw [ZlN (.inl u)];have f:(Jk s.perms:Int)=0:=by rw [u];rfl
  have w:gApp 24 ([]:Ja) [cells]=Jg [cells]:=rfl;simp (disch:=omega) only [pz,x,Zd9,Zdu,w]
 .have f:0<Jk s.perms:=List.length_pos_iff.2 u;have a4:=ZxL hg i u;have a:Zh5 (Zb.mk (relab g cells).Colors (relab g cells).Edges) (Zb.mk s.best.Colors s.best.Edges)=Jg (cmpG (relab g cells) s.best):=ZNM (g:=relab g cells) (h:=s.best) Z Z Z;have w:gApp 24 ([]:Ja) [cells]=Jg [cells]:=rfl;rcases J7 (cmpG (relab g cells) s.best) 0 with c|c|c
  .rw [ZlN (.inr c)];simp (disch:=omega) only [pz,x,Zd9,Zdu,a,w]
  .rw [ZDM u c];simp (disch:=omega) only [pz,x,Zd9,Zdu,a,c]
  .rw [Zwa u c];simp (disch:=omega) only [pz,x,Zd9,Zdu,a]
end
theorem ZgX {g:Zb} {near:Ja} {B:Int} {d:Nat} {cells:Jb}:∀(vs:Jb) {s:CSt},s.full=Ji->vs.foldl (stepM g near B d cells) s=s
 | [],s,_=>rfl
 | v::vs,s,h=>by
  rw [XB];have:stepM g near B d cells s v=s:=by unfold stepM;rw [if_pos h]
  rw [this,ZgX vs h]
theorem ZwR {g:Zb} {near:Ja} {B:Int} {d:Nat} {cells:Jb} {s:CSt} {v:Int} (h:s.nodes=B):stepM g near B d cells s v={ s with full:=Ji }:=by
 unfold stepM;by_cases e:s.full=Ji
 .rw [if_pos e];cases s;grind
 .grind
theorem Zyg {g:Zb} {near:Ja} {B:Int} {d:Nat} {cells:Jb} {s:CSt} {v:Int} (h:¬s.nodes=B) (e:s.full=Jj):stepM g near B d cells s v=srch g near B d (refN near (sgl cells v)) { s with nodes:=s.nodes+1 }:=by
 unfold stepM;grind
theorem ZHQ {n:Nat} {cells:Jb} {t k:Int} (k0:0<=k) (k1:k<(n:Int)):((idP (n:Int)).drop k.toNat).filter (λv=>ix cells v==t)=(if ix cells k=t then [k] else [])++((idP (n:Int)).drop (k+1).toNat).filter (λv=>ix cells v==t):=by
 grind [ZaJ,Zaj,Zeh,ix]
section
variable {g:Zb} {B:Int} (hg:ValidG g) (hB:B<=20000)
include hg hB
theorem Zul:∀(d m:Nat) (cells:Jb) (s:CSt) (K:Int),d<=m->Cel (nearM g).length cells->(nearM g).length<d+cnt cells->K<=1000->CInv B K s->Bst g s ->
  pn_spec_l22Find_run m (spS g (nearM g) B s) cells=Jg (spS g (nearM g) B (srch g (nearM g) B d cells s))
 | 0,m,cells,s,K,hm,o,hd,hK,hi,r=>by have:=Zd7 cells;have:=o.len;omega
 | d+1,m,cells,s,K,hm,o,hd,hK,hi,r=>by
  obtain ⟨m',rfl⟩:∃m',m=m'+1:=⟨m-1,by omega⟩
  have hN:=Zq7 hg;have hn:=hN.n;have ai:=Zno g;have ah:=o.len;show q_spec_l22Find_run (pn_spec_l22Find_run m') _ _=_;rw [Zkt];have a3:∀x∈cells,0<=x:=λx hx=>(o.rng x hx).1;by_cases ht:tgt cells<0
  .rw [if_pos ht];have ax:cells.Nodup:=by
    grind [Zdk]
   have hp:Vc.Perm cells (Jk g.Colors):=by rw [<-ai];exact o.perm ax
   grind [ZNc]
  .rw [if_neg ht];have au:=ZwF (cells:=cells) Z a3;have av:∀j,0<=j->j<(Jk cells:Int)->0<=ix cells j/\ix cells j<64:=λj a b=>by
    have:=o.rng _ (Zl a b);omega
   have aw:∀(u:Nat) (k:Int) (s:CSt),k+u=(Jk cells:Int)->0<=k->CInv B K s->Bst g s->∀(f:ZH),f.qg=g->f.qnear=nearM g ->
     loop (Zbz (pn_spec_l22Find_run m') f cells (tgt cells)) (k,s.nodes,s.leaves,B,s.full,s.best.Colors,s.best.Edges,s.perms)=Jg (spS g (nearM g) B ((((idP (Jk cells:Int)).drop k.toNat).filter (λv=>ix cells v==tgt cells)).foldl (stepM g (nearM g) B d cells) s)):=by
    intro u;induction u with
    | zero=>
     intro k s hk k0 hi r f h l;obtain rfl:k=(Jk cells:Int):=Z;have e:(idP (Jk cells:Int)).drop ((Jk cells:Int)).toNat=[]:=WR (by rw [Zaj];omega);rw [e];refine Ze ?_;unfold Zbz;dsimp only;rw [h,l];simp (disch:=omega) only [pz,];rfl
    | succ u ih=>
     intro k s hk k0 hi r f h l;have y:k<(Jk cells:Int):=Z;have a7:=ZHQ (n:=cells.length) (cells:=cells) (t:=tgt cells) k0 y;have i1:=hi.le;have i2:=hi.pl;have i3:=hi.nB;have i4:=hi.n0;by_cases ab:ix cells k=tgt cells
     .rw [if_pos ab] at a7;rw [a7,List.singleton_append,XB];by_cases ag:s.nodes=B
      .rw [ZwR ag,ZgX _ rfl];refine Ze ?_;unfold Zbz ZeG;dsimp only;rw [h,l];simp (disch:=omega) only [pz,];rfl
      .cases hf:s.full with
       | true=>
        have b8:stepM g (nearM g) B d cells s k=s:=by unfold stepM;rw [if_pos hf]
        simp_all [ZgX,Ze,Zbz,ZeG,pz,spS]
       | false=>
        rw [Zyg ag hf];have ar:k∈vts cells (tgt cells):=Zms.2 ⟨⟨k0,y⟩,ab⟩;have b0:=o.more ht ar;have aj:=Zhw cells k;have ae:Cel (nearM g).length (refN (nearM g) (sgl cells k)):=Cel.ref (by rw [aj,ah]);have a2:CInv B (K-1) { s with nodes:=s.nodes+1 }:=⟨by show s.leaves<=s.nodes+1+(K-1);omega,i2,by show 0<=s.nodes+1;omega,by show s.nodes+1<=B;omega⟩
        have ad:=Zul d m' (refN (nearM g) (sgl cells k)) { s with nodes:=s.nodes+1 } (K-1) Z ae Z Z a2 r;have a5:=Zsr g (nearM g) B d (refN (nearM g) (sgl cells k)) _ _ a2;rw [show K-1+1=K by omega] at a5;have ac:=(ZnY ai B d (refN (nearM g) (sgl cells k)) { s with nodes:=s.nodes+1 } ae Z r).1;generalize srch g (nearM g) B d (refN (nearM g) (sgl cells k)) { s with nodes:=s.nodes+1 }=s1 at ad a5 ac ⊢;have ao:=Zj (B:=Zdb (pn_spec_l22Find_run m') f cells k s.nodes s.leaves B s.best.Colors s.best.Edges s.perms s.full) (λj=>(tabl j λw=>if w=k then 2*ix cells w else 2*ix cells w+1,j)) (i:=0) (n:=cells.length) Z λj j0 j1=>by
         obtain ⟨x0,x1⟩:=av j j0 j1;have a9:(tabl j λw=>if w=k then 2*ix cells w else 2*ix cells w+1).length<=64:=by rw [Zy];omega
         have a6:(tabl (j+1) λw=>if w=k then 2*ix cells w else 2*ix cells w+1)=_:=Z5 j0;by_cases c:j=k
         .rw [if_pos c] at a6;have hw:2*ix cells j+1-1=2*ix cells j:=Z;rw [a6];generalize (tabl j λw=>if w=k then 2*ix cells w else 2*ix cells w+1)=X at a9 ⊢;simp (disch:=omega) only [pz,Zdb,ZhU,hw]
         .rw [if_neg c] at a6;rw [a6];generalize (tabl j λw=>if w=k then 2*ix cells w else 2*ix cells w+1)=X at a9 ⊢;simp (disch:=omega) only [pz,Zdb,ZhU]
        have e0:(([]:Jb),(0:Int))=(λj:Int=>(tabl j λw=>if w=k then 2*ix cells w else 2*ix cells w+1,j)) 0:=rfl;have ay:=ZDu (c:=sgl cells k) hN (by rw [aj,ah]);have ak:loop (Zdb (pn_spec_l22Find_run m') f cells k s.nodes s.leaves B s.best.Colors s.best.Edges s.perms s.full) (([]:Jb),0)=Jg (.inl (k+1,s1.nodes,s1.leaves,B,s1.full,s1.best.Colors,s1.best.Edges,s1.perms)):=by
         rw [e0,ao];refine Ze ?_;show Zdb _ _ _ _ _ _ _ _ _ _ _ (sgl cells k,(Jk cells:Int))=_;have af:pn_spec_l22Find_run m' (ZH.mk (Zb.mk g.Colors g.Edges) (nearM g) (Zb.mk s.best.Colors s.best.Edges) s.perms (s.nodes+1) s.leaves B s.full) (refN (nearM g) (sgl cells k))=Jg (spS g (nearM g) B s1):=ad;unfold Zdb;dsimp only;rw [h,l];simp (disch:=omega) only [pz,ay,af];rfl
        have aa:Zbz (pn_spec_l22Find_run m') f cells (tgt cells) (k,s.nodes,s.leaves,B,s.full,s.best.Colors,s.best.Edges,s.perms)=Jg (.inl (k+1,s1.nodes,s1.leaves,B,s1.full,s1.best.Colors,s1.best.Edges,s1.perms)):=by
         have a8:=ak;rw [hf] at a8;unfold Zbz ZeG;dsimp only;simp (disch:=omega) only [pz,a8,hf]
        rw [<-hf,ZJ aa];exact ih (k+1) s1 Z Z a5 ac f h l
     .rw [if_neg ab,Xm] at a7;rw [a7];have aa:Zbz (pn_spec_l22Find_run m') f cells (tgt cells) (k,s.nodes,s.leaves,B,s.full,s.best.Colors,s.best.Edges,s.perms)=Jg (.inl (k+1,s.nodes,s.leaves,B,s.full,s.best.Colors,s.best.Edges,s.perms)):=by
       unfold Zbz;dsimp only;simp (disch:=omega) only [pz,]
      rw [ZJ aa];exact ih (k+1) s Z Z hi r f h l
   have:=aw (Jk cells) 0 s Z Z hi r (spS g (nearM g) B s) rfl rfl;unfold q_spec_l22Find_run;rw [au,Jr,dec_f Z];exact this
theorem ZyV:∀(d m:Nat) (cells:Jb) (s:CSt) (K:Int),d<=m->Cel (nearM g).length cells->(nearM g).length<d+cnt cells->K<=1000->CInv B K s->Bst g s ->
  pn_impl_explorer_search m (ipS g (nearM g) B s) cells=Jg (ipS g (nearM g) B (srch g (nearM g) B d cells s))
 | 0,m,cells,s,K,hm,l,hd,hK,hi,u=>by have:=Zd7 cells;have:=l.len;omega
 | d+1,m,cells,s,K,hm,l,hd,hK,hi,u=>by
  obtain ⟨m',rfl⟩:∃m',m=m'+1:=⟨m-1,by omega⟩
  have hN:=Zq7 hg;have hn:=hN.n;have am:=Zno g;have ao:=l.len;show q_impl_explorer_search (pn_impl_explorer_search m') _ _=_;rw [Zkt];have a7:∀x∈cells,0<=x:=λx hx=>(l.rng x hx).1;have a6:=ZJj (cells:=cells) Z (λx hx=>by have:=l.rng x hx;omega);by_cases ht:tgt cells<0
  .rw [if_pos ht] at a6 ⊢;have ax:cells.Nodup:=by
    grind [Zdk]
   have hp:Vc.Perm cells (Jk g.Colors):=by rw [<-am];exact l.perm ax
   have bg:=ZJm hg hB hp hK hi u;simp_all [ZgN,nearM,ipS,leafM,q_impl_explorer_search,bind]
  .rw [if_neg ht] at a6 ⊢;have al:∀j,0<=j->j<(Jk cells:Int)->0<=ix cells j/\ix cells j<64:=λj a b=>by
    have:=l.rng _ (Zl a b);omega
   have b0:(vts cells (tgt cells)).length<=64:=by
    grind [Xf,ix,tgt,idP,Zaj,vts]
   have b2:(vts cells (tgt cells)).length≠0:=λe=>ZA4 a7 ht (List.length_eq_zero_iff.1 e);have a8:∀v∈vts cells (tgt cells),v∈vts cells (tgt cells):=λv h=>h;generalize hV:vts cells (tgt cells)=V at a6 b0 b2 a8 ⊢;have a8:∀v∈V,v∈vts cells (tgt cells):=by rw [hV];exact a8
   have b4:∀(m2:Nat) (k:Int) (s:CSt),k+m2=(Jk V:Int)->0<=k->CInv B K s->Bst g s->∀(f:ZI),f.qgraph=g->f.qlists=nearM g ->
     loop (ZcR (pn_impl_explorer_search m') f cells V) (k,B-s.nodes,s.full,s.nodes,s.leaves,s.best.Colors,s.best.Edges,s.perms)=Jg (ipS g (nearM g) B ((V.drop k.toNat).foldl (stepM g (nearM g) B d cells) s)):=by
    intro m2;induction m2 with
    | zero=>
     intro k s hk k0 hi u f o r;obtain rfl:k=(Jk V:Int):=Z;have e:V.drop ((Jk V:Int)).toNat=[]:=WR Z;rw [e];refine Ze ?_;unfold ZcR;dsimp only;rw [o,r];simp (disch:=omega) only [pz,];rfl
    | succ m2 ih=>
     intro k s hk k0 hi u f o r;have a4:k<(Jk V:Int):=Z;have y:=hi.le;have i2:=hi.pl;have i3:=hi.nB;have i4:=hi.n0;rw [ZaJ k0 a4,XB];have ac:=a8 _ (Zl k0 a4);generalize hv:ix V k=v at ac ⊢;obtain ⟨⟨v0,v1⟩,_⟩:=Zms.1 ac;cases hf:s.full with
     | true=>
      have bh:stepM g (nearM g) B d cells s v=s:=by unfold stepM;rw [if_pos hf]
      simp_all [ZgX,Ze,ZcR,pz,ipS]
     | false=>
      by_cases ak:s.nodes=B
      .rw [ZwR ak,ZgX _ rfl];refine Ze ?_;unfold ZcR Zmk;dsimp only;rw [o,r];simp (disch:=omega) only [pz,];rfl
      .rw [Zyg ak hf];have b9:=l.more ht ac;have ap:=Zhw cells v;have aa:Cel (nearM g).length (refN (nearM g) (sgl cells v)):=Cel.ref (by rw [ap,ao]);have a5:CInv B (K-1) { s with nodes:=s.nodes+1 }:=⟨by show s.leaves<=s.nodes+1+(K-1);omega,i2,by show 0<=s.nodes+1;omega,by show s.nodes+1<=B;omega⟩
       have ab:=ZyV d m' (refN (nearM g) (sgl cells v)) { s with nodes:=s.nodes+1 } (K-1) Z aa Z Z a5 u;have a3:=Zsr g (nearM g) B d (refN (nearM g) (sgl cells v)) _ _ a5;rw [show K-1+1=K by omega] at a3;have a9:=(ZnY am B d (refN (nearM g) (sgl cells v)) { s with nodes:=s.nodes+1 } aa Z u).1;generalize srch g (nearM g) B d (refN (nearM g) (sgl cells v)) { s with nodes:=s.nodes+1 }=s1 at ab a3 a9 ⊢;have b6:=Zj (B:=ZfQ (pn_impl_explorer_search m') f cells k s.nodes s.leaves s.best.Colors s.best.Edges s.perms v (B-s.nodes-1) Jj) (λj=>(j,tabl (Jk cells) λw=>if w<j then 2*ix cells w+1 else 0)) (i:=0) (n:=cells.length) Z λj j0 j1=>by
        obtain ⟨x0,x1⟩:=al j j0 j1;have hset:(tabl (Jk cells) λw=>if w<j then 2*ix cells w+1 else 0).set j.toNat (2*ix cells j+1)=tabl (Jk cells) λw=>if w<j+1 then 2*ix cells w+1 else 0:=by
         refine Zak j0 j1 (λi i0 y hi=>?_) ?_
         .omega
         .omega
        have hX:(tabl (Jk cells:Int) λw=>if w<j then 2*ix cells w+1 else 0).length=Jk cells:=by rw [Zy];omega
        generalize (tabl (Jk cells:Int) λw=>if w<j then 2*ix cells w+1 else 0)=X at hset hX ⊢;simp (disch:=omega) only [pz,ZfQ,hset]
       have b8:gMake 8 (0:Int) (Jk cells:Int) (Jk cells:Int)=Jg (tabl (Jk cells) λw=>if w<0 then 2*ix cells w+1 else 0):=by
        rw [Zaq Z Z Z,Jp];congr 1;refine ZaP (by rw [JD,Zy];omega) λi i0 y=>?_;rw [JD] at y;rw [ZaZ i0 Z,ZL i0 Z,if_neg Z]
       have hS:(tabl (Jk cells) λw=>if w<(Jk cells:Int) then 2*ix cells w+1 else 0).set v.toNat (2*ix cells v+1-1)=sgl cells v:=by
        unfold sgl;refine Zak v0 v1 (λi i0 y hi=>?_) ?_
        .rw [if_neg hi,if_pos y]
        .rw [if_pos rfl];omega
       have aj:ix (tabl (Jk cells) λw=>if w<(Jk cells:Int) then 2*ix cells w+1 else 0) v=2*ix cells v+1:=by rw [ZL v0 v1,if_pos v1]
       have hX:(tabl (Jk cells:Int) λw=>if w<(Jk cells:Int) then 2*ix cells w+1 else 0).length=Jk cells:=by rw [Zy];omega
       obtain ⟨ad,ae⟩:=al v v0 v1;have ay:=ZuL (c:=sgl cells v) hN (by rw [ap,ao]);have aq:loop (ZfQ (pn_impl_explorer_search m') f cells k s.nodes s.leaves s.best.Colors s.best.Edges s.perms v (B-s.nodes-1) Jj) (0,tabl (Jk cells) λw=>if w<0 then 2*ix cells w+1 else 0)=Jg (.inl (k+1,B-s1.nodes,s1.full,s1.nodes,s1.leaves,s1.best.Colors,s1.best.Edges,s1.perms)):=by
        rw [b6];refine Ze ?_;have af:pn_impl_explorer_search m' (ZI.mk (Zag.mk (B-s.nodes-1) Jj) (Zb.mk g.Colors g.Edges) (nearM g) (s.nodes+1) s.leaves (Zb.mk s.best.Colors s.best.Edges) s.perms) (refN (nearM g) (sgl cells v))=Jg (ipS g (nearM g) B s1):=by
         rw [<-ab];unfold ipS;rw [<-hf,show B-s.nodes-1=B-(s.nodes+1) by omega]
        generalize (tabl (Jk cells:Int) λw=>if w<(Jk cells:Int) then 2*ix cells w+1 else 0)=X at hS aj hX ⊢;unfold ZfQ;dsimp only;rw [o,r];simp (disch:=omega) only [pz,aj,hS,ay,af];rfl
       have aw:ZcR (pn_impl_explorer_search m') f cells V (k,B-s.nodes,Jj,s.nodes,s.leaves,s.best.Colors,s.best.Edges,s.perms)=Jg (.inl (k+1,B-s1.nodes,s1.full,s1.nodes,s1.leaves,s1.best.Colors,s1.best.Edges,s1.perms)):=by
        unfold ZcR Zmk ZqY;dsimp only;simp (disch:=omega) only [pz,hv,b8,aq]
       rw [ZJ aw];exact ih (k+1) s1 Z Z a3 a9 f o r
   have:=b4 (Jk V) 0 s Z Z hi u (ipS g (nearM g) B s) rfl rfl;unfold q_impl_explorer_search;rw [a6,Jr,beq_f Z];exact this
end
end Go.Proofs.YtcneolcmjjlmnaaGreatDoor
