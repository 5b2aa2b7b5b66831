import Derived.Test.YtghbgeaammnkcaaGreatDoorPuJg
import Derived.Test.YtghbgeaammnkcaaGreatDoorPuJh
namespace Go.Proofs.YtghbgeaammnkcaaGreatDoor
open Go Go.Vc
set_option linter.unusedSimpArgs false
set_option linter.unusedVariables false
set_option linter.unusedSectionVars false
theorem qd_pw {p b:Int} (a:0≤b) (hp:2≤p):∀ i:Nat,qd p b i*pwN p i≤b
 | 0=>by show b*1≤b;omega
 | i+1=>by
  have ih:=qd_pw a hp i
  have c:qd p b i/p*p≤qd p b i:=Int.ediv_mul_le _ (by omega)
  have e:=ZaQ hp i
  show qd p b i/p*(pwN p i*p)≤b
  rw [Int.mul_comm (pwN p i) p,←Int.mul_assoc]
  exact Int.le_trans (Int.mul_le_mul_of_nonneg_right c (by omega)) ih
theorem ZxH {p b:Int} (a:0≤b) (hp:2≤p) {k:Nat} (hk:b<pwN p k):qd p b k=0:=by
 have e:=qd_pw a hp k
 have g:=(Zdd a hp k).1
 have h:=ZaQ hp k
 by_cases c:qd p b k=0
 ·exact c
 ·have:1*pwN p k≤qd p b k*pwN p k:=Int.mul_le_mul_of_nonneg_right (by omega) (by omega)
  omega
theorem ZAG (a b:Int):a/b*b+a%b=a:=by
 rw [Int.emod_def,Int.mul_comm b];omega
theorem Zr9 {p b:Int} (c:0≤b) (hp:2≤p) {k:Nat} (hk:b<pwN p k):∀ m:Nat,m≤k→nmN p (dig p k b) m=qd p b (k-m)
 | 0,_=>by rw [Nat.sub_zero,ZxH c hp hk];rfl
 | m+1,hm=>by
  have ih:=Zr9 c hp hk m (by omega)
  have hl:=Zas (p:=p) (k:=(k:Int)) (a:=b) (by omega)
  rw [nmN,ih,hl]
  unfold dig
  rw [Zq (by omega) (by omega),show ((k:Int)-1-(m:Int)).toNat=k-(m+1) by omega,show k-m=(k-(m+1))+1 by omega]
  exact ZAG _ _
def wd (f:Zd) (q w:Int) (m:List (List Int)):Nat→Int→List Int
 | 0,_=>tabl w fun _=>0
 | i+1,n=>tabl w fun t=>sumA f (ix (wd f q w m i (n/q)) t) (mulA f (ix (ix m (i:Int)) t) (n%q)) 1
section
variable {f:Zd} {q:Int} {inv:List Int} (hF:Ff f q inv)
include hF
theorem add0 {a:Int} (b:0≤a) (c:a<q):sumA f a 0 1=a:=by
 have h:=hF.sub a 0 b c (by omega) (by omega)
 rw [hF.z2 0 (by omega) (by omega),hF.z2 a b c] at h
 exact h.symm
theorem mul0 {a:Int} (b:0≤a) (c:a<q):mulA f a 0=0:=by
 rw [hF.comm a 0 b c (by omega) (by omega),hF.z1 a b c]
theorem add1 {b:Int} (g:0≤b) (l:b<q):sumA f 0 b 1=b:=by
 have hp:=hF.fd.p2
 have hk:=hF.fd.k1
 obtain ⟨k,hD⟩:∃ k:Nat,f.Degree=(k:Int):=⟨f.Degree.toNat,by omega⟩
 have hpw:=hF.pw
 rw [hD,Int.toNat_natCast] at hpw
 have lz:=Zas (p:=f.Prime) (k:=f.Degree) (a:=0) (by omega)
 have lb:=Zas (p:=f.Prime) (k:=f.Degree) (a:=b) (by omega)
 have e:axAt f.Prime 1 (dig f.Prime f.Degree b) 0 (dig f.Prime f.Degree 0)=dig f.Prime f.Degree b:=by
  refine Za1 (by rw [Za0];omega) fun i c h=>?_
  rw [Za0] at h
  have hz:ix (dig f.Prime f.Degree 0) i=0:=by
   unfold dig
   rw [Zq c (by omega)]
   have:=Zdd (p:=f.Prime) (a:=0) (Int.le_refl 0) (by omega) i.toNat
   rw [show qd f.Prime 0 i.toNat=0 by omega]
   rfl
  have j:ix (dig f.Prime f.Degree b) i=qd f.Prime b i.toNat%f.Prime:=by
   unfold dig
   exact Zq c (by omega)
  unfold axAt
  rw [Zq c (by omega),if_pos ⟨c,by omega⟩,hz,Int.sub_zero,j,Int.zero_add,Int.one_mul]
  exact Int.emod_emod_of_dvd _ (Int.dvd_refl _)
 unfold sumA nm
 rw [e,show (dig f.Prime f.Degree b).length=k by omega,hD,Zr9 g (by omega) (by omega) k (Nat.le_refl _),Nat.sub_self]
 rfl
variable {w:Int} {m:List (List Int)}
theorem Zf1 (w0:0≤w):∀ (i:Nat) (n:Int),((wd f q w m i n).length:Int)=w
 | 0,_=>by rw [wd,Zk];omega
 | i+1,_=>by rw [wd,Zk];omega
theorem wd_in (w0:0≤w):∀ (i:Nat) (n:Int),In q (wd f q w m i n)
 | 0,n=>fun t a b=>by
  have:=Zf1 hF (m:=m) w0 0 n
  have:=hF.q2
  rw [wd,Zq a (by omega)];omega
 | i+1,n=>fun t a b=>by
  have:=Zf1 hF (m:=m) w0 (i+1) n
  rw [wd,Zq a (by omega)]
  exact ZjT hF.fd hF.pw _ _ _
variable (hm:Mat q w m)
include hm
theorem Zsy (w0:0≤w):∀ (i:Nat),i≤m.length→∀ t,0≤t→t<w→ix (wd f q w m i 0) t=0
 | 0,_,t,a,b=>by rw [wd,Zq a b]
 | i+1,hi,t,a,b=>by
  have hr:=hm.rng i (by omega) (by omega) t a (by have:=hm.len i (by omega) (by omega);omega)
  have:=hF.q2
  rw [wd,Zq a b,show (0:Int)/q=0 from Int.zero_ediv _,show (0:Int)%q=0 from Int.zero_emod _,Zsy w0 i (by omega) t a b,mul0 hF hr.1 hr.2,add0 hF (by omega) (by omega)]
theorem wd_nz (w0:0≤w) {r:Nat} {t:Int} (a:0≤t) (b:t<w) (j:¬ ix (ix m (r:Int)) t=0):∀ (i:Nat),i≤m.length→r<i→∃ n,0≤n∧n<pwN q i∧¬ ix (wd f q w m i n) t=0
 | 0,_,h=>by omega
 | i+1,hi,h=>by
  have g:=hF.q2
  have hr:=hm.rng i (by omega) (by omega) t a (by have:=hm.len i (by omega) (by omega);omega)
  have hpp:=ZaQ (p:=q) g i
  by_cases hri:r=i
  ·subst hri
   obtain ⟨l,e⟩:=hF.inv1 (ix (ix m (r:Int)) t) (by omega) hr.2
   have k:=(hF.inv2 (ix (ix m (r:Int)) t) (ix inv (ix (ix m (r:Int)) t)) hr.1 hr.2 (by omega) e).2 rfl
   refine ⟨ix inv (ix (ix m (r:Int)) t),by omega,?_,?_⟩
   ·show _<pwN q r*q
    have:1*q≤pwN q r*q:=Int.mul_le_mul_of_nonneg_right hpp (by omega)
    omega
   ·rw [wd,Zq a b,Int.ediv_eq_zero_of_lt (by omega) e,Int.emod_eq_of_lt (by omega) e,Zsy hF hm w0 r (by omega) t a b,k,add1 hF (by omega) (by omega)]
    omega
  ·obtain ⟨n,n0,n1,hne⟩:=wd_nz w0 a b j i (by omega) (by omega)
   refine ⟨n*q,Int.mul_nonneg n0 (by omega),?_,?_⟩
   ·show n*q<pwN q i*q
    exact Int.mul_lt_mul_of_pos_right n1 (by omega)
   ·have hl:=Zf1 hF (m:=m) w0 i n
    have c:=wd_in hF (m:=m) w0 i n t a (by omega)
    rw [wd,Zq a b,Int.mul_ediv_cancel _ (by omega),Int.mul_emod_left,mul0 hF hr.1 hr.2,add0 hF c.1 c.2]
    exact hne
end
theorem Ztg {bs:List (List Int)} {p:List Int→Bool} {k:Int} (a:0≤k) (hk:p (ix bs k)=true):∀ n:Nat,k<n→0<cntB bs p n
 | 0,h=>by omega
 | n+1,h=>by
  have hr:=ZdK bs p n
  rw [cntB]
  by_cases hkn:k=(n:Int)
  ·subst hkn
   rw [if_pos hk];omega
  ·have:=Ztg a hk n (by omega)
   split<;>omega
def wtN (r:List Int):Nat→Int
 | 0=>0
 | n+1=>wtN r n+if ix r (n:Int)=0 then 0 else 1
theorem Zgg (r:List Int):∀ n:Nat,0≤wtN r n∧wtN r n≤n
 | 0=>by simp [wtN]
 | n+1=>by
  have:=Zgg r n
  rw [wtN]
  split<;>omega
theorem Zq1 {r:List Int} {k:Int} (h:0≤k):wtN r (k+1).toNat=wtN r k.toNat+if ix r k=0 then 0 else 1:=by
 rw [show (k+1).toNat=k.toNat+1 by omega,wtN,show ((k.toNat:Nat):Int)=k by omega]
theorem Ztp {r:List Int} {k:Int} (a:0≤k) (hk:¬ ix r k=0):∀ n:Nat,k<n→0<wtN r n
 | 0,h=>by omega
 | n+1,h=>by
  have hr:=Zgg r n
  rw [wtN]
  by_cases hkn:k=(n:Int)
  ·subst hkn
   rw [if_neg hk];omega
  ·have:=Ztp a hk n (by omega)
   split<;>omega
def wt (r:List Int):Int:=wtN r r.length
end Go.Proofs.YtghbgeaammnkcaaGreatDoor
namespace Go.Proofs.YtghbgeaammnkcaaGreatDoor
set_option linter.unusedVariables false
open Go Go.Vc
set_option linter.unusedSimpArgs false
set_option linter.unusedSectionVars false
theorem gAppV {xs:List (List Int)} {y:List Int} (h:xs.length≤100000):gApp 24 xs [y]=some (xs++[y]):=gApp1 (by omega) (by omega)
theorem ZAQ {xs:List Int} (hl:xs.length≤1000):ZgN xs=some (tabl xs.length fun t=>ix xs ((xs.length:Int)-1-t)):=by
 unfold ZgN
 have e:=Zj (B:=Ze0) (fun i:Int=>(i,(xs.length:Int)-1-i,tabl xs.length fun t=>if t<i∨(xs.length:Int)-1-i<t then ix xs ((xs.length:Int)-1-t) else ix xs t)) (i:=0) (n:=(xs.length:Int)/2) (by omega) fun i c r=>by
  have hL:((tabl xs.length fun t=>if t<i∨(xs.length:Int)-1-i<t then ix xs ((xs.length:Int)-1-t) else ix xs t).length:Int)=xs.length:=by rw [Zk];omega
  have j:ix (tabl xs.length fun t=>if t<i∨(xs.length:Int)-1-i<t then ix xs ((xs.length:Int)-1-t) else ix xs t) i=ix xs i:=by rw [Zq c (by omega),if_neg (by omega)]
  have k:ix (tabl xs.length fun t=>if t<i∨(xs.length:Int)-1-i<t then ix xs ((xs.length:Int)-1-t) else ix xs t) ((xs.length:Int)-1-i)=ix xs ((xs.length:Int)-1-i):=by rw [Zq (by omega) (by omega),if_neg (by omega)]
  have hs:((tabl xs.length fun t=>if t<i∨(xs.length:Int)-1-i<t then ix xs ((xs.length:Int)-1-t) else ix xs t).set i.toNat (ix xs ((xs.length:Int)-1-i))).set ((xs.length:Int)-1-i).toNat (ix xs i)=tabl xs.length fun t=>if t<i+1∨(xs.length:Int)-1-(i+1)<t then ix xs ((xs.length:Int)-1-t) else ix xs t:=by
   rw [Zav (n:=(xs.length:Int)) (f:=fun t=>if t<i∨(xs.length:Int)-1-i<t then ix xs ((xs.length:Int)-1-t) else ix xs t) (g:=fun t=>if t<i+1∨(xs.length:Int)-1-i<t then ix xs ((xs.length:Int)-1-t) else ix xs t) c (by omega) (fun t a b ht=>by
    by_cases h:t<i∨(xs.length:Int)-1-i<t
    ·rw [if_pos h,if_pos (by omega)]
    ·rw [if_neg h,if_neg (by omega)]) (by rw [if_pos (by omega)])]
   refine Zav (by omega) (by omega) (fun t a b ht=>?_) ?_
   ·by_cases h:t<i+1∨(xs.length:Int)-1-i<t
    ·rw [if_pos h,if_pos (by omega)]
    ·rw [if_neg h,if_neg (by omega)]
   ·rw [if_pos (by omega),show (xs.length:Int)-1-((xs.length:Int)-1-i)=i by omega]
  have ej:(xs.length:Int)-1-i-1=(xs.length:Int)-1-(i+1):=by omega
  generalize (tabl xs.length fun t=>if t<i∨(xs.length:Int)-1-i<t then ix xs ((xs.length:Int)-1-t) else ix xs t)=A at hL j k hs ⊢
  have l:(A.set i.toNat (ix xs ((xs.length:Int)-1-i))).length=A.length:=List.length_set
  simp (disch:=omega) only [pz,Ze0,j,k,l,hs,ej]
 have o:((0:Int),IntKind.i64.wrap ((xs.length:Int)-1),xs)=(fun i:Int=>(i,(xs.length:Int)-1-i,tabl xs.length fun t=>if t<i∨(xs.length:Int)-1-i<t then ix xs ((xs.length:Int)-1-t) else ix xs t)) 0:=by
  show _=((0:Int),_,_)
  rw [wr64 (by omega) (by omega)]
  congr 1
  congr 1
  ·omega
  ·refine (Zbp xs).symm.trans (ZN fun t a b=>?_)
   rw [if_neg (by omega)]
 rw [o,e]
 have p:(tabl xs.length fun t=>if t<(xs.length:Int)/2∨(xs.length:Int)-1-(xs.length:Int)/2<t then ix xs ((xs.length:Int)-1-t) else ix xs t)=tabl xs.length fun t=>ix xs ((xs.length:Int)-1-t):=ZN fun t a b=>by
  by_cases h:t<(xs.length:Int)/2∨(xs.length:Int)-1-(xs.length:Int)/2<t
  ·rw [if_pos h]
  ·rw [if_neg h,show (xs.length:Int)-1-t=t by omega]
 refine Zc ?_
 simp (disch:=omega) only [pz,Ze0,p]
theorem pw_lo {p:Int} (hp:2≤p) {a b:Nat} (h:a≤b):pwN p a≤pwN p b:=by
 have:=ZlG hp (m:=a) (b-a)
 rwa [show a+(b-a)=b by omega] at this
theorem pwU {q:Int} (q2:2≤q) {k:Nat} (hk:k≤64) (h:pwN q k≤4096):Zau q (k:Int) 4096=some (pwN q k):=by
 unfold Zau
 have e:=Zj (B:=ZaV q 4096) (fun j:Int=>((k:Int)-j,pwN q j.toNat)) (i:=0) (n:=(k:Int)) (by omega) fun j l o=>by
  have r:=pw_lo q2 (a:=j.toNat) (b:=k) (by omega)
  have s:=pw_lo q2 (a:=j.toNat+1) (b:=k) (by omega)
  have t:=ZaQ (p:=q) q2 j.toNat
  have u:=ZaQ (p:=q) q2 (j.toNat+1)
  have ee:(k:Int)-j-1=(k:Int)-(j+1):=by omega
  have c:pwN q (j+1).toNat=pwN q j.toNat*q:=by rw [show (j+1).toNat=j.toNat+1 by omega];rfl
  have v:pwN q j.toNat*q≤4096:=by have:pwN q (j.toNat+1)=pwN q j.toNat*q:=rfl;omega
  have x:1≤pwN q j.toNat*q:=by have:pwN q (j.toNat+1)=pwN q j.toNat*q:=rfl;omega
  rw [c]
  simp (disch:=omega) only [pz,ZaV,ZeV,ee]
 have g:((k:Int)-0,pwN q (0:Int).toNat)=((k:Int),(1:Int)):=by simp [pwN]
 rw [g] at e
 rw [e]
 exact Zc (by simp (disch:=omega) only [pz,ZaV])
theorem Zzn {q:Int} (q2:2≤q) (q64:q≤64) {k:Nat} (hk:k≤64) {cs:Int} (h:loop (Zbi q) ((k:Int),1)=some cs) (b:¬ cs=0):pwN q k≤4096:=by
 have st:∀ j:Nat,pwN q (j+1)=pwN q j*q:=fun _=>rfl
 have c:((k:Int),(1:Int))=(fun j:Int=>((k:Int)-j,pwN q j.toNat)) 0:=by simp [pwN]
 rw [c] at h
 rcases ZaK (B:=Zbi q) (fun j:Int=>((k:Int)-j,pwN q j.toNat)) (fun j=>4096<pwN q (j.toNat+1)) (i:=0) (n:=(k:Int)) (by omega) (fun j g l o=>by
  have r:=ZaQ (p:=q) q2 j.toNat
  have s:=ZaQ (p:=q) q2 (j.toNat+1)
  have ee:(k:Int)-j-1=(k:Int)-(j+1):=by omega
  have t:pwN q (j+1).toNat=pwN q j.toNat*q:=by rw [show (j+1).toNat=j.toNat+1 by omega];rfl
  have a:=st j.toNat
  rw [t]
  rw [a] at o s
  simp (disch:=omega) only [pz,Zbi,ee]) with ⟨j,g,l,hj,hall,e⟩|⟨hall,_⟩
 ·refine absurd ?_ b
  have r:=ZaQ (p:=q) q2 j.toNat
  have u:pwN q j.toNat≤4096:=by
   by_cases hz:j=0
   ·rw [hz];show (1:Int)≤4096;omega
   ·have:=hall (j-1) (by omega) (by omega)
    rw [show (j-1).toNat+1=j.toNat by omega] at this
    omega
  have a:=st j.toNat
  rw [a] at hj
  have x:pwN q j.toNat*q≤4096*64:=Int.mul_le_mul u q64 (by omega) (by omega)
  have v:loop (Zbi q) ((k:Int)-j,pwN q j.toNat)=some 0:=by
   refine Zc ?_
   simp (disch:=omega) only [pz,Zbi]
  rw [e] at h
  exact (Option.some.inj (h.symm.trans v))
 ·by_cases hz:k=0
  ·rw [hz];show (1:Int)≤4096;omega
  ·have:=hall ((k:Int)-1) (by omega) (by omega)
   rw [show ((k:Int)-1).toNat+1=k by omega] at this
   omega
theorem ZsL {r:List Int} (hl:r.length≤64):Zlb r=some (wt r)∧ZkH r=some (wt r):=by
 have b:=Zj (B:=Zgy r) (fun k:Int=>(wtN r k.toNat,k)) (i:=0) (n:=(r.length:Int)) (by omega) fun k a k1=>by
  have hr:=Zgg r k.toNat
  rw [Zq1 a]
  by_cases h:ix r k=0
  ·rw [if_pos h,Int.add_zero]
   simp (disch:=omega) only [pz,Zgy]
  ·rw [if_neg h]
   simp (disch:=omega) only [pz,Zgy]
 have c:=Zj (B:=ZfS r) (fun k:Int=>(wtN r k.toNat,k)) (i:=0) (n:=(r.length:Int)) (by omega) fun k a k1=>by
  have hr:=Zgg r k.toNat
  rw [Zq1 a]
  by_cases h:ix r k=0
  ·rw [if_pos h,Int.add_zero]
   simp (disch:=omega) only [pz,ZfS]
  ·rw [if_neg h]
   simp (disch:=omega) only [pz,ZfS]
 rw [Int.toNat_natCast] at b c
 exact ⟨b.trans (Zc (by simp (disch:=omega) only [pz,Zgy,wt])),c.trans (Zc (by simp (disch:=omega) only [pz,ZfS,wt]))⟩
def cwN (ws:List (List Int)) (w:Int) (m:Nat):List Int:=tabl (w+1) fun y=>cntB ws (fun r=>decide (wt r=y)) m
theorem ZFv {ws:List (List Int)} {w:Int} (hw:∀ i,0≤i→i<(ws.length:Int)→((ix ws i).length:Int)=w) (hl:(ws.length:Int)≤4096) {i:Int} (a:0≤i) (b:i<(ws.length:Int)):
  0≤wt (ix ws i)∧wt (ix ws i)≤w∧0≤ix (cwN ws w i.toNat) (wt (ix ws i))∧ix (cwN ws w i.toNat) (wt (ix ws i))≤4096∧(cwN ws w i.toNat).set (wt (ix ws i)).toNat (ix (cwN ws w i.toNat) (wt (ix ws i))+1)=cwN ws w (i+1).toNat:=by
 have hr:=Zgg (ix ws i) (ix ws i).length
 have hr:0≤wt (ix ws i)∧wt (ix ws i)≤(ix ws i).length:=hr
 have hwl:=hw i a b
 have c:ix (cwN ws w i.toNat) (wt (ix ws i))=cntB ws (fun r=>decide (wt r=wt (ix ws i))) i.toNat:=Zq hr.1 (by omega)
 have e:=ZdK ws (fun r=>decide (wt r=wt (ix ws i))) i.toNat
 refine ⟨hr.1,by omega,by omega,by omega,?_⟩
 rw [c]
 refine Zav hr.1 (by omega) (fun t g h ht=>?_) ?_
 ·rw [ZdY a,if_neg (by simp;omega),Int.add_zero]
 ·rw [ZdY a,if_pos (by simp)]
theorem ZCb {ws:List (List Int)} {w:Int} (w0:0≤w) (w1:w≤64) (hw:∀ i,0≤i→i<(ws.length:Int)→((ix ws i).length:Int)=w) (hl:(ws.length:Int)≤4096):
  loop (Zek ws) (0,List.replicate (w+1).toNat 0)=some (cwN ws w ws.length)∧loop (Zd3 ws) (0,List.replicate (w+1).toNat 0)=some (cwN ws w ws.length):=by
 have j:List.replicate (w+1).toNat (0:Int)=cwN ws w (0:Int).toNat:=ZeK
 have step:=fun (i:Int) (a:0≤i) (b:i<(ws.length:Int))=>ZFv hw hl a b
 have hcl:∀ m,((cwN ws w m).length:Int)=w+1:=fun m=>by unfold cwN;rw [Zk];omega
 have g:=Zj (B:=Zek ws) (fun i:Int=>(i,cwN ws w i.toNat)) (i:=0) (n:=(ws.length:Int)) (by omega) fun i a b=>by
  obtain ⟨k,l,o,p,c⟩:=step i a b
  have e:=(ZsL (r:=ix ws i) (by have:=hw i a b;omega)).1
  have hL:=hcl i.toNat
  simp (disch:=omega) only [pz,Zek,e,c]
 have h:=Zj (B:=Zd3 ws) (fun i:Int=>(i,cwN ws w i.toNat)) (i:=0) (n:=(ws.length:Int)) (by omega) fun i a b=>by
  obtain ⟨k,l,o,p,c⟩:=step i a b
  have e:=(ZsL (r:=ix ws i) (by have:=hw i a b;omega)).2
  have hL:=hcl i.toNat
  simp (disch:=omega) only [pz,Zd3,e,c]
 rw [Int.toNat_natCast,←j] at g h
 exact ⟨g.trans (Zc (by simp (disch:=omega) only [pz,Zek])),h.trans (Zc (by simp (disch:=omega) only [pz,Zd3]))⟩
section
variable {f:Zd} {q:Int} {inv:List Int} (hF:Ff f q inv)
include hF
theorem ZyH {a b:List Int} (ha:In q a) (p:In q b) (hl:(a.length:Int)≤64) (he:b.length=a.length):Zg4 f a b=some (tabl a.length fun t=>sumA f (ix a t) (ix b t) 1):=by
 have y:=hF.q64
 have hp:=hF.fd.p2
 unfold Zg4
 have hmk:=ZaN (b:=8) (z:=(0:Int)) (n:=(a.length:Int)) (by omega) (by omega) (by omega)
 have e:=Zj (B:=Zc9 f a b) (fun t:Int=>(t,tabl a.length fun u=>if u<t then sumA f (ix a u) (ix b u) 1 else 0)) (i:=0) (n:=(a.length:Int)) (by omega) fun t g j=>by
  obtain ⟨r,s⟩:=ha t g j
  obtain ⟨g3,g4⟩:=p t g (by omega)
  have hL:((tabl a.length fun u=>if u<t then sumA f (ix a u) (ix b u) 1 else 0).length:Int)=a.length:=by rw [Zk];omega
  have hs:(tabl a.length fun u=>if u<t then sumA f (ix a u) (ix b u) 1 else 0).set t.toNat (sumA f (ix a t) (ix b t) 1)=tabl a.length fun u=>if u<t+1 then sumA f (ix a u) (ix b u) 1 else 0:=by
   refine Zav g j (fun u k l hu=>?_) (by rw [if_pos (by omega)])
   by_cases h:u<t
   ·rw [if_pos h,if_pos (by omega)]
   ·rw [if_neg h,if_neg (by omega)]
  generalize (tabl a.length fun u=>if u<t then sumA f (ix a u) (ix b u) 1 else 0)=A at hL hs ⊢
  by_cases hz:ix b t=0
  ·rw [hz,add0 hF r s] at hs
   simp (disch:=omega) only [pz,Zc9,hs]
  ·have hS:=ZtX hF.fd (a:=ix a t) (b:=ix b t) (c:=1) (by omega) (by omega) (by omega) (by omega) (by omega) (by omega)
   simp (disch:=omega) only [pz,Zc9,hS,hs]
 have v:(tabl a.length fun u=>if u<(0:Int) then sumA f (ix a u) (ix b u) 1 else 0)=List.replicate (a.length:Int).toNat 0:=by
  rw [ZeK]
  exact ZN fun u k _=>by rw [if_neg (by omega)]
 have x:(tabl a.length fun u=>if u<(a.length:Int) then sumA f (ix a u) (ix b u) 1 else 0)=tabl a.length fun t=>sumA f (ix a t) (ix b t) 1:=ZN fun u k l=>by rw [if_pos l]
 rw [v,x] at e
 have o:loop (Zc9 f a b) (0,List.replicate (a.length:Int).toNat 0)=some (tabl a.length fun t=>sumA f (ix a t) (ix b t) 1):=e.trans (Zc (by simp (disch:=omega) only [pz,Zc9]))
 rw [Int.toNat_natCast] at hmk o
 simp (disch:=omega) only [pz,hmk,o]
theorem ZvG {v w:List Int} {c:Int} (o:In q v) (hw:In q w) (hl:(v.length:Int)≤64) (he:w.length=v.length) (g:0≤c) (c1:c<q):
  ZbC (tabs f q inv) v w c=some (tabl v.length fun t=>sumA f (ix v t) (mulA f (ix w t) c) 1):=by
 have hq:=hF.q64
 unfold ZbC
 have hgo:=Zj (B:=Zbw (tabs f q inv) w c) (fun t=>(t,tabl v.length fun u=>if u<t then sumA f (ix v u) (mulA f (ix w u) c) 1 else ix v u)) (i:=0) (n:=v.length) (by omega) fun t a e=>by
  obtain ⟨p,r⟩:=o t a e
  obtain ⟨j,k⟩:=hw t a (by omega)
  have a5:(tabl v.length fun u=>if u<t then sumA f (ix v u) (mulA f (ix w u) c) 1 else ix v u).length=v.length:=by rw [Zk];omega
  have l:ix (tabl v.length fun u=>if u<t then sumA f (ix v u) (mulA f (ix w u) c) 1 else ix v u) t=ix v t:=by rw [Zq a e,if_neg (by omega)]
  obtain ⟨s,x⟩:=Zdo hF.fd hF.pw c (ix w t)
  have hs:(tabl v.length fun u=>if u<t then sumA f (ix v u) (mulA f (ix w u) c) 1 else ix v u).set t.toNat (sumA f (ix v t) (mulA f c (ix w t)) 1)=tabl v.length fun u=>if u<t+1 then sumA f (ix v u) (mulA f (ix w u) c) 1 else ix v u:=by
   apply Zav a e
   ·intro u u0 u1 u2
    by_cases h:u<t
    ·rw [if_pos h,if_pos (show u<t+1 by omega)]
    ·rw [if_neg h,if_neg (show ¬ u<t+1 by omega)]
   ·rw [if_pos (by omega),hF.comm c _ g c1 j k]
  have y:gIdx (tabs f q inv).qadd (ix v t)=some (tabl q fun b=>sumA f (ix v t) b 1):=by rw [Zt6,ZaB p r]
  have i3:gIdx (tabs f q inv).qmul c=some (tabl q fun b=>mulA f c b):=by rw [Zlc,ZaB g c1]
  have i4:gIdx (tabl q fun b=>mulA f c b) (ix w t)=some (mulA f c (ix w t)):=ZaB j k
  have i5:gIdx (tabl q fun b=>sumA f (ix v t) b 1) (mulA f c (ix w t))=some (sumA f (ix v t) (mulA f c (ix w t)) 1):=ZaB s x
  simp (disch:=omega) only [pz,Zbw,l,y,i3,i4,i5,hs]
 have e0:((0:Int),v)=(fun t=>(t,tabl v.length fun u=>if u<t then sumA f (ix v u) (mulA f (ix w u) c) 1 else ix v u)) 0:=by
  show _=((0:Int),_)
  congr 1
  refine (Zbp v).symm.trans (ZN fun t a e=>?_)
  rw [if_neg (by omega)]
 rw [e0,hgo]
 refine Zc ?_
 have e1:(tabl v.length fun u=>if u<(v.length:Int) then sumA f (ix v u) (mulA f (ix w u) c) 1 else ix v u)=tabl v.length fun t=>sumA f (ix v t) (mulA f (ix w t) c) 1:=ZN fun t a e=>by rw [if_pos e]
 simp (disch:=omega) only [pz,Zbw,e1]
variable {w:Int} {m:List (List Int)} (hm:Mat q w m)
include hm
theorem ZCY (w0:0≤w) (m1:1≤(m.length:Int)) (hsz:∀ {g:Zd},True) {n:Int} (n0:0≤n) (n1:n≤4096):
  ∃ msg,Zg8 n q (m.length:Int)=some msg∧Zjg (tabs f q inv) m msg=some (wd f q w m m.length n):=by
 have o:=hF.q64
 have j:=hF.q2
 have hmn:=hm.n
 have a3:=hm.w1
 have r:=Zig (p:=q) (a:=n) (k:=(m.length:Int)) n0 (by omega) j o (by omega) (by omega)
 have hdl:=Zas (p:=q) (a:=n) (k:=(m.length:Int)) (by omega)
 have hr:=ZAQ (xs:=dig q m.length n) (by omega)
 refine ⟨_,by unfold Zg8;rw [r,Option.bind_some,hr,Option.bind_some],?_⟩
 rw [hdl]
 have l:=hm.len 0 (by omega) (by omega)
 have hmk:=ZaN (b:=8) (z:=(0:Int)) (n:=w) (by omega) (by omega) (by omega)
 generalize hM:(tabl (m.length:Int) fun t=>ix (dig q m.length n) ((m.length:Int)-1-t))=msg
 have hML:(msg.length:Int)=m.length:=by rw [←hM,Zk];omega
 have hMx:∀ i,0≤i→i<(m.length:Int)→ix msg i=qd q n ((m.length:Int)-(i+1)).toNat%q:=fun i c h=>by
  rw [←hM,Zq c h,show (m.length:Int)-1-i=(m.length:Int)-(i+1) by omega]
  unfold dig
  exact Zq (by omega) (by omega)
 have e:=Zj (B:=Zd8 (tabs f q inv) m msg) (fun i:Int=>(i,wd f q w m i.toNat (qd q n ((m.length:Int)-i).toNat))) (i:=0) (n:=(m.length:Int)) (by omega) fun i c h=>by
  have s:=hMx i c h
  have hqr:=(Zdd (p:=q) n0 j ((m.length:Int)-(i+1)).toNat).1
  have u:=Int.emod_nonneg (qd q n ((m.length:Int)-(i+1)).toNat) (b:=q) (by omega)
  have c1:=Int.emod_lt_of_pos (qd q n ((m.length:Int)-(i+1)).toNat) (b:=q) (by omega)
  have hwl:=Zf1 hF (m:=m) w0 i.toNat (qd q n ((m.length:Int)-i).toNat)
  have hwi:=wd_in hF (m:=m) w0 i.toNat (qd q n ((m.length:Int)-i).toNat)
  have hrl:=hm.len i c h
  have hA:=ZvG hF (v:=wd f q w m i.toNat (qd q n ((m.length:Int)-i).toNat)) (w:=ix m i) hwi (hm.rng i c h) (by omega) (by omega) u c1
  have x:qd q n ((m.length:Int)-i).toNat=qd q n ((m.length:Int)-(i+1)).toNat/q:=by
   rw [show ((m.length:Int)-i).toNat=((m.length:Int)-(i+1)).toNat+1 by omega];rfl
  have y:wd f q w m (i+1).toNat (qd q n ((m.length:Int)-(i+1)).toNat)=tabl w fun t=>sumA f (ix (wd f q w m i.toNat (qd q n ((m.length:Int)-i).toNat)) t) (mulA f (ix (ix m i) t) (qd q n ((m.length:Int)-(i+1)).toNat%q)) 1:=by
   rw [show (i+1).toNat=i.toNat+1 by omega,wd,x,show ((i.toNat:Nat):Int)=i by omega]
  rw [y]
  rw [hwl] at hA
  have eT:Zac.mk (tabs f q inv).qq (tabs f q inv).qadd (tabs f q inv).qsub (tabs f q inv).qmul (tabs f q inv).qinv=tabs f q inv:=rfl
  rw [←s] at hA ⊢
  generalize tabs f q inv=T at hA eT ⊢
  generalize wd f q w m i.toNat (qd q n ((m.length:Int)-i).toNat)=V at hA ⊢
  simp (disch:=omega) only [pz,Zd8,eT,hA]
 have e0:wd f q w m (0:Int).toNat (qd q n ((m.length:Int)-0).toNat)=List.replicate w.toNat 0:=by
  rw [ZeK];rfl
 have e9:wd f q w m (m.length:Int).toNat (qd q n ((m.length:Int)-(m.length:Int)).toNat)=wd f q w m m.length n:=by
  rw [Int.sub_self,Int.toNat_natCast];rfl
 rw [e0,e9] at e
 have e1:loop (Zd8 (tabs f q inv) m msg) (0,List.replicate w.toNat 0)=some (wd f q w m m.length n):=e.trans (Zc (by simp (disch:=omega) only [pz,Zd8]))
 unfold Zjg
 simp (disch:=omega) only [pz,l,hmk,e1]
theorem ZvB (w0:0≤w) (b:1≤(m.length:Int)) (hs:Zby f=some q) (hN:pwN q m.length≤4096):ZjL ⟨f,m⟩=some (tabl (pwN q m.length) (wd f q w m m.length)):=by
 have hmn:=hm.n
 have ht:=ZrC hF hs
 have hp:=pwU hF.q2 (k:=m.length) (by omega) hN
 have hP:=ZaQ (p:=q) hF.q2 m.length
 have e:=Zj (B:=ZdT ⟨f,m⟩ (tabs f q inv) m.length (pwN q m.length)) (fun n:Int=>(tabl n (wd f q w m m.length),n)) (i:=0) (n:=pwN q m.length) (by omega) fun n n0 n1=>by
  obtain ⟨msg,c,a⟩:=ZCY hF hm w0 b (fun {_}=>trivial) n0 (by omega)
  have eT:Zac.mk (tabs f q inv).qq (tabs f q inv).qadd (tabs f q inv).qsub (tabs f q inv).qmul (tabs f q inv).qinv=tabs f q inv:=rfl
  have eQ:(tabs f q inv).qq=q:=rfl
  have eT2:Zac.mk q (tabs f q inv).qadd (tabs f q inv).qsub (tabs f q inv).qmul (tabs f q inv).qinv=tabs f q inv:=rfl
  have hl:(tabl n (wd f q w m m.length)).length=n.toNat:=Zk
  have hg:=gAppV (xs:=tabl n (wd f q w m m.length)) (y:=wd f q w m m.length n) (by omega)
  rw [←Za6 n0] at hg
  generalize tabs f q inv=T at a eT eT2 eQ ⊢
  simp (disch:=omega) only [pz,ZdT,eT2,eQ,c,a,hg]
 have g:loop (ZdT ⟨f,m⟩ (tabs f q inv) m.length (pwN q m.length)) ([],0)=some (tabl (pwN q m.length) (wd f q w m m.length)):=e.trans (Zc (by simp (disch:=omega) only [pz,ZdT]))
 have eF:Zd.mk f.Prime f.Degree f.Poly=f:=rfl
 have eQ:(tabs f q inv).qq=q:=rfl
 unfold ZjL
 simp (disch:=omega) only [pz,eF,ht,ZF,eQ,hp,g]
theorem ZBJ (w0:0≤w) (m1:1≤(m.length:Int)) (hs:Zbk f=some q) (hN:pwN q m.length≤4096):Zih ⟨f,m⟩=some (tabl (pwN q m.length) (wd f q w m m.length)):=by
 have hmn:=hm.n
 have a6:=hm.w1
 have j:=hF.q2
 have v:=hF.q64
 have eF:Zd.mk f.Prime f.Degree f.Poly=f:=rfl
 have o:=hm.len 0 (by omega) (by omega)
 have hmk:=ZaN (b:=8) (z:=(0:Int)) (n:=w) (by omega) (by omega) (by omega)
 have e:=Zj (B:=ZdP ⟨f,m⟩ q) (fun i:Int=>(tabl (pwN q i.toNat) (wd f q w m i.toNat),i)) (i:=0) (n:=(m.length:Int)) (by omega) fun i r s=>by
  have hrl:=hm.len i r s
  have hri:=hm.rng i r s
  have hP0:=ZaQ (p:=q) j i.toNat
  have hP1:pwN q i.toNat*q≤4096:=by
   have h1:pwN q (i.toNat+1)=pwN q i.toNat*q:=rfl
   have h2:=pw_lo j (a:=i.toNat+1) (b:=m.length) (by omega)
   omega
  have eP:pwN q (i+1).toNat=pwN q i.toNat*q:=by rw [show (i+1).toNat=i.toNat+1 by omega];rfl
  have hY:((tabl (pwN q i.toNat) (wd f q w m i.toNat)).length:Int)=pwN q i.toNat:=by rw [Zk];omega
  have hYx:∀ k,0≤k→k<pwN q i.toNat→ix (tabl (pwN q i.toNat) (wd f q w m i.toNat)) k=wd f q w m i.toNat k:=fun k h k1=>Zq h k1
  have hM:((tabl q fun x=>scl f (ix m i) x).length:Int)=q:=by rw [Zk];omega
  have hMx:∀ x,0≤x→x<q→ix (tabl q fun x=>scl f (ix m i) x) x=scl f (ix m i) x:=fun x c g=>Zq c g
  rw [eP]
  generalize hYY:tabl (pwN q i.toNat) (wd f q w m i.toNat)=Y at hY hYx ⊢
  generalize pwN q i.toNat=P at hP0 hP1 hY hYx hYY ⊢
  have hP2:P*1≤P*q:=Int.mul_le_mul_of_nonneg_left (by omega) (by omega)
  have b4:∀ k,0≤k→k<P→loop (Zeb ⟨f,m⟩ q Y (tabl q fun x=>scl f (ix m i) x) k) (tabl (k*q) (wd f q w m (i+1).toNat),0)=some (.inl (tabl ((k+1)*q) (wd f q w m (i+1).toNat),k+1)):=fun k h k1=>by
   have hkq:0≤k*q:=Int.mul_nonneg h (by omega)
   have a7:(k+1)*q≤P*q:=Int.mul_le_mul_of_nonneg_right (by omega) (by omega)
   have u:(k+1)*q=k*q+q:=by rw [Int.add_mul,Int.one_mul]
   have e:=Zj (B:=Zeb ⟨f,m⟩ q Y (tabl q fun x=>scl f (ix m i) x) k) (fun x:Int=>(tabl (k*q+x) (wd f q w m (i+1).toNat),x)) (i:=0) (n:=q) (by omega) fun x c g=>by
    have hl:((tabl (k*q+x) (wd f q w m (i+1).toNat)).length:Int)=k*q+x:=by rw [Zk];omega
    have hYk:=hYx k h k1
    have hMk:=hMx x c g
    have hwl:=Zf1 hF (m:=m) w0 i.toNat k
    have hwi:=wd_in hF (m:=m) w0 i.toNat k
    have hsl:(scl f (ix m i) x).length=(ix m i).length:=Zi0
    have hpl:=ZyH hF (a:=wd f q w m i.toNat k) (b:=scl f (ix m i) x) hwi (Zkd hF) (by omega) (by omega)
    have eW:(tabl ((wd f q w m i.toNat k).length:Int) fun t=>sumA f (ix (wd f q w m i.toNat k) t) (ix (scl f (ix m i) x) t) 1)=wd f q w m (i+1).toNat (k*q+x):=by
     rw [show (i+1).toNat=i.toNat+1 by omega,wd,hwl]
     have l:(k*q+x)/q=k:=by rw [Int.add_comm,Int.add_mul_ediv_right _ _ (by omega),Int.ediv_eq_zero_of_lt c g];omega
     have e2:(k*q+x)%q=x:=by rw [Int.add_comm,Int.add_mul_emod_self_right,Int.emod_eq_of_lt c g]
     rw [l,e2,show ((i.toNat:Nat):Int)=i by omega]
     refine ZN fun t t0 t1=>?_
     congr 1
     exact Zq t0 (by omega)
    rw [eW] at hpl
    have hg:=gAppV (xs:=tabl (k*q+x) (wd f q w m (i+1).toNat)) (y:=wd f q w m (i+1).toNat (k*q+x)) (by omega)
    rw [←Za6 (by omega)] at hg
    have ea:k*q+(x+1)=k*q+x+1:=by omega
    rw [ea]
    simp (disch:=omega) only [pz,Zeb,hYk,hMk,eF,hpl,hg]
   rw [Int.add_zero] at e
   rw [e,u]
   exact Zc (by simp (disch:=omega) only [pz,Zeb])
  have b3:loop (ZdJ ⟨f,m⟩ q Y i (tabl q fun x=>scl f (ix m i) x)) ([],0)=some (.inr (.inl (tabl (P*q) (wd f q w m (i+1).toNat),i+1))):=by
   have e:=Zj (B:=ZdJ ⟨f,m⟩ q Y i (tabl q fun x=>scl f (ix m i) x)) (fun k:Int=>(tabl (k*q) (wd f q w m (i+1).toNat),k)) (i:=0) (n:=P) (by omega) fun k h k1=>by
    have:=b4 k h k1
    simp (disch:=omega) only [pz,ZdJ,this]
   rw [Int.zero_mul] at e
   exact e.trans (Zc (by simp (disch:=omega) only [pz,ZdJ]))
  have b2:loop (ZeT ⟨f,m⟩ q Y i) ([],0)=some (.inl (tabl (P*q) (wd f q w m (i+1).toNat),i+1)):=by
   have e:=Zj (B:=ZeT ⟨f,m⟩ q Y i) (fun x:Int=>(tabl x fun x=>scl f (ix m i) x,x)) (i:=0) (n:=q) (by omega) fun x c g=>by
    have hsc:=Zte hF hri (by omega) c g
    have hl:((tabl x fun x=>scl f (ix m i) x).length:Int)=x:=by rw [Zk];omega
    have hg:=gAppV (xs:=tabl x fun x=>scl f (ix m i) x) (y:=scl f (ix m i) x) (by omega)
    rw [←Za6 (f:=fun x=>scl f (ix m i) x) c] at hg
    simp (disch:=omega) only [pz,ZeT,eF,hsc,hg]
   exact e.trans (Zc (by simp (disch:=omega) only [pz,ZeT,b3]))
  simp (disch:=omega) only [pz,ZdP,b2]
 have e0:tabl (pwN q (0:Int).toNat) (wd f q w m (0:Int).toNat)=[List.replicate w.toNat 0]:=by
  rw [ZeK];rfl
 rw [e0,Int.toNat_natCast] at e
 have l:loop (ZdP ⟨f,m⟩ q) ([List.replicate w.toNat 0],0)=some (tabl (pwN q m.length) (wd f q w m m.length)):=e.trans (Zc (by simp (disch:=omega) only [pz,ZdP]))
 unfold Zih
 simp (disch:=omega) only [pz,eF,o,hmk,hs,l]
theorem ZxA (hz:Sz2 m) (w0:0≤w) (y:1≤(m.length:Int)) (h:Zcc f m=some m):∃ r:Nat,∃ t:Int,(r:Int)<m.length∧0≤t∧t<w∧¬ ix (ix m (r:Int)) t=0:=by
 refine Classical.byContradiction fun hno=>?_
 have hall:∀ i,0≤i→i<(m.length:Int)→∀ t,0≤t→t<w→ix (ix m i) t=0:=fun i i0 a t o p=>Classical.byContradiction fun hne=>hno ⟨i.toNat,t,by omega,o,p,by rw [show ((i.toNat:Nat):Int)=i by omega];exact hne⟩
 have g:=hm.len 0 (by omega) (by omega)
 have x:=hm.w1
 have e:=Zj (B:=Za2 f w) (fun c:Int=>(([]:List Int),c,m)) (i:=0) (n:=w) w0 fun c j c1=>by
  obtain ⟨i,a,i2,i3,s,l⟩:=Zr4 (f:=f) (piv:=[]) hm j c1 (by simp)
  have a:0≤i:=a
  have hi:i=(m.length:Int):=by
   by_cases hh:i<(m.length:Int)
   ·exact absurd (hall i a hh c j c1) (s hh)
   ·omega
  have hk:Zaw f [] c m i=some (.inl ([],c+1,m)):=by
   unfold Zaw
   simp (disch:=omega) only [pz,hi]
  rw [hk] at l
  have b:((([]:List Int).length:Nat):Int)=0:=rfl
  simp (disch:=omega) only [pz,Za2,l,b]
 have u:loop (Za2 f w) (([]:List Int),0,m)=some (m,[]):=e.trans (Zc (by simp (disch:=omega) only [pz,Za2]))
 have v:Zcc f m=some (m.take 0):=by
  unfold Zcc Zg9
  rw [ZsW hz]
  have hs:=ZqQ (xs:=m) (k:=0) (by omega)
  have b:((([]:List Int).length:Nat):Int)=((0:Nat):Int):=rfl
  simp (disch:=omega) only [pz,g,u,b,hs]
 rw [v] at h
 have:=congrArg List.length (Option.some.inj h)
 simp at this
 omega
end
end Go.Proofs.YtghbgeaammnkcaaGreatDoor
namespace Go.Proofs.YtghbgeaammnkcaaGreatDoor
set_option linter.unusedVariables false
open Go Go.Vc
set_option linter.unusedSimpArgs false
theorem fct {W w:ByteArray} {n:Int} (hW:W=w++⟨#[32]⟩) (hw:W.size≤100) (a:-9223372036854775808≤n) (b:n≤9223372036854775807):Zab n=some (itoaB n)∧gFit W (itoaB n)=some ()∧W++itoaB n=fctW w n∧Zad w n=some (fctW w n):=by
 refine ⟨ZlM a b,Zqx hw a b,by rw [hW];rfl,ZpI ?_ a b⟩
 rw [hW,Zpk] at hw
 omega
structure CodeV (o:Zl) (f:Zd) (inv:List Int):Prop where
 F:Ff f o.Size inv
 si:Zby f=some o.Size
 ss:Zbk f=some o.Size
 M:VMat o.Size o.Rows
 r8:(o.Rows.length:Int)≤8
 few:pwN o.Size o.Rows.length≤4096
 form:Zcc f o.Rows=some o.Rows
 cs:Zbx o=some ⟨f,o.Rows⟩
 ci:Zce o=some ⟨f,o.Rows⟩
 oks:Zax ⟨f,o.Rows⟩=some true
 oki:Zdr ⟨f,o.Rows⟩=some true
theorem ZA4 {o:Zl} (hs:Sz2 o.Rows) (h:ZZ o=some true) (hk:o.Kind=5):∃ f inv,CodeV o f inv:=by
 obtain ⟨cs,ci,b,i,r,c,u⟩:=ZuC hs
 have v:ZQ.mk (Zd.mk cs.Field.Prime cs.Field.Degree cs.Field.Poly) cs.Rows=cs:=rfl
 have s:ZZ o=some b:=by unfold ZZ;simp (disch:=omega) only [pz,i,v,c]
 rw [h] at s
 obtain rfl:b=true:=(Option.some.inj s).symm
 rcases Zru o.Size with ⟨f,hm⟩|⟨x,e,h2⟩
 ·obtain ⟨inv,hF⟩:=Zuu hm.gf
  have eF:Zd.mk f.Prime f.Degree f.Poly=f:=rfl
  have k:Zbx o=some ⟨f,o.Rows⟩:=by
   have hp:=hF.fd.p2
   unfold Zbx
   rw [hm.split]
   simp (disch:=omega) only [pz,hm.mks,eF]
  have t:Zce o=some ⟨f,o.Rows⟩:=by
   unfold Zce
   rw [Zck hs,hm.mki]
   simp (disch:=omega) only [pz,eF]
  rw [k] at i
  rw [t] at r
  obtain rfl:=Option.some.inj i
  obtain rfl:=Option.some.inj r
  have l:=hF.q2
  have g:=hF.q64
  have hN:=hs.1
  by_cases hV:VMat o.Size o.Rows
  ·have j:=(ZkB hm l g hs).eq hV
   have n1:=hV.n1;have w2:=hV.w2;have w1:=hV.w1
   by_cases y:(o.Rows.length:Int)≤8
   ·obtain ⟨cs,ci,k1,k2,k3⟩:=ZnU l g o.Rows.length 1 (by omega) (by omega) (by omega)
    have c1:Zi6 o.Size (o.Rows.length:Int)=some cs:=k1
    by_cases hz:cs=0
    ·have:Zax ⟨f,o.Rows⟩=some false:=by
      unfold Zax Zdm
      simp (disch:=omega) only [pz,eF,j,hm.szs,c1]
     rw [this] at c;cases c
    ·have hfew:=Zzn l g (by omega) k1 hz
     obtain ⟨R,piv,d,p,r2,r3,r4⟩:=Zs8 hF hs hV.mat (by omega) n1
     obtain ⟨b,s1,s3⟩:=Zox (a:=R) (b:=o.Rows) (by omega) r4
     have:Zax ⟨f,o.Rows⟩=some b:=by
      unfold Zax Zdm
      simp (disch:=omega) only [pz,eF,j,hm.szs,c1,p,s1]
     rw [this] at c
     rw [s3.1 (Option.some.inj c)] at p
     exact ⟨f,inv,hF,hm.szi,hm.szs,hV,y,hfew,p,k,t,by rw [this,c],u⟩
   ·have:Zax ⟨f,o.Rows⟩=some false:=by
     unfold Zax Zdm
     simp (disch:=omega) only [pz,eF,j]
    rw [this] at c;cases c
  ·have j:=(ZkB hm l g hs).ne hV
   have:Zax ⟨f,o.Rows⟩=some false:=by
    unfold Zax Zdm
    simp (disch:=omega) only [pz,eF,j]
   rw [this] at c;cases c
 ·have k:Zbx o=some ⟨⟨0,0,[]⟩,[]⟩:=by
   unfold Zbx
   rw [x]
   simp (disch:=omega) only [pz,]
  rw [k] at i
  obtain rfl:=Option.some.inj i
  have:Zax ⟨⟨0,0,[]⟩,[]⟩=some false:=rfl
  rw [this] at c;cases c
theorem ZEe {o:Zl} {f:Zd} {inv:List Int} (e:CodeV o f inv) (hz:Sz2 o.Rows):∃ c:List Int,Zf3 ⟨f,o.Rows⟩=some c∧Zfb ⟨f,o.Rows⟩=some c∧∃ d:Int,1≤d∧d<(c.length:Int)∧(∀ j,1≤j→j<d→ix c j=0)∧¬ ix c d=0∧c.length≤64:=by
 have hF:=e.F
 have hM:=e.M.mat
 have n1:=e.M.n1;have w1:=e.M.w1;have w2:=e.M.w2
 have g:=hF.q2
 have s1:=ZBJ hF hM (by omega) n1 e.ss e.few
 have s2:=ZvB hF hM (by omega) n1 e.si e.few
 have hP:=ZaQ (p:=o.Size) g o.Rows.length
 have hfew:=e.few
 obtain ⟨r,t,hr,h,u,hne⟩:=ZxA hF hM hz (by omega) n1 e.form
 obtain ⟨n,l,s,hnz⟩:=wd_nz hF hM (by omega) h u hne o.Rows.length (Nat.le_refl _) (by omega)
 have hwl:=fun n=>Zf1 hF (m:=o.Rows) (w:=((ix o.Rows 0).length:Int)) (by omega) o.Rows.length n
 have hWl:((tabl (pwN o.Size o.Rows.length) (wd f o.Size ((ix o.Rows 0).length:Int) o.Rows o.Rows.length)).length:Int)=pwN o.Size o.Rows.length:=by rw [Zk];omega
 have hWx:∀ n,0≤n→n<pwN o.Size o.Rows.length→ix (tabl (pwN o.Size o.Rows.length) (wd f o.Size ((ix o.Rows 0).length:Int) o.Rows o.Rows.length)) n=wd f o.Size ((ix o.Rows 0).length:Int) o.Rows o.Rows.length n:=fun n n0 n1=>Zq n0 n1
 generalize tabl (pwN o.Size o.Rows.length) (wd f o.Size ((ix o.Rows 0).length:Int) o.Rows o.Rows.length)=W at s1 s2 hWl hWx
 generalize wd f o.Size ((ix o.Rows 0).length:Int) o.Rows o.Rows.length=wf at hnz hwl hWx
 generalize hP':pwN o.Size o.Rows.length=P at hP hfew s hWl hWx
 have hlen:∀ i,0≤i→i<(W.length:Int)→((ix W i).length:Int)=((ix o.Rows 0).length:Int):=fun i v i1=>by rw [hWx i v (by omega),hwl]
 obtain ⟨k1,x⟩:=ZCb (ws:=W) (w:=((ix o.Rows 0).length:Int)) (by omega) (by omega) hlen (by omega)
 have hcl:((cwN W ((ix o.Rows 0).length:Int) W.length).length:Int)=((ix o.Rows 0).length:Int)+1:=by unfold cwN;rw [Zk];omega
 have hmk:=ZaN (b:=8) (z:=(0:Int)) (n:=((ix o.Rows 0).length:Int)+1) (by omega) (by omega) (by omega)
 have eF:Zd.mk f.Prime f.Degree f.Poly=f:=rfl
 -- a word of a weight that is not 0
 have hwt:=Zgg (wf n) (wf n).length
 have hwt:0≤wt (wf n)∧wt (wf n)≤(wf n).length:=hwt
 have hwn:=hwl n
 have hpos:0<wt (wf n):=Ztp h hnz (wf n).length (by omega)
 have hcx:ix (cwN W ((ix o.Rows 0).length:Int) W.length) (wt (wf n))=cntB W (fun r=>decide (wt r=wt (wf n))) W.length:=Zq (by omega) (by omega)
 have hcp:=Ztg (bs:=W) (p:=fun r=>decide (wt r=wt (wf n))) (k:=n) l (by simp [hWx n l s]) W.length (by omega)
 refine ⟨cwN W ((ix o.Rows 0).length:Int) W.length,?_,?_,?_⟩
 ·unfold Zf3
  simp (disch:=omega) only [pz,hmk,s1,k1]
 ·unfold Zfb Ze6
  simp (disch:=omega) only [pz,ZH,hmk,eF,s2,x]
 ·rcases ZaK (σ:=Int) (ρ:=Unit) (B:=fun k=>some (.inl (k+1))) (fun k=>k) (fun d=>¬ ix (cwN W ((ix o.Rows 0).length:Int) W.length) d=0) (i:=1) (n:=((ix o.Rows 0).length:Int)+1) (by omega) (fun k _ _ _=>rfl) with ⟨d,y,d1,hd,hj,_⟩|⟨hall,_⟩
  ·exact ⟨d,y,by omega,fun j a b=>Classical.not_not.1 (hj j a b),hd,by omega⟩
  ·exact absurd (hall (wt (wf n)) (by omega) (by omega)) (by rw [hcx];omega)
theorem ZB0 {o:Zl} {f:Zd} {inv:List Int} (a:CodeV o f inv) (hz:Sz2 o.Rows):∃ l:List ByteArray,ZiY ⟨f,o.Rows⟩=some l∧Zi7 o=some l∧l.length≤100:=by
 obtain ⟨c,c1,c2,d,j,d1,dz,dn,dl⟩:=ZEe a hz
 have n1:=a.M.n1;have w1:=a.M.w1;have w2:=a.M.w2;have n2:=a.M.n2
 have eF:Zd.mk f.Prime f.Degree f.Poly=f:=rfl
 have e:Zl.mk o.Kind o.Size o.Rows=o:=rfl
 have b:=Zj (B:=Zgq c) (fun k=>k) (i:=1) (n:=d) j fun k g k1=>by
  have:=dz k g k1
  simp (disch:=omega) only [pz,Zgq,this]
 have h:=Zj (B:=Zfh c) (fun k=>k) (i:=1) (n:=d) j fun k g k1=>by
  have:=dz k g k1
  simp (disch:=omega) only [pz,Zfh,this]
 have b:loop (Zgq c) 1=some (d,0):=b.trans (Zc (by simp (disch:=omega) only [pz,Zgq]))
 have h:loop (Zfh c) 1=some (d,0):=h.trans (Zc (by simp (disch:=omega) only [pz,Zfh]))
 have p:Ziy ⟨f,o.Rows⟩=some (d,0):=by
  unfold Ziy
  simp (disch:=omega) only [pz,eF,a.oks,c1,b]
 have r:ZiK ⟨f,o.Rows⟩=some (d,0):=by
  unfold ZiK
  simp (disch:=omega) only [pz,eF,a.oki,c2,h]
 obtain ⟨d1',s,t,c1'⟩:=fct (W:=⟨#[108,101,110,103,116,104,32]⟩) (w:=⟨#[108,101,110,103,116,104]⟩) (n:=((ix o.Rows 0).length:Int)) rfl (by decide) (by omega) (by omega)
 obtain ⟨d2',u,v,c2'⟩:=fct (W:=⟨#[100,105,109,101,110,115,105,111,110,32]⟩) (w:=⟨#[100,105,109,101,110,115,105,111,110]⟩) (n:=(o.Rows.length:Int)) rfl (by decide) (by omega) (by omega)
 obtain ⟨d3',x,y,c3'⟩:=fct (W:=⟨#[100,105,115,116,97,110,99,101,32]⟩) (w:=⟨#[100,105,115,116,97,110,99,101]⟩) (n:=d) rfl (by decide) (by omega) (by omega)
 have t1:=ZDL c
 have t2:=ZCW c
 have tz:=ZFH c
 have tf:gFit ⟨#[119,101,105,103,104,116,115,32]⟩ (tL c)=some ():=gFitW (by show 8+_≤_;omega)
 have hg:=gAppS (xs:=[fctW ⟨#[108,101,110,103,116,104]⟩ ((ix o.Rows 0).length:Int),fctW ⟨#[100,105,109,101,110,115,105,111,110]⟩ (o.Rows.length:Int),fctW ⟨#[100,105,115,116,97,110,99,101]⟩ d]) (ys:=[(⟨#[119,101,105,103,104,116,115,32]⟩:ByteArray)++tL c]) (by simp)
 refine ⟨[fctW ⟨#[108,101,110,103,116,104]⟩ ((ix o.Rows 0).length:Int),fctW ⟨#[100,105,109,101,110,115,105,111,110]⟩ (o.Rows.length:Int),fctW ⟨#[100,105,115,116,97,110,99,101]⟩ d]++[(⟨#[119,101,105,103,104,116,115,32]⟩:ByteArray)++tL c],?_,?_,by simp⟩
 ·unfold ZiY
  simp (disch:=omega) only [pz,p,d1',s,t,d2',u,v,d3',x,y,c1,t1,tf]
  rfl
 ·unfold Zi7
  simp (disch:=omega) only [pz,e,a.ci,eF,r,Ze6,ZH,ZF,c1',c2',c3',c2,t2,tf,hg]
end Go.Proofs.YtghbgeaammnkcaaGreatDoor
namespace Go.Proofs.YtghbgeaammnkcaaGreatDoor
set_option linter.unusedVariables false
open Go Go.Vc
set_option linter.unusedSimpArgs false
theorem kind1 {o:Zl} (hs:Sz2 o.Rows) (h:ZZ o=some true) (hk:o.Kind=1):ValidSq o.Rows∧(o.Rows.length:Int)=o.Size:=by
 obtain ⟨c,a,q2⟩:=Zly hs
 unfold ZZ at h
 by_cases hl:(o.Rows.length:Int)=o.Size
 ·cases c with
  | true=>exact ⟨q2.1 rfl,hl⟩
  | false=>
   have:ZZ o=some false:=by unfold ZZ;simp (disch:=omega) only [pz,a]
   unfold ZZ at this
   rw [this] at h;cases h
 ·have:ZZ o=some false:=by unfold ZZ;cases c<;>simp (disch:=omega) only [pz,a]
  unfold ZZ at this
  rw [this] at h;cases h
theorem kind2 {o:Zl} (hs:Sz2 o.Rows) (h:ZZ o=some true) (hk:o.Kind=2):ValidD ⟨o.Size,o.Rows⟩:=by
 obtain ⟨c,a,q2⟩:=ZsI (d:=⟨o.Size,o.Rows⟩) hs
 have:ZZ o=some c:=by unfold ZZ;simp (disch:=omega) only [pz,a]
 rw [h] at this
 exact q2.1 (Option.some.inj this).symm
theorem kind3 {o:Zl} (hs:Sz2 o.Rows) (h:ZZ o=some true) (hk:o.Kind=3):ValidHd o.Rows∧(o.Rows.length:Int)=o.Size:=by
 obtain ⟨c,a,q2⟩:=Zoe hs
 by_cases hl:(o.Rows.length:Int)=o.Size
 ·cases c with
  | true=>exact ⟨q2.1 rfl,hl⟩
  | false=>
   have:ZZ o=some false:=by unfold ZZ;simp (disch:=omega) only [pz,a]
   rw [this] at h;cases h
 ·have:ZZ o=some false:=by unfold ZZ;cases c<;>simp (disch:=omega) only [pz,a]
  rw [this] at h;cases h
theorem kind4 {o:Zl} (hs:Sz2 o.Rows) (h:ZZ o=some true) (hk:o.Kind=4):ValidAr ⟨o.Size,(ix o.Rows 0).length,o.Rows⟩∧0<(o.Rows.length:Int):=by
 have hN:=hs.1
 by_cases hl:0<(o.Rows.length:Int)
 ·obtain ⟨c,b,q2⟩:=ZqH (a:=⟨o.Size,(ix o.Rows 0).length,o.Rows⟩) hs
  have:ZZ o=some c:=by unfold ZZ;simp (disch:=omega) only [pz,Zcw,b]
  rw [h] at this
  exact ⟨q2.1 (Option.some.inj this).symm,hl⟩
 ·have:ZZ o=some false:=by unfold ZZ;simp (disch:=omega) only [pz,Zcw]
  rw [this] at h;cases h
theorem ZyN {o:Zl} (hs:Sz2 o.Rows) (hz:-9223372036854775808≤o.Size∧o.Size≤9223372036854775807):∃ r,Zhw o=some r∧ZbY o=some r∧r.1.length≤100:=by
 have hN:=hs.1
 have e:Zl.mk o.Kind o.Size o.Rows=o:=rfl
 obtain ⟨c,u,t⟩:=Zxz hs
 unfold Zhw ZbY
 cases c with
 | false=>
  refine ⟨([],1),?_,?_,by simp⟩
  ·simp (disch:=omega) only [pz,e,u]
  ·simp (disch:=omega) only [pz,e,t]
 | true=>
 suffices hh:∃ l:List ByteArray,Zix o=some l∧ZbY o=some (l,0)∧l.length≤100 by
  obtain ⟨l,h1,y,h3⟩:=hh
  refine ⟨(l,0),?_,?_,h3⟩
  ·simp (disch:=omega) only [pz,e,u,h1]
  ·unfold ZbY at y
   exact y
 unfold Zix ZbY
 by_cases h1:o.Kind=1
 ·obtain ⟨v1,v2⟩:=kind1 hs u h1
  obtain ⟨l,s1,s2,x⟩:=sqFacts v1 hs v2
  exact ⟨l,by simp (disch:=omega) only [pz,s1],by simp (disch:=omega) only [pz,e,t,ZF,s2],x⟩
 by_cases y:o.Kind=2
 ·have v:=kind2 hs u y
  obtain ⟨⟨p,b⟩,p1,p2,r1,r2,r3⟩:=ZAN v
  dsimp only at r1 r2 r3
  obtain ⟨a,g,h,c1⟩:=fct (W:=⟨#[112,111,105,110,116,115,32]⟩) (w:=⟨#[112,111,105,110,116,115]⟩) (n:=o.Size) rfl (by decide) (by omega) (by omega)
  obtain ⟨i,j,k,c2⟩:=fct (W:=⟨#[98,108,111,99,107,115,32]⟩) (w:=⟨#[98,108,111,99,107,115]⟩) (n:=(o.Rows.length:Int)) rfl (by decide) (by omega) (by omega)
  cases b with
  | false=>
   refine ⟨[fctW ⟨#[112,111,105,110,116,115]⟩ o.Size,fctW ⟨#[98,108,111,99,107,115]⟩ (o.Rows.length:Int)],?_,?_,by simp⟩
   ·simp (disch:=omega) only [pz,Zg6,p1,a,g,h,i,j,k]
   ·simp (disch:=omega) only [pz,e,t,ZiU,Zec,Zck hs,p2,ZF,c1,c2]
  | true=>
   obtain ⟨d3,f3,x3,c3⟩:=fct (W:=⟨#[114,101,112,108,105,99,97,116,105,111,110,32]⟩) (w:=⟨#[114,101,112,108,105,99,97,116,105,111,110]⟩) (n:=p.R) rfl (by decide) (by omega) (by omega)
   obtain ⟨d4,f4,x4,c4⟩:=fct (W:=⟨#[98,108,111,99,107,32,115,105,122,101,32]⟩) (w:=⟨#[98,108,111,99,107,32,115,105,122,101]⟩) (n:=p.K) rfl (by decide) (by omega) (by omega)
   obtain ⟨d5,f5,x5,c5⟩:=fct (W:=⟨#[108,97,109,98,100,97,32]⟩) (w:=⟨#[108,97,109,98,100,97]⟩) (n:=p.Lambda) rfl (by decide) (by omega) (by omega)
   have hg:=gAppS (xs:=[fctW ⟨#[112,111,105,110,116,115]⟩ o.Size,fctW ⟨#[98,108,111,99,107,115]⟩ (o.Rows.length:Int)]) (ys:=[fctW ⟨#[114,101,112,108,105,99,97,116,105,111,110]⟩ p.R,fctW ⟨#[98,108,111,99,107,32,115,105,122,101]⟩ p.K,fctW ⟨#[108,97,109,98,100,97]⟩ p.Lambda]) (by simp)
   refine ⟨[fctW ⟨#[112,111,105,110,116,115]⟩ o.Size,fctW ⟨#[98,108,111,99,107,115]⟩ (o.Rows.length:Int)]++[fctW ⟨#[114,101,112,108,105,99,97,116,105,111,110]⟩ p.R,fctW ⟨#[98,108,111,99,107,32,115,105,122,101]⟩ p.K,fctW ⟨#[108,97,109,98,100,97]⟩ p.Lambda],?_,?_,by simp⟩
   ·simp (disch:=omega) only [pz,Zg6,p1,a,g,h,i,j,k,d3,f3,x3,d4,f4,x4,d5,f5,x5,hg]
   ·simp (disch:=omega) only [pz,e,t,ZiU,Zec,Zck hs,p2,ZF,c1,c2,c3,c4,c5,hg]
 by_cases h3:o.Kind=3
 ·obtain ⟨v1,v2⟩:=kind3 hs u h3
  obtain ⟨s1,s2,x,s4⟩:=ZEG v1 hs
  obtain ⟨a,g,h,c1⟩:=fct (W:=⟨#[111,114,100,101,114,32]⟩) (w:=⟨#[111,114,100,101,114]⟩) (n:=o.Size) rfl (by decide) (by omega) (by omega)
  obtain ⟨i,j,k,c2⟩:=fct (W:=⟨#[101,120,99,101,115,115,32]⟩) (w:=⟨#[101,120,99,101,115,115]⟩) (n:=(exc o.Rows)) rfl (by decide) (by omega) (by omega)
  refine ⟨[fctW ⟨#[111,114,100,101,114]⟩ o.Size,fctW ⟨#[101,120,99,101,115,115]⟩ (exc o.Rows)],?_,?_,by simp⟩
  ·simp (disch:=omega) only [pz,s1,a,g,h,i,j,k]
  ·simp (disch:=omega) only [pz,e,t,ZF,s2,c1,c2]
 by_cases h4:o.Kind=4
 ·obtain ⟨v,v2⟩:=kind4 hs u h4
  obtain ⟨s,s1,s2,x,s4⟩:=ZD7 v hs
  have ac:=v.c2
  dsimp only at ac
  obtain ⟨a,g,h,c1⟩:=fct (W:=⟨#[108,101,118,101,108,115,32]⟩) (w:=⟨#[108,101,118,101,108,115]⟩) (n:=o.Size) rfl (by decide) (by omega) (by omega)
  obtain ⟨i,j,k,c2⟩:=fct (W:=⟨#[99,111,108,117,109,110,115,32]⟩) (w:=⟨#[99,111,108,117,109,110,115]⟩) (n:=((ix o.Rows 0).length:Int)) rfl (by decide) (by omega) (by omega)
  obtain ⟨d3,f3,x3,c3⟩:=fct (W:=⟨#[114,111,119,115,32]⟩) (w:=⟨#[114,111,119,115]⟩) (n:=(o.Rows.length:Int)) rfl (by decide) (by omega) (by omega)
  obtain ⟨d4,f4,x4,c4⟩:=fct (W:=⟨#[115,116,114,101,110,103,116,104,32]⟩) (w:=⟨#[115,116,114,101,110,103,116,104]⟩) (n:=s) rfl (by decide) (by omega) (by omega)
  refine ⟨[fctW ⟨#[108,101,118,101,108,115]⟩ o.Size,fctW ⟨#[99,111,108,117,109,110,115]⟩ ((ix o.Rows 0).length:Int),fctW ⟨#[114,111,119,115]⟩ (o.Rows.length:Int),fctW ⟨#[115,116,114,101,110,103,116,104]⟩ s],?_,?_,by simp⟩
  ·simp (disch:=omega) only [pz,Zcw,s1,a,g,h,i,j,k,d3,f3,x3,d4,f4,x4]
  ·simp (disch:=omega) only [pz,e,t,Ze7,ZF,ZH,Zck hs,s2,c1,c2,c3,c4]
 by_cases h5:o.Kind=5
 ·obtain ⟨f,inv,hv⟩:=ZA4 hs u h5
  obtain ⟨l,s1,s2,x⟩:=ZB0 hv hs
  have eF:Zd.mk f.Prime f.Degree f.Poly=f:=rfl
  exact ⟨l,by simp (disch:=omega) only [pz,hv.cs,eF,s1],by simp (disch:=omega) only [pz,e,t,ZF,s2],x⟩
 by_cases h6:o.Kind=6
 ·obtain ⟨a,g,h,c1⟩:=fct (W:=⟨#[118,101,114,116,105,99,101,115,32]⟩) (w:=⟨#[118,101,114,116,105,99,101,115]⟩) (n:=o.Size) rfl (by decide) (by omega) (by omega)
  obtain ⟨i,j,k,c2⟩:=fct (W:=⟨#[101,100,103,101,115,32]⟩) (w:=⟨#[101,100,103,101,115]⟩) (n:=(o.Rows.length:Int)) rfl (by decide) (by omega) (by omega)
  refine ⟨[fctW ⟨#[118,101,114,116,105,99,101,115]⟩ o.Size,fctW ⟨#[101,100,103,101,115]⟩ (o.Rows.length:Int)],?_,?_,by simp⟩
  ·simp (disch:=omega) only [pz,a,g,h,i,j,k]
  ·simp (disch:=omega) only [pz,e,t,ZF,c1,c2]
 ·obtain ⟨a,g,h,c1⟩:=fct (W:=⟨#[100,101,103,114,101,101,32]⟩) (w:=⟨#[100,101,103,114,101,101]⟩) (n:=o.Size) rfl (by decide) (by omega) (by omega)
  obtain ⟨i,j,k,c2⟩:=fct (W:=⟨#[101,108,101,109,101,110,116,115,32]⟩) (w:=⟨#[101,108,101,109,101,110,116,115]⟩) (n:=(o.Rows.length:Int)) rfl (by decide) (by omega) (by omega)
  refine ⟨[fctW ⟨#[100,101,103,114,101,101]⟩ o.Size,fctW ⟨#[101,108,101,109,101,110,116,115]⟩ (o.Rows.length:Int)],?_,?_,by simp⟩
  ·simp (disch:=omega) only [pz,a,g,h,i,j,k]
  ·simp (disch:=omega) only [pz,e,t,ZF,c1,c2]
end Go.Proofs.YtghbgeaammnkcaaGreatDoor
