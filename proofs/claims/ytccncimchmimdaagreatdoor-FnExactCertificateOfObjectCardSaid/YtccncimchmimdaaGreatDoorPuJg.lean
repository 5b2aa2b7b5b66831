import Derived.Test.YtccncimchmimdaaGreatDoorPuJd
import Derived.Test.YtccncimchmimdaaGreatDoorPuJa
import Derived.Test.YtccncimchmimdaaGreatDoorPuTxt
import Derived.Test.YtccncimchmimdaaGreatDoorPuJb
import Derived.Test.YtccncimchmimdaaGreatDoorPuFam
open Go.IntKind renaming i64->ε
namespace Go.Proofs.YtccncimchmimdaaGreatDoor
open Go Go.Vc
set_option linter.unusedSimpArgs false
set_option linter.unusedVariables false
structure VMat (q:Int) (m:List (List Int)):Prop where
 n1:1<=(m.length:Int)
 n2:(m.length:Int)<=32
 w1:1<=((ix m 0).length:Int)
 w2:((ix m 0).length:Int)<=32
 row:∀ i,0<=i->i<(m.length:Int)->((ix m i).length:Int)=(ix m 0).length/\In q (ix m i)
theorem VMat.mat {q:Int} {m:List (List Int)} (h:VMat q m):Mat q (ix m 0).length m:=⟨fun i a b=>(h.row i a b).1,fun i a b=>(h.row i a b).2,by have:=h.n2;omega,by have:=h.w2;omega⟩
theorem ZsD {f:Zf} {q:Int} (hs:Za8 f=some q) (o:2<=q) (j:q<=64) {v:List Int} (hv:(v.length:Int)<=1048576):IsQ (Zh4 f v) (In q v):=by
 unfold Zh4
 rw [hs]
 obtain ⟨c,l,q2⟩:=Zed (B:=ZeQ v q) (P:=fun k=>0<=ix v k/\ix v k<=q-1) (t:=true) (f:=false) (i:=0) (n:=v.length) ω
  (fun k a b c=>by simp (disch:=omega) only [pz,ZeQ,in_ok]) (fun k a b c=>by simp (disch:=omega) only [pz,ZeQ,in_ok]) (by simp (disch:=omega) only [pz,ZeQ])
 refine ⟨c,?_,q2.trans ⟨fun h i a b=>?_,fun h i a b=>?_⟩⟩
 ·show loop (ZeQ v q) 0=some c
  rw [l];cases c<;>rfl
 ·have:=h i a b;omega
 ·have:=h i a b;omega
theorem Zmp {f:Zf} {q:Int} (hm:Made q f) (o:2<=q) (b:q<=64) {m:List (List Int)} (hs:Sz2 m):IsQ (Zhw f m) (VMat q m):=by
 have x:=hs.1
 unfold Zhw Zj4
 rw [hm.oks]
 by_cases t:(m.length:Int)=0
 ·simp (disch:=omega) only [pz,];exact IsQ.f fun h=>by have:=h.n1;omega
 ·by_cases p:(m.length:Int)<=32
  ·by_cases u:((ix m 0).length:Int)=0
   ·simp (disch:=omega) only [pz,];exact IsQ.f fun h=>by have:=h.w1;omega
   ·by_cases s:((ix m 0).length:Int)<=32
    ·simp (disch:=omega) only [pz,]
     refine (ZaN (P:=fun i=>((ix m i).length:Int)=(ix m 0).length/\In q (ix m i)) (n:=m.length) (Q:=True) ω ?_ ?_ fun _=>?_).congr ⟨fun g=>⟨by omega,p,by omega,s,g.1⟩,fun g=>⟨g.row,trivial⟩⟩
     ·intro i j k c
      have l:=(ZsD hm.szs o b (hs.row j k)).eq c.2
      have:=c.1
      simp (disch:=omega) only [pz,Zfc,l]
     ·intro i j k c
      by_cases hl:((ix m i).length:Int)=(ix m 0).length
      ·have l:=(ZsD hm.szs o b (hs.row j k)).ne fun h=>c ⟨hl,h⟩
       simp (disch:=omega) only [pz,Zfc,l]
      ·simp (disch:=omega) only [pz,Zfc]
     ·rw [Ze (r:=true) (by simp (disch:=omega) only [pz,Zfc])];exact IsQ.t trivial
    ·simp (disch:=omega) only [pz,];exact IsQ.f fun h=>s h.w2
  ·simp (disch:=omega) only [pz,];exact IsQ.f fun h=>p h.n2
theorem Zuu {f:Zf} {q:Int} (hm:Made q f) (hq:2<=q) (u:q<=64) {m:List (List Int)} (hs:Sz2 m):IsQ (ZhH f m) (VMat q m):=by
 have hN:=hs.1
 have e:Zf.mk f.Prime f.Degree f.Poly=f:=rfl
 unfold ZhH Zkw
 rw [e,hm.oki]
 by_cases h1:(m.length:Int)=0
 ·simp (disch:=omega) only [pz,Z4,ZZ];exact IsQ.f fun h=>by have:=h.n1;omega
 ·by_cases o:(m.length:Int)<=32
  ·by_cases h3:((ix m 0).length:Int)=0
   ·simp (disch:=omega) only [pz,Z4,ZX,ZZ];exact IsQ.f fun h=>by have:=h.w1;omega
   ·by_cases p:((ix m 0).length:Int)<=32
    ·simp (disch:=omega) only [pz,Z4,ZX,ZZ,hm.szi]
     have y:=containsLL (s:=m) (fn:=fun j=>Zfs j m q) (q:=fun r=>¬ ((r.length:Int)=(ix m 0).length/\In q r)) hN fun r hr=>by
      show IsQ (Zfs r m q) _
      unfold Zfs Zk6
      by_cases hl:(r.length:Int)=(ix m 0).length
      ·have hi:=(containsL (s:=r) (fn:=fun j=>Zes j q) (q:=fun x=>¬ (0<=x/\x<=q-1)) (hs.2 r hr) fun x c=>by
        show IsQ (Zes x q) _
        unfold Zes
        by_cases c:0<=x/\x<=q-1
        ·simp (disch:=omega) only [pz,ZZ];exact IsQ.f fun h=>h c
        ·simp (disch:=omega) only [pz,ZZ];exact IsQ.t c).not.not
       have t:IsQ (((ZaT r fun j=>Zes j q).bind fun r=>some (!r)).bind fun r=>some (!r)) (¬ ((r.length:Int)=(ix m 0).length/\In q r)):=by
        refine hi.congr ⟨fun h g=>h fun ⟨x,c,l⟩=>?_,fun h g=>h ⟨hl,fun k a b=>?_⟩⟩
        ·obtain ⟨k,a,b,rfl⟩:=Z0 c
         have:=g.2 k a b
         exact l ⟨this.1,by omega⟩
        ·have:=Classical.byContradiction fun hh:¬ (0<=ix r k/\ix r k<=q-1)=>g ⟨ix r k,Zq a b,hh⟩
         omega
       simp (disch:=omega) only [pz,]
       exact t
      ·simp (disch:=omega) only [pz,]
       exact IsQ.t fun h=>hl h.1
     refine y.not.congr ⟨fun g=>⟨by omega,o,by omega,p,fun i a b=>?_⟩,fun g=>?_⟩
     ·exact Classical.byContradiction fun hh=>g ⟨ix m i,Zq a b,hh⟩
     ·rintro ⟨x,c,l⟩
      obtain ⟨i,a,b,rfl⟩:=Z0 c
      exact l (g.row i a b)
    ·simp (disch:=omega) only [pz,Z4,ZX,ZZ];exact IsQ.f fun h=>p h.w2
  ·simp (disch:=omega) only [pz,Z4,ZZ];exact IsQ.f fun h=>o h.n2
theorem Zqv {q:Int} (c:2<=q) (b:q<=64):∀ (e:Nat) (n:Int),e<=64->1<=n->n<=4096->∃ cs ci:Int,loop (Zbw q) ((e:Int),n)=some cs/\loop (ZaR q 4096) ((e:Int),n)=some ci/\(cs=0↔4096<ci)
 | 0,n,_,i,j=>by
  refine ⟨n,n,Ze ?_,Ze ?_,by omega⟩
  ·simp (disch:=omega) only [pz,Zbw]
  ·simp (disch:=omega) only [pz,ZaR]
 | e+1,n,he,i,j=>by
  have p:1*2<=n*q:=Int.mul_le_mul i c ω ω
  have s:n*q<=4096*64:=Int.mul_le_mul j b ω ω
  have x:((e+1:Nat):Int)-1=(e:Int):=ω
  have u:loop (ZaR q 4096) (((e+1:Nat):Int),n)=loop (ZaR q 4096) ((e:Int),n*q):=by
   refine ZI ?_
   simp (disch:=omega) only [pz,ZaR,ZeY,x]
  by_cases h:n*q<=4096
  ·obtain ⟨cs,ci,k,l,o⟩:=Zqv c b e (n*q) ω ω h
   refine ⟨cs,ci,?_,by rw [u,l],o⟩
   rw [<-k]
   refine ZI ?_
   simp (disch:=omega) only [pz,Zbw,x]
  ·refine ⟨0,n*q,Ze ?_,?_,by omega⟩
   ·simp (disch:=omega) only [pz,Zbw]
   ·rw [u]
    refine Ze ?_
    cases e with
    | zero=>simp (disch:=omega) only [pz,ZaR]
    | succ e=>simp (disch:=omega) only [pz,ZaR]
theorem ZBK {a b:List (List Int)} (ha:(a.length:Int)<=1048576) (u:∀ x∈a,(x.length:Int)<=1048576):IsQ (ZiO a b) (a=b):=by
 unfold ZiO
 refine IsQ.bind_id ?_
 unfold ZlR
 refine Zfb (by unfold M63;omega) (fun k x y i o=>?_) (by simp (disch:=omega) only [pz,Zjo])
 have j:=Zaf i
 have l:=Zaf o
 have hs:=Zm2 (a:=x) (b:=y) (u x (List.mem_of_getElem? i))
 by_cases h:x=y
 ·exact ZbT (c:=true) (by simp [h]) (by simp (disch:=omega) only [pz,Zjo,ZU i,ZU o,hs.eq h])
 ·exact ZbT (c:=false) (by simp [h]) (by simp (disch:=omega) only [pz,Zjo,ZU i,ZU o,hs.ne h])
theorem Zry {o:ZF} (hs:Sz2 o.Rows):∃ cs ci b,Zbd o=some cs/\Zcf o=some ci/\ZaA cs=some b/\Zdc ci=some b:=by
 have hN:=hs.1
 unfold Zbd Zcf
 rw [ZdX hs]
 rcases Zq8 o.Size with ⟨f,hm⟩|⟨k,e,l⟩
 ·obtain ⟨inv,hF⟩:=ZrS hm.gf
  have hp:=hF.fd.p2
  have i:=hF.q2
  have c:=hF.q64
  rw [hm.split,hm.mki,hm.mks]
  have e:Zf.mk f.Prime f.Degree f.Poly=f:=rfl
  suffices hh:∃ b,ZaA ⟨f,o.Rows⟩=some b/\Zdc ⟨f,o.Rows⟩=some b by
   obtain ⟨b,k,l⟩:=hh
   refine ⟨⟨f,o.Rows⟩,⟨f,o.Rows⟩,b,?_,?_,k,l⟩
   ·simp (disch:=omega) only [pz,e]
   ·simp (disch:=omega) only [pz,e]
  unfold ZaA Zdc Zc5 ZjT
  by_cases hV:VMat o.Size o.Rows
  ·have j:=(Zmp hm i c hs).eq hV
   have q2:=(Zuu hm i c hs).eq hV
   have n1:=hV.n1;have w2:=hV.w2
   by_cases h8:(o.Rows.length:Int)<=8
   ·obtain ⟨cs,ci,x,y,t⟩:=Zqv i c o.Rows.length 1 ω ω ω
    have c1:Zjv o.Size (o.Rows.length:Int)=some cs:=x
    have c2:Za5 o.Size (o.Rows.length:Int) 4096=some ci:=y
    by_cases hz:cs=0
    ·have a1:=t.1 hz
     refine ⟨false,?_,?_⟩
     ·simp (disch:=omega) only [pz,e,j,hm.szs,c1]
     ·simp (disch:=omega) only [pz,e,q2,hm.szi,Z4,c2]
    ·have a1:¬ 4096<ci:=fun h=>hz (t.2 h)
     obtain ⟨R,piv,d,r1,r2,r3,u⟩:=Zun hF hs hV.mat ω n1
     have p:=ZmS (a:=R) (b:=o.Rows) ω u
     have s:=ZBK (a:=R) (b:=o.Rows) ω u
     have ht:=Zu9 hF hm.szi
     obtain ⟨b,p,s3⟩:=p
     obtain ⟨b',s,s4⟩:=s
     have:b=b':=by rw [Bool.eq_iff_iff,s3,s4]
     subst this
     refine ⟨b,?_,?_⟩
     ·simp (disch:=omega) only [pz,e,j,hm.szs,c1,r1,p]
     ·simp (disch:=omega) only [pz,e,q2,hm.szi,Z4,c2,ht,r2,s]
   ·refine ⟨false,?_,?_⟩
    ·simp (disch:=omega) only [pz,e,j]
    ·simp (disch:=omega) only [pz,e,q2]
  ·have j:=(Zmp hm i c hs).ne hV
   have q2:=(Zuu hm i c hs).ne hV
   refine ⟨false,?_,?_⟩
   ·simp (disch:=omega) only [pz,e,j]
   ·simp (disch:=omega) only [pz,e,q2]
 ·rw [k,l]
  refine ⟨⟨⟨0,0,[]⟩,[]⟩,⟨⟨0,0,[]⟩,o.Rows⟩,false,?_,?_,?_,?_⟩
  ·simp (disch:=omega) only [pz,]
  ·simp (disch:=omega) only [pz,]
  ·rfl
  ·rfl
theorem two_q {a b:Option Bool} {p:Prop} (u:IsQ a p) (i:IsQ b p):∃ c,a=some c/\b=some c:=by
 obtain ⟨c,j,k⟩:=u
 obtain ⟨d,l,o⟩:=i
 have:c=d:=by rw [Bool.eq_iff_iff,k,o]
 subst this
 exact ⟨c,j,l⟩
theorem ZxE {o:ZF} (hs:Sz2 o.Rows):∃ c,ZaO o=some c/\ZeV o=some c:=by
 have hN:=hs.1
 have e:ZF.mk o.Kind o.Size o.Rows=o:=rfl
 unfold ZaO ZeV
 by_cases t:o.Kind=1
 ·obtain ⟨c,i,q2⟩:=two_q (ZmE hs) (ZmX hs)
  by_cases hl:(o.Rows.length:Int)=o.Size
  ·refine ⟨c,?_,?_⟩
   ·cases c<;>simp (disch:=omega) only [pz,i]
   ·simp (disch:=omega) only [pz,q2,Z4]
  ·refine ⟨false,?_,?_⟩
   ·cases c<;>simp (disch:=omega) only [pz,i]
   ·simp (disch:=omega) only [pz,q2,Z4]
 by_cases u:o.Kind=2
 ·obtain ⟨c,i,q2⟩:=two_q (Ztu (d:=⟨o.Size,o.Rows⟩) hs) (Zuf (d:=⟨o.Size,o.Rows⟩) hs)
  refine ⟨c,?_,?_⟩
  ·simp (disch:=omega) only [pz,i]
  ·simp (disch:=omega) only [pz,e,Zf6,ZdX hs,q2]
 by_cases x:o.Kind=3
 ·obtain ⟨c,i,q2⟩:=two_q (ZAn hs) (ZGb hs)
  by_cases hl:(o.Rows.length:Int)=o.Size
  ·refine ⟨c,?_,?_⟩
   ·cases c<;>simp (disch:=omega) only [pz,i]
   ·simp (disch:=omega) only [pz,q2,Z4]
  ·refine ⟨false,?_,?_⟩
   ·cases c<;>simp (disch:=omega) only [pz,i]
   ·simp (disch:=omega) only [pz,q2,Z4]
 by_cases y:o.Kind=4
 ·by_cases hl:0<(o.Rows.length:Int)
  ·obtain ⟨c,i,q2⟩:=two_q (ZCO (a:=⟨o.Size,(ix o.Rows 0).length,o.Rows⟩) hs) (ZGA (a:=⟨o.Size,(ix o.Rows 0).length,o.Rows⟩) hs)
   refine ⟨c,?_,?_⟩
   ·simp (disch:=omega) only [pz,Zjt,i]
   ·simp (disch:=omega) only [pz,e,Zk3,ZX,ZdX hs,q2]
  ·refine ⟨false,?_,?_⟩
   ·simp (disch:=omega) only [pz,Zjt]
   ·simp (disch:=omega) only [pz,]
 by_cases h5:o.Kind=5
 ·obtain ⟨cs,ci,b,j,k,l,p⟩:=Zry hs
  have s:Z5.mk (Zf.mk cs.Field.Prime cs.Field.Degree cs.Field.Poly) cs.Rows=cs:=rfl
  refine ⟨b,?_,?_⟩
  ·simp (disch:=omega) only [pz,j,s,l]
  ·simp (disch:=omega) only [pz,e,k,p]
 by_cases h6:o.Kind=6
 ·obtain ⟨r,j,k,_⟩:=Zvu hs
  refine ⟨r.2,?_,?_⟩
  ·simp (disch:=omega) only [pz,j]
  ·simp (disch:=omega) only [pz,e,k]
 by_cases h7:o.Kind=7
 ·obtain ⟨c,i,q2⟩:=two_q (Zy8 (g:=⟨o.Size,o.Rows⟩) hs) (ZC3 (g:=⟨o.Size,o.Rows⟩) hs)
  refine ⟨c,?_,?_⟩
  ·simp (disch:=omega) only [pz,i]
  ·simp (disch:=omega) only [pz,e,Zlt,ZdX hs,q2]
 ·refine ⟨false,?_,?_⟩
  ·simp (disch:=omega) only [pz,]
  ·simp (disch:=omega) only [pz,]
open Go Go.Vc Go.Lib
theorem gFitW {a b:ByteArray} (h:a.size+b.size<=4000000000000000000):gFit a b=some ():=by
 unfold gFit
 rw [if_pos]
 have:IntKind.i64.max=9223372036854775807:=rfl
 omega
def bl (l:List UInt8):ByteArray:=⟨l.toArray⟩
theorem Zjy (b:ByteArray):bl b.data.toList=b:=by cases b;rfl
theorem Zvx (l:List UInt8):(bl l).size=l.length:=by show l.toArray.size=_;simp
theorem ZlL (l r:List UInt8):bl l++bl r=bl (l++r):=by
 apply ByteArray.ext
 rw [ByteArray.data_append]
 show l.toArray++r.toArray=(l++r).toArray
 simp
theorem Zch (a b:ByteArray):(a++b).size=a.size+b.size:=by simp
theorem Zzk (x s:ByteArray):joinB [x] s=x:=by
 unfold joinB
 rw [List.map_cons,List.map_nil,join_one]
theorem ZmT (x:ByteArray) (r:List ByteArray) (s:ByteArray):joinB (x::r) s=bl (x.data.toList++joinTail s.data.toList (r.map (·.data.toList))):=by
 unfold joinB
 rw [List.map_cons,join_cons];rfl
theorem ZBb {l:List ByteArray} (h:l≠[]) (x s:ByteArray):joinB (l++[x]) s=joinB l s++s++x:=by
 cases l with
 | nil=>exact absurd rfl h
 | cons a r=>
  rw [List.cons_append,ZmT,ZmT,List.map_append]
  conv=>rhs;rw [<-Zjy s,<-Zjy x,ZlL,ZlL]
  congr 1
  rw [Zjy]
  simp [joinTail]
theorem Zsr {l:List ByteArray} {s:ByteArray} {m:Nat} (h:∀ x∈l,x.size<=m):(joinB l s).size<=(m+s.size)*l.length:=by
 cases l with
 | nil=>exact Nat.zero_le _
 | cons a r=>
  have hl:∀ (r:List ByteArray),(∀ x∈r,x.size<=m)->lens (r.map (·.data.toList))<=m*r.length:=by
   intro r
   induction r with
   | nil=>intro _;exact Nat.zero_le _
   | cons b t u=>
    intro i
    have j:=u fun x c=>i x (List.mem_cons_of_mem _ c)
    have o:=i b (List.mem_cons_self ..)
    have k:b.data.toList.length=b.size:=by rw [Array.length_toList];rfl
    simp only [lens,List.map_cons,List.sum_cons,List.length_cons] at j ⊢
    rw [Nat.mul_succ]
    omega
  have j:=hl r fun x c=>h x (List.mem_cons_of_mem _ c)
  have o:=h a (List.mem_cons_self ..)
  have k:a.data.toList.length=a.size:=by rw [Array.length_toList];rfl
  have p:s.data.toList.length=s.size:=by rw [Array.length_toList];rfl
  rw [ZmT,Zvx,List.length_append,joinTail_length,List.length_map,k,p,List.length_cons,Nat.add_mul,Nat.mul_succ,Nat.mul_succ]
  omega
theorem dgl:∀ (m u:Nat),u<10^(m+1)->(decDigits u).length<=m+1:=by
 intro m
 induction m with
 | zero=>
  intro u h
  rw [decDigits,dif_pos (by simpa using h)]
  exact Nat.le_refl _
 | succ m c=>
  intro u h
  rw [decDigits]
  split
  ·simp
  ·have e:10^(m+1+1)=10^(m+1)*10:=Nat.pow_succ ..
   have:=c (u/10) ω
   rw [List.length_append,List.length_singleton]
   omega
theorem Zyj {n:Int} (m:Nat) (b:-10^(m+1)<n) (c:n<10^(m+1)):(itoaB n).size<=m+2:=by
 have e:(10:Int)^(m+1)=((10^(m+1):Nat):Int):=by simp
 rw [e] at b c
 show (itoa n).toArray.size<=_
 unfold itoa
 split
 ·have:=dgl m n.natAbs ω
  simp;omega
 ·have:=dgl m n.toNat ω
  simp;omega
theorem tq (k:Int):(0<=k->Int.tmod k 10=((k.natAbs%10:Nat):Int)/\Int.tdiv k 10=((k.natAbs/10:Nat):Int))/\(k<0->Int.tmod k 10=-((k.natAbs%10:Nat):Int)/\Int.tdiv k 10=-((k.natAbs/10:Nat):Int)):=by
 refine ⟨fun h=>?_,fun h=>?_⟩
 ·rw [Int.tmod_eq_emod_of_nonneg h,Int.tdiv_eq_ediv_of_nonneg h]
  omega
 ·obtain ⟨j,rfl⟩:∃ j,k=-j:=⟨-k,by omega⟩
  rw [Int.neg_tmod,Int.neg_tdiv,Int.tmod_eq_emod_of_nonneg ω,Int.tdiv_eq_ediv_of_nonneg ω]
  omega
def nums (l:List UInt8):List Int:=l.map fun b=>(b.toNat:Int)
theorem ZD9 (l:List UInt8):gByt (nums l)=some (bl l):=by
 unfold gByt
 rw [if_pos]
 ·congr 1
  unfold bstr nums bl
  congr 2
  rw [List.map_map]
  conv=>rhs;rw [<-List.map_id l]
  refine List.map_congr_left fun x _=>?_
  simp
 ·intro x c
  obtain ⟨b,_,rfl⟩:=List.mem_map.1 c
  have:=b.toNat_lt
  omega
theorem ZBt {n0 k:Int} {o:List Int} (x:¬ k=0) (i:-9223372036854775808<=k) (j:k<=9223372036854775807) (u:o.length<=100):
  Za4 n0 (o,k)=some (.inl (((48+k.natAbs%10:Nat):Int)::o,Int.tdiv k 10)):=by
 have hm:k.natAbs%10<10:=Nat.mod_lt _ ω
 have k1:∀ d:Int,d=((k.natAbs%10:Nat):Int)->Zg6 o k d=some (.inl (((48+k.natAbs%10:Nat):Int)::o,Int.tdiv k 10)):=by
  intro d b
  have w1:ε.wrap (48+d)=48+d:=ZaI ω ω
  have w2:IntKind.u8.wrap (48+d)=48+d:=u8_of ω ω
  have c:ε.wrap (Int.tdiv k 10)=Int.tdiv k 10:=by
   by_cases hp:0<=k
   ·have:=((tq k).1 hp).2;exact ZaI ω ω
   ·have:=((tq k).2 ω).2;exact ZaI ω ω
  have g:gApp 1 [48+d] o=some ([48+d]++o):=ZaZ (by simp;omega) (by simp;omega)
  unfold Zg6
  rw [w1,w2,g]
  simp (disch:=omega) only [pz,c]
  rw [b]
  simp
 by_cases hp:0<=k
 ·have b:=((tq k).1 hp).1
  have l:¬ Int.tmod k 10<0:=ω
  simp (disch:=omega) only [pz,Za4,k1 _ b]
 ·have b:=((tq k).2 ω).1
  by_cases hz:Int.tmod k 10<0
  ·have w:ε.wrap (0-Int.tmod k 10)=0-Int.tmod k 10:=ZaI ω ω
   simp (disch:=omega) only [pz,Za4,w,k1 (0-Int.tmod k 10) ω]
  ·simp (disch:=omega) only [pz,Za4,k1 (Int.tmod k 10) ω]
theorem ZCd (n0:Int):∀ (m:Nat) (k:Int) (o:List Int),¬ k=0->k.natAbs<10^m->-9223372036854775808<=k->k<=9223372036854775807->o.length+m<=100 ->
  loop (Za4 n0) (o,k)=loop (Za4 n0) (nums (decDigits k.natAbs)++o,0):=by
 intro m
 induction m with
 | zero=>intro k o u h;exact absurd (by simp at h;omega) u
 | succ m y=>
  intro k o u h i j ho
  rw [ZI (ZBt u i j ω)]
  have hm:k.natAbs%10<10:=Nat.mod_lt _ ω
  have x:(Int.tdiv k 10).natAbs=k.natAbs/10:=by
   by_cases hp:0<=k
   ·have:=((tq k).1 hp).2;omega
   ·have:=((tq k).2 ω).2;omega
  have b:((UInt8.ofNat (48+k.natAbs%10)).toNat:Int)=((48+k.natAbs%10:Nat):Int):=by
   rw [UInt8.toNat_ofNat'];omega
  by_cases hz:k.natAbs<10
  ·have l:Int.tdiv k 10=0:=ω
   have c:k.natAbs%10=k.natAbs:=ω
   rw [l,decDigits,dif_pos hz]
   rw [c] at b ⊢
   unfold nums
   rw [List.map_cons,List.map_nil,b];rfl
  ·have e:10^(m+1)=10^m*10:=Nat.pow_succ ..
   rw [y (Int.tdiv k 10) _ ω (by rw [x];omega) (by
    by_cases hp:0<=k
    ·have:=((tq k).1 hp).2;omega
    ·have:=((tq k).2 ω).2;omega) (by
    by_cases hp:0<=k
    ·have:=((tq k).1 hp).2;omega
    ·have:=((tq k).2 ω).2;omega) (by rw [List.length_cons];omega),x]
   conv=>rhs;rw [decDigits,dif_neg hz]
   unfold nums
   rw [List.map_append,List.map_cons,List.map_nil,b]
   simp
theorem dgn (u:Nat):0<(decDigits u).length:=by
 rw [decDigits];split<;>simp
theorem ZqT {n:Int} (c:-9223372036854775808<=n) (i:n<=9223372036854775807):Ze1 n=some (itoaB n):=by
 unfold Ze1
 by_cases b:n=0
 ·subst b
  rw [Ze (r:=⟨#[48]⟩) (by simp (disch:=omega) only [pz,Za4,List.length_nil])]
  congr 1
  unfold itoaB itoa
  rw [if_neg ω,decDigits,dif_pos (by decide)]
  rfl
 ·rw [ZCd n 19 n [] b ω c i (by decide),List.append_nil]
  have hl:=dgn n.natAbs
  have j:(nums (decDigits n.natAbs)).length=(decDigits n.natAbs).length:=List.length_map ..
  have hs:=ZD9 (decDigits n.natAbs)
  have k:=dgl 19 n.natAbs ω
  have hz:¬ ((nums (decDigits n.natAbs)).length:Int)=0:=ω
  by_cases hp:n<0
  ·have l:gFit ⟨#[45]⟩ (bl (decDigits n.natAbs))=some ():=gFitW (by rw [Zvx];show 1+_<=_;omega)
   rw [Ze (r:=(⟨#[45]⟩:ByteArray)++bl (decDigits n.natAbs)) (by simp (disch:=omega) only [pz,Za4,hs,l])]
   congr 1
   unfold itoaB itoa
   rw [if_pos hp]
   exact ZlL [45] _
  ·rw [Ze (r:=bl (decDigits n.natAbs)) (by simp (disch:=omega) only [pz,Za4,hs])]
   congr 1
   unfold itoaB itoa
   rw [if_neg hp,show n.natAbs=n.toNat by omega]
   rfl
theorem ZpS {n:Int} (b:-9223372036854775808<=n) (c:n<=9223372036854775807):Zek n=some (itoaB n):=by
 unfold Zek ZjN
 rw [if_pos ⟨rfl,b,c⟩];rfl
open Go Go.Vc Go.Lib
theorem ZAS (b:ByteArray):(⟨#[]⟩:ByteArray)++b=b:=by
 have:=ZlL [] b.data.toList
 rw [Zjy] at this
 rw [show (⟨#[]⟩:ByteArray)=bl [] from rfl,this,List.nil_append,Zjy]
theorem Zuh {l:List ByteArray} {s:ByteArray} (b:l.length<=140737488355328) (c:(joinB l s).size<=140737488355328):ZgN l s=some (joinB l s):=by
 unfold ZgN
 rw [if_pos ⟨b,c⟩]
theorem Zrk {α:Type} [Inhabited α] {xs:List α} {f:α->ByteArray} {s:ByteArray} {k:Int} (c:0<k) (b:k<(xs.length:Int)):
  joinB ((xs.take (k+1).toNat).map f) s=joinB ((xs.take k.toNat).map f) s++s++f (ix xs k):=by
 rw [Zax ω b,List.map_append,List.map_cons,List.map_nil,ZBb]
 intro e
 have:=congrArg List.length e
 rw [List.length_map,List.length_take,List.length_nil] at this
 omega
theorem Ztw {α:Type} [Inhabited α] {xs:List α} {f:α->ByteArray} {s:ByteArray} (b:0<(xs.length:Int)):
  joinB ((xs.take ((0:Int)+1).toNat).map f) s=f (ix xs 0):=by
 rw [Zax ω b]
 exact Zzk _ _
theorem ZyB {α j:Type} [Inhabited α] {xs:List α} {f:α->j} {k:Int} (b:0<=k) (c:k<(xs.length:Int)):(xs.take (k+1).toNat).map f=(xs.take k.toNat).map f++[f (ix xs k)]:=by
 rw [Zax b c,List.map_append];rfl
theorem jsize {α:Type} {xs:List α} {f:α->ByteArray} {s:ByteArray} {m N:Nat} (c:∀ x∈xs,(f x).size<=m) (hl:xs.length<=N) (i:Nat):(joinB ((xs.take i).map f) s).size<=(m+s.size)*N:=by
 refine Nat.le_trans (Zsr (m:=m) fun y j=>?_) (Nat.mul_le_mul_left _ ?_)
 ·obtain ⟨x,b,rfl⟩:=List.mem_map.1 j
  exact c x (List.mem_of_mem_take b)
 ·rw [List.length_map,List.length_take];omega
def InR (x:Int):Prop:=-999999999<=x/\x<=999999999
theorem ZbG {x:Int} (h:InR x):(itoaB x).size<=10:=Zyj 8 (by have:=h.1;omega) (by have:=h.2;omega)
noncomputable def tL (xs:List Int):ByteArray:=@ite _ (xs.length<=100/\∀ x∈xs,InR x) (Classical.propDecidable _) (if xs=[] then ⟨#[45]⟩ else joinB (xs.map itoaB) ⟨#[44]⟩) ⟨#[]⟩
theorem tL_t {xs:List Int} (h:xs.length<=100/\∀ x∈xs,InR x) (b:xs≠[]):tL xs=joinB (xs.map itoaB) ⟨#[44]⟩:=by unfold tL;rw [if_pos h,if_neg b]
theorem tL_n {xs:List Int} (b:xs=[]):tL xs=⟨#[45]⟩:=by
 subst b
 unfold tL
 rw [if_pos ⟨by decide,fun x c=>by cases c⟩,if_pos rfl]
theorem tL_f {xs:List Int} (h:¬ (xs.length<=100/\∀ x∈xs,InR x)):tL xs=⟨#[]⟩:=by unfold tL;rw [if_neg h]
theorem ZsK (xs:List Int):(tL xs).size<=1100:=by
 by_cases b:xs=[]
 ·rw [tL_n b];show 1<=_;omega
 ·by_cases h:xs.length<=100/\∀ x∈xs,InR x
  ·rw [tL_t h b]
   have:=jsize (xs:=xs) (f:=itoaB) (s:=⟨#[44]⟩) (m:=10) (N:=100) (fun x c=>ZbG (h.2 x c)) h.1 xs.length
   rw [List.take_length] at this
   exact this
  ·rw [tL_f h];show 0<=_;omega
theorem Zxu {n:Int} (b:0<=n) (P:Int->Prop):(∃ k,0<=k/\k<n/\P k/\∀ j,0<=j->j<k->¬ P j)\/∀ j,0<=j->j<n->¬ P j:=by
 rcases ZbR (σ:=Int) (ρ:=Unit) (B:=fun k=>some (.inl (k+1))) (fun k=>k) P b (fun k _ _ _=>rfl) with ⟨k,c,i,l,o,_⟩|⟨h,_⟩
 ·exact .inl ⟨k,c,i,l,o⟩
 ·exact .inr h
theorem Zwc {xs:List Int} {n:Int} (l:n<=(xs.length:Int)) (h:∀ j,0<=j->j<n->InR (ix xs j)):∀ x∈xs.take n.toNat,InR x:=by
 intro x c
 obtain ⟨i,b,k,rfl⟩:=Z0 c
 rw [List.length_take] at k
 rw [Zfg b ω]
 exact h i b ω
theorem Zrj {xs:List Int} {n:Int} (t:0<=n) (hn:n<=(xs.length:Int)) (hl:xs.length<=100) (h:∀ j,0<=j->j<n->InR (ix xs j)):
  loop (ZbO xs) (⟨#[]⟩,0)=loop (ZbO xs) (joinB ((xs.take n.toNat).map itoaB) ⟨#[44]⟩,n):=by
 refine Zm (fun k:Int=>(joinB ((xs.take k.toNat).map itoaB) ⟨#[44]⟩,k)) t fun k u k1=>?_
 have hk:=h k u k1
 have i:=ZqT (n:=ix xs k) (by have:=hk.1;omega) (by have:=hk.2;omega)
 have hz:=ZbG hk
 have a3:(xs.take k.toNat).length<=100:=by rw [List.length_take];omega
 have hj:=Zsr (l:=(xs.take k.toNat).map itoaB) (s:=⟨#[44]⟩) (m:=10) fun y hy=>by
  obtain ⟨x,hx,rfl⟩:=List.mem_map.1 hy
  exact ZbG (Zwc (n:=k) ω (fun j a b=>h j a ω) x hx)
 rw [List.length_map] at hj
 have o:(joinB ((xs.take k.toNat).map itoaB) ⟨#[44]⟩).size<=1100:=Nat.le_trans hj (Nat.mul_le_mul_left 11 a3)
 have hi:Z2 (ix xs k) (-999999999) 999999999=some true:=by
  have:=hk.1;have:=hk.2
  simp (disch:=omega) only [pz,Z2]
 by_cases p:k=0
 ·subst p
  rw [Ztw ω]
  have c:gFit ⟨#[]⟩ (itoaB (ix xs 0))=some ():=gFitW (by show 0+_<=_;omega)
  have e0:joinB ((xs.take (0:Int).toNat).map itoaB) ⟨#[44]⟩=⟨#[]⟩:=rfl
  rw [e0]
  simp (disch:=omega) only [pz,ZbO,Ze5,hi,i,c,ZAS]
 ·rw [Zrk ω ω]
  generalize joinB ((xs.take k.toNat).map itoaB) ⟨#[44]⟩=a0 at o
  have f1:gFit a0 ⟨#[44]⟩=some ():=gFitW (by show a0.size+1<=_;omega)
  have c:gFit (a0++⟨#[44]⟩) (itoaB (ix xs k))=some ():=gFitW (by rw [Zch];show a0.size+1+_<=_;omega)
  simp (disch:=omega) only [pz,ZbO,Ze5,hi,i,f1,c]
theorem Zul {xs:List Int}:(∀ x∈xs,InR x)↔∀ j,0<=j->j<(xs.length:Int)->InR (ix xs j):=
 ⟨fun h j a b=>h _ (Zq a b),fun h x c=>by obtain ⟨i,a,b,rfl⟩:=Z0 c;exact h i a b⟩
theorem Zv2 (xs:List Int):Zhh xs=some (tL xs):=by
 unfold Zhh
 by_cases hl:xs.length<=100
 ·by_cases c:xs=[]
  ·rw [tL_n c];subst c;simp (disch:=omega) only [pz,List.length_nil]
  ·have hp:0<(xs.length:Int):=by
    cases xs with
    | nil=>exact absurd rfl c
    | cons a t=>simp
   rcases Zxu (n:=xs.length) ω (fun k=>¬ InR (ix xs k)) with ⟨k,o,k1,hk,i⟩|i
   ·rw [tL_f fun h=>hk (Zul.1 h.2 k o k1)]
    have e:=Zrj (xs:=xs) (n:=k) o ω hl fun j a b=>Classical.not_not.1 (i j a b)
    have hi:Z2 (ix xs k) (-999999999) 999999999=some false:=by
     by_cases p:-999999999<=ix xs k
     ·have:¬ ix xs k<=999999999:=fun s=>hk ⟨p,s⟩
      simp (disch:=omega) only [pz,Z2]
     ·simp (disch:=omega) only [pz,Z2]
    have l:loop (ZbO xs) (⟨#[]⟩,0)=some ⟨#[]⟩:=by
     rw [e]
     exact Ze (by simp (disch:=omega) only [pz,ZbO,hi])
    simp (disch:=omega) only [pz,l]
   ·have u:∀ j,0<=j->j<(xs.length:Int)->InR (ix xs j):=fun j a b=>Classical.not_not.1 (i j a b)
    rw [tL_t ⟨hl,Zul.2 u⟩ c]
    have e:=Zrj (xs:=xs) (n:=xs.length) ω ω hl u
    rw [Int.toNat_natCast,List.take_length] at e
    have l:loop (ZbO xs) (⟨#[]⟩,0)=some (joinB (xs.map itoaB) ⟨#[44]⟩):=by
     rw [e]
     exact Ze (by simp (disch:=omega) only [pz,ZbO])
    simp (disch:=omega) only [pz,l]
 ·rw [tL_f fun h=>hl h.1]
  simp (disch:=omega) only [pz,]
theorem Zyt (xs:List Int):ZiJ xs=some (tL xs):=by
 unfold ZiJ
 by_cases hl:xs.length<=100
 ·have o:=containsL (s:=xs) (fn:=fun y0=>ZdK y0) (q:=fun x=>¬ InR x) ω fun x c=>by
   by_cases p:-999999999<=x
   ·by_cases u:x<=999999999
    ·simp (disch:=omega) only [pz,ZdK,Zab]
     exact IsQ.f fun h=>h ⟨p,u⟩
    ·simp (disch:=omega) only [pz,ZdK,Zab]
     exact IsQ.t fun h=>u h.2
   ·simp (disch:=omega) only [pz,ZdK,Zab]
    exact IsQ.t fun h=>p h.1
  by_cases ha:∀ x∈xs,InR x
  ·have b:=o.ne fun ⟨x,c,h⟩=>h (ha x c)
   by_cases j:xs=[]
   ·rw [tL_n j];subst j;simp (disch:=omega) only [pz,b,Zjq,List.length_nil]
   ·rw [tL_t ⟨hl,ha⟩ j]
    have hp:0<(xs.length:Int):=by
     cases xs with
     | nil=>exact absurd rfl j
     | cons a t=>simp
    have e:loop (Zd6 xs) ([],0)=some (joinB (xs.map itoaB) ⟨#[44]⟩):=by
     have y:=Zm (B:=Zd6 xs) (fun k:Int=>((xs.take k.toNat).map itoaB,k)) (i:=0) (n:=xs.length) ω fun k k0 k1=>by
      have hk:=ha _ (Zq k0 k1)
      have hd:=ZpS (n:=ix xs k) (by have:=hk.1;omega) (by have:=hk.2;omega)
      have a8:((xs.take k.toNat).map itoaB).length<=100:=by rw [List.length_map,List.length_take];omega
      rw [ZyB k0 k1]
      have hg:gApp 16 ((xs.take k.toNat).map itoaB) [itoaB (ix xs k)]=some ((xs.take k.toNat).map itoaB++[itoaB (ix xs k)]):=gApp1 ω ω
      simp (disch:=omega) only [pz,Zd6,hd,hg]
     rw [Int.toNat_natCast,List.take_length] at y
     refine y.trans (Ze ?_)
     have hj:=jsize (xs:=xs) (f:=itoaB) (s:=⟨#[44]⟩) (m:=10) (N:=100) (fun x c=>ZbG (ha x c)) hl xs.length
     rw [List.take_length] at hj
     have hq:=Zuh (l:=xs.map itoaB) (s:=⟨#[44]⟩) (by rw [List.length_map];omega) (Nat.le_trans hj (by decide))
     simp (disch:=omega) only [pz,Zd6,hq]
    simp (disch:=omega) only [pz,b,Zjq,e]
  ·have b:=o.eq (by
    refine Classical.byContradiction fun h=>ha fun x c=>Classical.not_not.1 fun hh=>h ⟨x,c,hh⟩)
   rw [tL_f fun h=>ha h.2]
   simp (disch:=omega) only [pz,b]
 ·rw [tL_f fun h=>hl h.1]
  simp (disch:=omega) only [pz,]
noncomputable def tR (rows:List (List Int)):ByteArray:=if rows=[] then ⟨#[110,111,110,101]⟩ else joinB (rows.map tL) ⟨#[47]⟩
set_option linter.unusedSectionVars false
theorem Zrt {l:List Int} {lo hi:Int} (h:Rising l lo hi) {i:Int} (b:0<=i):∀ (d:Nat) (j:Int),j=i+1+d->j<(l.length:Int)->ix l i<ix l j
 | 0,j,hj,hl=>by
  have:=(h j ω hl).2 ω
  rw [show j-1=i by omega] at this
  exact this
 | d+1,j,hj,hl=>by
  have:=(h j ω hl).2 ω
  have c:=Zrt h b d (j-1) ω ω
  omega
theorem ZDB {l:List Int} {lo hi:Int} (h:Rising l lo hi) {i j:Int} (b:0<=i) (k:i<j) (c:j<(l.length:Int)):ix l i<ix l j:=Zrt h b (j-i-1).toNat j ω c
def cntB (bs:List (List Int)) (p:List Int->Bool):Nat->Int
 | 0=>0
 | n+1=>cntB bs p n+if p (ix bs n) then 1 else 0
section
variable {d:Zao} (hv:ValidD d)
include hv
end
def eT (e:Zd):ByteArray:=itoaB e.A++⟨#[45]⟩++itoaB e.B
noncomputable def gT (g:Zc):ByteArray:=tL g.Colors++⟨#[59]⟩++joinB (g.Edges.map eT) ⟨#[44]⟩
section
variable {g:Zc} (hg:ValidG g)
include hg
theorem Zor {k:Int} (b:0<=k) (k1:k<(g.Edges.length:Int)):InR (ix g.Edges k).A/\InR (ix g.Edges k).B:=by
 have:=(hg.edg k b k1).1
 have:=hg.cl
 unfold InR
 omega
theorem Zu0 {k:Int} (b:0<=k) (k1:k<(g.Edges.length:Int)):(eT (ix g.Edges k)).size<=21:=by
 obtain ⟨c,i⟩:=Zor hg b k1
 have:=ZbG c
 have:=ZbG i
 unfold eT
 rw [Zch,Zch]
 show _+1+_<=21
 omega
theorem ZvE (i:Nat):(joinB ((g.Edges.take i).map eT) ⟨#[44]⟩).size<=22*512:=by
 refine jsize (xs:=g.Edges) (f:=eT) (s:=⟨#[44]⟩) (m:=21) (N:=512) (fun x c=>?_) (by have:=hg.el;omega) i
 obtain ⟨i,a,b,rfl⟩:=Z0 c
 exact Zu0 hg a b
theorem ZBk:Zji g=some (gT g):=by
 unfold Zji
 have a8:=ZsK g.Colors
 have a7:=hg.el
 have t:gFit (tL g.Colors) ⟨#[59]⟩=some ():=gFitW (by show _+1<=_;omega)
 have hP:(tL g.Colors++(⟨#[59]⟩:ByteArray)).size<=1101:=by rw [Zch];show _+1<=_;omega
 have hl:=Zv2 g.Colors
 have e:loop (Zen g) (tL g.Colors++(⟨#[59]⟩:ByteArray),0)=some (gT g):=by
  unfold gT
  generalize tL g.Colors++(⟨#[59]⟩:ByteArray)=P at hP
  have h:=Zm (B:=Zen g) (fun k:Int=>(P++joinB ((g.Edges.take k.toNat).map eT) ⟨#[44]⟩,k)) (i:=0) (n:=g.Edges.length) ω fun k j k1=>by
   obtain ⟨y,hB⟩:=Zor hg j k1
   have dA:=ZqT (n:=(ix g.Edges k).A) (by have:=y.1;omega) (by have:=y.2;omega)
   have dB:=ZqT (n:=(ix g.Edges k).B) (by have:=hB.1;omega) (by have:=hB.2;omega)
   have zA:=ZbG y
   have zB:=ZbG hB
   have hj:=ZvE hg k.toNat
   have l:gFit (itoaB (ix g.Edges k).A) ⟨#[45]⟩=some ():=gFitW (by show _+1<=_;omega)
   have o:gFit (itoaB (ix g.Edges k).A++⟨#[45]⟩) (itoaB (ix g.Edges k).B)=some ():=gFitW (by rw [Zch];show _+1+_<=_;omega)
   have hz:(itoaB (ix g.Edges k).A++⟨#[45]⟩++itoaB (ix g.Edges k).B).size<=21:=Zu0 hg j k1
   have x:eT (ix g.Edges k)=itoaB (ix g.Edges k).A++⟨#[45]⟩++itoaB (ix g.Edges k).B:=rfl
   by_cases p:k=0
   ·subst p
    rw [Ztw ω,x]
    have b:P++joinB ((g.Edges.take (0:Int).toNat).map eT) ⟨#[44]⟩=P:=ByteArray.append_empty
    rw [b]
    have c:gFit P (itoaB (ix g.Edges 0).A++⟨#[45]⟩++itoaB (ix g.Edges 0).B)=some ():=gFitW ω
    simp (disch:=omega) only [pz,Zen,ZgA,dA,dB,l,o,c]
   ·rw [Zrk ω ω,x]
    generalize joinB ((g.Edges.take k.toNat).map eT) ⟨#[44]⟩=J at hj
    have ea:∀ E:ByteArray,P++(J++⟨#[44]⟩++E)=P++J++⟨#[44]⟩++E:=fun E=>by rw [<-ByteArray.append_assoc,<-ByteArray.append_assoc]
    rw [ea]
    have a2:(P++J).size<=20000:=by rw [Zch];omega
    generalize P++J=Q at a2 ⊢
    have c:gFit Q ⟨#[44]⟩=some ():=gFitW (by show _+1<=_;omega)
    have u:gFit (Q++⟨#[44]⟩) (itoaB (ix g.Edges k).A++⟨#[45]⟩++itoaB (ix g.Edges k).B)=some ():=gFitW (by rw [Zch];show _+1+_<=_;omega)
    simp (disch:=omega) only [pz,Zen,ZgA,dA,dB,l,o,c,u]
  have b:(P,(0:Int))=(fun k:Int=>(P++joinB ((g.Edges.take k.toNat).map eT) ⟨#[44]⟩,k)) 0:=by
   have s:P++joinB ((g.Edges.take (0:Int).toNat).map eT) ⟨#[44]⟩=P:=ByteArray.append_empty
   dsimp only
   rw [s]
  rw [b,h]
  refine Ze ?_
  rw [Int.toNat_natCast,List.take_length]
  simp (disch:=omega) only [pz,Zen]
 simp (disch:=omega) only [pz,hl,t,e]
theorem Zwa:ZiZ g=some (gT g):=by
 unfold ZiZ
 have a7:=ZsK g.Colors
 have a5:=hg.el
 have a6:=hg.cl
 have hv:=(Zkz (g:=g) ω ω).eq hg
 have j:gFit (tL g.Colors) ⟨#[59]⟩=some ():=gFitW (by show _+1<=_;omega)
 have hP:(tL g.Colors++(⟨#[59]⟩:ByteArray)).size<=1101:=by rw [Zch];show _+1<=_;omega
 have hl:=Zyt g.Colors
 have y:=ZvE hg g.Edges.length
 rw [List.take_length] at y
 have b:=Zuh (l:=g.Edges.map eT) (s:=⟨#[44]⟩) (by rw [List.length_map];omega) (Nat.le_trans y (by decide))
 have e:loop (ZdS g) ([],0)=some (gT g):=by
  have h:=Zm (B:=ZdS g) (fun k:Int=>((g.Edges.take k.toNat).map eT,k)) (i:=0) (n:=g.Edges.length) ω fun k c k1=>by
   obtain ⟨u,x⟩:=Zor hg c k1
   have dA:=ZpS (n:=(ix g.Edges k).A) (by have:=u.1;omega) (by have:=u.2;omega)
   have dB:=ZpS (n:=(ix g.Edges k).B) (by have:=x.1;omega) (by have:=x.2;omega)
   have zA:=ZbG u
   have zB:=ZbG x
   have o:gFit (itoaB (ix g.Edges k).A) ⟨#[45]⟩=some ():=gFitW (by show _+1<=_;omega)
   have p:gFit (itoaB (ix g.Edges k).A++⟨#[45]⟩) (itoaB (ix g.Edges k).B)=some ():=gFitW (by rw [Zch];show _+1+_<=_;omega)
   have a0:eT (ix g.Edges k)=itoaB (ix g.Edges k).A++⟨#[45]⟩++itoaB (ix g.Edges k).B:=rfl
   have a2:((g.Edges.take k.toNat).map eT).length<=512:=by rw [List.length_map,List.length_take];omega
   rw [Zee c k1,a0]
   generalize (g.Edges.take k.toNat).map eT=X at a2 ⊢
   have a1:gApp 16 X [itoaB (ix g.Edges k).A++⟨#[45]⟩++itoaB (ix g.Edges k).B]=some (X++[itoaB (ix g.Edges k).A++⟨#[45]⟩++itoaB (ix g.Edges k).B]):=gApp1 ω ω
   simp (disch:=omega) only [pz,ZdS,dA,dB,o,p,a1]
  refine h.trans (Ze ?_)
  rw [Int.toNat_natCast,List.take_length]
  unfold gT
  generalize joinB (g.Edges.map eT) ⟨#[44]⟩=J at y b ⊢
  have t:gFit (tL g.Colors++⟨#[59]⟩) J=some ():=gFitW ω
  simp (disch:=omega) only [pz,ZdS,hl,j,b,t]
 simp (disch:=omega) only [pz,hv,e]
end
theorem ZxH (B:Int):Zjm B=some (decide (1<=B/\B<=20000)):=by
 unfold Zjm
 rw [in_ok];rfl
theorem Zvg (B:Int):ZfL B=some (decide (1<=B/\B<=20000)):=by
 unfold ZfL
 rw [ZZ];rfl
def s00:CSt:=⟨⟨[],[]⟩,[],0,0,false⟩
theorem ZFD {g:Zc} (hg:ValidG g) {B:Int} (t:1<=B) (i:B<=20000):∃ r,ZeS g B=some r/\ZeA g B=some r:=by
 have an:=hg.cl
 have am:=hg.el
 have af:=(Zpr (g:=g) ω ω).eq hg
 have ae:=(Zkz (g:=g) ω ω).eq hg
 have a6:=ZxH B
 have a9:=Zvg B
 rw [decide_eq_true (And.intro t i)] at a6 a9
 have a7:=ZCF hg
 have a8:=Zv4 hg
 have ad:=Zqg hg
 have a1:=ZkY g
 have a2:=Zrf (near:=nearM g) (c:=g.Colors) ad a1.symm
 have a4:=Zr7 (near:=nearM g) (c:=g.Colors) ad a1.symm
 have hC:=Cel.ref (near:=nearM g) (cells:=g.Colors) a1.symm
 have hi:CInv B 0 s00:=⟨by show (0:Int)<=0+0;omega,by show (0:Int)<=0;omega,by show (0:Int)<=0;omega,by show (0:Int)<=B;omega⟩
 have b:Bst g s00:=fun h=>absurd rfl h
 have hm:(nearM g).length+1<=fuel:=by unfold fuel;omega
 have j:(nearM g).length<(nearM g).length+1+cnt (refN (nearM g) g.Colors):=ω
 have rs:=Ztl hg i ((nearM g).length+1) fuel (refN (nearM g) g.Colors) s00 0 hm hC j ω hi b
 have ri:=ZuI hg i ((nearM g).length+1) fuel (refN (nearM g) g.Colors) s00 0 hm hC j ω hi b
 obtain ⟨k,ac⟩:=Zly (g:=g) a1 B ((nearM g).length+1) (refN (nearM g) g.Colors) s00 hC j b
 generalize srch g (nearM g) B ((nearM g).length+1) (refN (nearM g) g.Colors) s00=s at rs ri k ac
 have eG:Zc.mk g.Colors g.Edges=g:=rfl
 have u:spS g (nearM g) B s00=⟨g,nearM g,⟨[],[]⟩,[],0,0,B,false⟩:=rfl
 have x:ipS g (nearM g) B s00=⟨⟨B,false⟩,g,nearM g,0,0,⟨[],[]⟩,[]⟩:=by
  show ZG.mk ⟨B-0,false⟩ _ _ _ _ _ _=_
  rw [Int.sub_zero];rfl
 rw [u] at rs
 rw [x] at ri
 have a3:ZnB ⟨g,nearM g,⟨[],[]⟩,[],0,0,B,false⟩ (refN (nearM g) g.Colors)=some (spS g (nearM g) B s):=rs
 have a5:Zoq ⟨⟨B,false⟩,g,nearM g,0,0,⟨[],[]⟩,[]⟩ (refN (nearM g) g.Colors)=some (ipS g (nearM g) B s):=ri
 unfold ZeS ZeA ZiG ZhC Zi4 Zkj
 generalize nearM g=near at a7 a8 a2 a4 a3 a5
 generalize refN near g.Colors=c0 at a2 a4 a3 a5
 by_cases hf:s.full=true
 ·refine ⟨(⟨#[]⟩,5),?_,?_⟩
  ·simp (disch:=omega) only [pz,eG,af,a6,a7,a2,a3,spS,hf]
  ·simp (disch:=omega) only [pz,eG,ae,a9,a8,a4,a5,ipS,hf]
 ·have hf:s.full=false:=by simpa using hf
  have o:=ac hf
  obtain ⟨p,hp,ai⟩:=k o
  have ab:ValidG s.best:=by rw [ai];exact Zmh hg hp
  have ts:=ZBk ab
  have ti:=Zwa ab
  have eB:Zc.mk s.best.Colors s.best.Edges=s.best:=rfl
  have y:gIdx s.perms 0=some (ix s.perms 0):=Zjd ω (by cases hh:s.perms with|nil=>exact absurd hh o|cons a l=>simp)
  refine ⟨(gT s.best,0),?_,?_⟩
  ·simp (disch:=omega) only [pz,eG,af,a6,a7,a2,a3,spS,hf,eB,ts]
  ·simp (disch:=omega) only [pz,eG,ae,a9,a8,a4,a5,ipS,hf,eB,ti,y]
theorem ZBG {g:Zc} (i:g.Colors.length<=1000000) (he:g.Edges.length<=1000000) {B:Int} (b:1<=B) (c:B<=20000):∃ r,ZeS g B=some r/\ZeA g B=some r:=by
 by_cases hg:ValidG g
 ·exact ZFD hg b c
 ·have k:=(Zpr (g:=g) ω ω).ne hg
  have j:=(Zkz (g:=g) ω ω).ne hg
  have l:Zc.mk g.Colors g.Edges=g:=rfl
  refine ⟨(⟨#[]⟩,1),?_,?_⟩
  ·unfold ZeS Zi4
   simp (disch:=omega) only [pz,l,k]
  ·unfold ZeA ZiG ZhC
   simp (disch:=omega) only [pz,l,j]
def wd (f:Zf) (q w:Int) (m:List (List Int)):Nat->Int->List Int
 | 0,_=>tabl w fun _=>0
 | i+1,n=>tabl w fun t=>sumA f (ix (wd f q w m i (n/q)) t) (mulA f (ix (ix m (i:Int)) t) (n%q)) 1
section
variable {f:Zf} {q:Int} {inv:List Int} (hF:Ff f q inv)
include hF
theorem add0 {a:Int} (b:0<=a) (c:a<q):sumA f a 0 1=a:=by
 have h:=hF.sub a 0 b c ω ω
 rw [hF.z2 0 ω ω,hF.z2 a b c] at h
 exact h.symm
variable {w:Int} {m:List (List Int)}
theorem Ziy (w0:0<=w):∀ (i:Nat) (n:Int),((wd f q w m i n).length:Int)=w
 | 0,_=>by rw [wd,Zn];omega
 | i+1,_=>by rw [wd,Zn];omega
theorem wd_in (w0:0<=w):∀ (i:Nat) (n:Int),In q (wd f q w m i n)
 | 0,n=>fun t b c=>by
  have:=Ziy hF (m:=m) w0 0 n
  have:=hF.q2
  rw [wd,ZM b ω];omega
 | i+1,n=>fun t b c=>by
  have:=Ziy hF (m:=m) w0 (i+1) n
  rw [wd,ZM b ω]
  exact Zk7 hF.fd hF.pw _ _ _
variable (hm:Mat q w m)
include hm
end
def wtN (r:List Int):Nat->Int
 | 0=>0
 | n+1=>wtN r n+if ix r (n:Int)=0 then 0 else 1
def wt (r:List Int):Int:=wtN r r.length
theorem gAppV {xs:List (List Int)} {y:List Int} (h:xs.length<=100000):gApp 24 xs [y]=some (xs++[y]):=gApp1 ω ω
theorem ZDz {xs:List Int} (hl:xs.length<=1000):Zhk xs=some (tabl xs.length fun t=>ix xs ((xs.length:Int)-1-t)):=by
 unfold Zhk
 have e:=Zm (B:=Zfq) (fun i:Int=>(i,(xs.length:Int)-1-i,tabl xs.length fun t=>if t<i\/(xs.length:Int)-1-i<t then ix xs ((xs.length:Int)-1-t) else ix xs t)) (i:=0) (n:=(xs.length:Int)/2) ω fun i j u=>by
  have x:((tabl xs.length fun t=>if t<i\/(xs.length:Int)-1-i<t then ix xs ((xs.length:Int)-1-t) else ix xs t).length:Int)=xs.length:=by rw [Zn];omega
  have k:ix (tabl xs.length fun t=>if t<i\/(xs.length:Int)-1-i<t then ix xs ((xs.length:Int)-1-t) else ix xs t) i=ix xs i:=by rw [ZM j ω,if_neg ω]
  have l:ix (tabl xs.length fun t=>if t<i\/(xs.length:Int)-1-i<t then ix xs ((xs.length:Int)-1-t) else ix xs t) ((xs.length:Int)-1-i)=ix xs ((xs.length:Int)-1-i):=by rw [ZM ω ω,if_neg ω]
  have hs:((tabl xs.length fun t=>if t<i\/(xs.length:Int)-1-i<t then ix xs ((xs.length:Int)-1-t) else ix xs t).set i.toNat (ix xs ((xs.length:Int)-1-i))).set ((xs.length:Int)-1-i).toNat (ix xs i)=tabl xs.length fun t=>if t<i+1\/(xs.length:Int)-1-(i+1)<t then ix xs ((xs.length:Int)-1-t) else ix xs t:=by
   rw [Zah (n:=(xs.length:Int)) (f:=fun t=>if t<i\/(xs.length:Int)-1-i<t then ix xs ((xs.length:Int)-1-t) else ix xs t) (g:=fun t=>if t<i+1\/(xs.length:Int)-1-i<t then ix xs ((xs.length:Int)-1-t) else ix xs t) j ω (fun t b c ht=>by
    by_cases h:t<i\/(xs.length:Int)-1-i<t
    ·rw [if_pos h,if_pos ω]
    ·rw [if_neg h,if_neg ω]) (by rw [if_pos ω])]
   refine Zah ω ω (fun t b c ht=>?_) ?_
   ·by_cases h:t<i+1\/(xs.length:Int)-1-i<t
    ·rw [if_pos h,if_pos ω]
    ·rw [if_neg h,if_neg ω]
   ·rw [if_pos ω,show (xs.length:Int)-1-((xs.length:Int)-1-i)=i by omega]
  have y:(xs.length:Int)-1-i-1=(xs.length:Int)-1-(i+1):=ω
  generalize (tabl xs.length fun t=>if t<i\/(xs.length:Int)-1-i<t then ix xs ((xs.length:Int)-1-t) else ix xs t)=A at x k l hs ⊢
  have o:(A.set i.toNat (ix xs ((xs.length:Int)-1-i))).length=A.length:=List.length_set
  simp (disch:=omega) only [pz,Zfq,k,l,o,hs,y]
 have p:((0:Int),ε.wrap ((xs.length:Int)-1),xs)=(fun i:Int=>(i,(xs.length:Int)-1-i,tabl xs.length fun t=>if t<i\/(xs.length:Int)-1-i<t then ix xs ((xs.length:Int)-1-t) else ix xs t)) 0:=by
  show _=((0:Int),_,_)
  rw [wr64 ω ω]
  congr 1
  congr 1
  ·omega
  ·refine (Zbl xs).symm.trans (ZQ fun t b c=>?_)
   rw [if_neg ω]
 rw [p,e]
 have s:(tabl xs.length fun t=>if t<(xs.length:Int)/2\/(xs.length:Int)-1-(xs.length:Int)/2<t then ix xs ((xs.length:Int)-1-t) else ix xs t)=tabl xs.length fun t=>ix xs ((xs.length:Int)-1-t):=ZQ fun t b c=>by
  by_cases h:t<(xs.length:Int)/2\/(xs.length:Int)-1-(xs.length:Int)/2<t
  ·rw [if_pos h]
  ·rw [if_neg h,show (xs.length:Int)-1-t=t by omega]
 refine Ze ?_
 simp (disch:=omega) only [pz,Zfq,s]
theorem pw_lo {p:Int} (hp:2<=p) {a b:Nat} (h:a<=b):pwN p a<=pwN p b:=by
 have:=Zlj hp (m:=a) (b-a)
 rwa [show a+(b-a)=b by omega] at this
theorem pwU {q:Int} (q2:2<=q) {k:Nat} (hk:k<=64) (h:pwN q k<=4096):Za5 q (k:Int) 4096=some (pwN q k):=by
 unfold Za5
 have e:=Zm (B:=ZaR q 4096) (fun j:Int=>((k:Int)-j,pwN q j.toNat)) (i:=0) (n:=(k:Int)) ω fun j o s=>by
  have t:=pw_lo q2 (a:=j.toNat) (b:=k) ω
  have u:=pw_lo q2 (a:=j.toNat+1) (b:=k) ω
  have x:=Zbf (p:=q) q2 j.toNat
  have y:=Zbf (p:=q) q2 (j.toNat+1)
  have ee:(k:Int)-j-1=(k:Int)-(j+1):=ω
  have c:pwN q (j+1).toNat=pwN q j.toNat*q:=by rw [show (j+1).toNat=j.toNat+1 by omega];rfl
  have h5:pwN q j.toNat*q<=4096:=by have:pwN q (j.toNat+1)=pwN q j.toNat*q:=rfl;omega
  have h6:1<=pwN q j.toNat*q:=by have:pwN q (j.toNat+1)=pwN q j.toNat*q:=rfl;omega
  rw [c]
  simp (disch:=omega) only [pz,ZaR,ZeY,ee]
 have l:((k:Int)-0,pwN q (0:Int).toNat)=((k:Int),(1:Int)):=by simp [pwN]
 rw [l] at e
 rw [e]
 exact Ze (by simp (disch:=omega) only [pz,ZaR])
theorem ZBD {q:Int} (q2:2<=q) (q64:q<=64) {k:Nat} (hk:k<=64) {cs:Int} (h:loop (Zbw q) ((k:Int),1)=some cs) (c:¬ cs=0):pwN q k<=4096:=by
 have st:∀ j:Nat,pwN q (j+1)=pwN q j*q:=fun _=>rfl
 have l:((k:Int),(1:Int))=(fun j:Int=>((k:Int)-j,pwN q j.toNat)) 0:=by simp [pwN]
 rw [l] at h
 rcases ZbR (B:=Zbw q) (fun j:Int=>((k:Int)-j,pwN q j.toNat)) (fun j=>4096<pwN q (j.toNat+1)) (i:=0) (n:=(k:Int)) ω (fun j o s t=>by
  have u:=Zbf (p:=q) q2 j.toNat
  have x:=Zbf (p:=q) q2 (j.toNat+1)
  have ee:(k:Int)-j-1=(k:Int)-(j+1):=ω
  have y:pwN q (j+1).toNat=pwN q j.toNat*q:=by rw [show (j+1).toNat=j.toNat+1 by omega];rfl
  have b:=st j.toNat
  rw [y]
  rw [b] at t x
  simp (disch:=omega) only [pz,Zbw,ee]) with ⟨j,o,s,hj,hall,e⟩|⟨hall,_⟩
 ·refine absurd ?_ c
  have u:=Zbf (p:=q) q2 j.toNat
  have h6:pwN q j.toNat<=4096:=by
   by_cases hz:j=0
   ·rw [hz];show (1:Int)<=4096;omega
   ·have:=hall (j-1) ω ω
    rw [show (j-1).toNat+1=j.toNat by omega] at this
    omega
  have b:=st j.toNat
  rw [b] at hj
  have h7:pwN q j.toNat*q<=4096*64:=Int.mul_le_mul h6 q64 ω ω
  have e1:loop (Zbw q) ((k:Int)-j,pwN q j.toNat)=some 0:=by
   refine Ze ?_
   simp (disch:=omega) only [pz,Zbw]
  rw [e] at h
  exact (Option.some.inj (h.symm.trans e1))
 ·by_cases hz:k=0
  ·rw [hz];show (1:Int)<=4096;omega
  ·have:=hall ((k:Int)-1) ω ω
   rw [show ((k:Int)-1).toNat+1=k by omega] at this
   omega
def cwN (ws:List (List Int)) (w:Int) (m:Nat):List Int:=tabl (w+1) fun y=>cntB ws (fun r=>decide (wt r=y)) m
section
variable {f:Zf} {q:Int} {inv:List Int} (hF:Ff f q inv)
include hF
theorem Zz3 {a b:List Int} (ha:In q a) (s:In q b) (hl:(a.length:Int)<=64) (he:b.length=a.length):Zho f a b=some (tabl a.length fun t=>sumA f (ix a t) (ix b t) 1):=by
 have hq:=hF.q64
 have hp:=hF.fd.p2
 unfold Zho
 have a0:=Zav (b:=8) (z:=(0:Int)) (n:=(a.length:Int)) ω ω ω
 have e:=Zm (B:=ZcG f a b) (fun t:Int=>(t,tabl a.length fun u=>if u<t then sumA f (ix a u) (ix b u) 1 else 0)) (i:=0) (n:=(a.length:Int)) ω fun t j k=>by
  obtain ⟨x,y⟩:=ha t j k
  obtain ⟨g3,g4⟩:=s t j ω
  have hL:((tabl a.length fun u=>if u<t then sumA f (ix a u) (ix b u) 1 else 0).length:Int)=a.length:=by rw [Zn];omega
  have hs:(tabl a.length fun u=>if u<t then sumA f (ix a u) (ix b u) 1 else 0).set t.toNat (sumA f (ix a t) (ix b t) 1)=tabl a.length fun u=>if u<t+1 then sumA f (ix a u) (ix b u) 1 else 0:=by
   refine Zah j k (fun u l o hu=>?_) (by rw [if_pos ω])
   by_cases h:u<t
   ·rw [if_pos h,if_pos ω]
   ·rw [if_neg h,if_neg ω]
  generalize (tabl a.length fun u=>if u<t then sumA f (ix a u) (ix b u) 1 else 0)=A at hL hs ⊢
  by_cases hz:ix b t=0
  ·rw [hz,add0 hF x y] at hs
   simp (disch:=omega) only [pz,ZcG,hs]
  ·have hS:=Zsv hF.fd (a:=ix a t) (b:=ix b t) (c:=1) ω ω ω ω ω ω
   simp (disch:=omega) only [pz,ZcG,hS,hs]
 have e0:(tabl a.length fun u=>if u<(0:Int) then sumA f (ix a u) (ix b u) 1 else 0)=List.replicate (a.length:Int).toNat 0:=by
  rw [ZfT]
  exact ZQ fun u l _=>by rw [if_neg ω]
 have e1:(tabl a.length fun u=>if u<(a.length:Int) then sumA f (ix a u) (ix b u) 1 else 0)=tabl a.length fun t=>sumA f (ix a t) (ix b t) 1:=ZQ fun u l o=>by rw [if_pos o]
 rw [e0,e1] at e
 have p:loop (ZcG f a b) (0,List.replicate (a.length:Int).toNat 0)=some (tabl a.length fun t=>sumA f (ix a t) (ix b t) 1):=e.trans (Ze (by simp (disch:=omega) only [pz,ZcG]))
 rw [Int.toNat_natCast] at a0 p
 simp (disch:=omega) only [pz,a0,p]
theorem Zw0 {v w:List Int} {c:Int} (hv:In q v) (hw:In q w) (hl:(v.length:Int)<=64) (he:w.length=v.length) (l:0<=c) (c1:c<q):
  ZbP (tabs f q inv) v w c=some (tabl v.length fun t=>sumA f (ix v t) (mulA f (ix w t) c) 1):=by
 have hq:=hF.q64
 unfold ZbP
 have a0:=Zm (B:=Zbj (tabs f q inv) w c) (fun t=>(t,tabl v.length fun u=>if u<t then sumA f (ix v u) (mulA f (ix w u) c) 1 else ix v u)) (i:=0) (n:=v.length) ω fun t j k=>by
  obtain ⟨x,y⟩:=hv t j k
  obtain ⟨o,p⟩:=hw t j ω
  have a8:(tabl v.length fun u=>if u<t then sumA f (ix v u) (mulA f (ix w u) c) 1 else ix v u).length=v.length:=by rw [Zn];omega
  have s:ix (tabl v.length fun u=>if u<t then sumA f (ix v u) (mulA f (ix w u) c) 1 else ix v u) t=ix v t:=by rw [ZM j k,if_neg ω]
  obtain ⟨m0,m1⟩:=ZcT hF.fd hF.pw c (ix w t)
  have hs:(tabl v.length fun u=>if u<t then sumA f (ix v u) (mulA f (ix w u) c) 1 else ix v u).set t.toNat (sumA f (ix v t) (mulA f c (ix w t)) 1)=tabl v.length fun u=>if u<t+1 then sumA f (ix v u) (mulA f (ix w u) c) 1 else ix v u:=by
   apply Zah j k
   ·intro u u0 u1 u2
    by_cases h:u<t
    ·rw [if_pos h,if_pos (show u<t+1 by omega)]
    ·rw [if_neg h,if_neg (show ¬ u<t+1 by omega)]
   ·rw [if_pos ω,hF.comm c _ l c1 o p]
  have i2:gIdx (tabs f q inv).qadd (ix v t)=some (tabl q fun b=>sumA f (ix v t) b 1):=by rw [ZtM,Zaz x y]
  have i3:gIdx (tabs f q inv).qmul c=some (tabl q fun b=>mulA f c b):=by rw [ZlW,Zaz l c1]
  have i4:gIdx (tabl q fun b=>mulA f c b) (ix w t)=some (mulA f c (ix w t)):=Zaz o p
  have i5:gIdx (tabl q fun b=>sumA f (ix v t) b 1) (mulA f c (ix w t))=some (sumA f (ix v t) (mulA f c (ix w t)) 1):=Zaz m0 m1
  simp (disch:=omega) only [pz,Zbj,s,i2,i3,i4,i5,hs]
 have e0:((0:Int),v)=(fun t=>(t,tabl v.length fun u=>if u<t then sumA f (ix v u) (mulA f (ix w u) c) 1 else ix v u)) 0:=by
  show _=((0:Int),_)
  congr 1
  refine (Zbl v).symm.trans (ZQ fun t j k=>?_)
  rw [if_neg ω]
 rw [e0,a0]
 refine Ze ?_
 have e1:(tabl v.length fun u=>if u<(v.length:Int) then sumA f (ix v u) (mulA f (ix w u) c) 1 else ix v u)=tabl v.length fun t=>sumA f (ix v t) (mulA f (ix w t) c) 1:=ZQ fun t j k=>by rw [if_pos k]
 simp (disch:=omega) only [pz,Zbj,e1]
variable {w:Int} {m:List (List Int)} (hm:Mat q w m)
include hm
theorem Zz4 (w0:0<=w) (m1:1<=(m.length:Int)) (ah:∀ {g:Zf},True) {n:Int} (n0:0<=n) (n1:n<=4096):
  ∃ a0,Zi7 n q (m.length:Int)=some a0/\ZiK (tabs f q inv) m a0=some (wd f q w m m.length n):=by
 have s:=hF.q64
 have l:=hF.q2
 have ag:=hm.n
 have a5:=hm.w1
 have u:=ZjA (p:=q) (a:=n) (k:=(m.length:Int)) n0 ω l s ω ω
 have a6:=ZaF (p:=q) (a:=n) (k:=(m.length:Int)) ω
 have hr:=ZDz (xs:=dig q m.length n) ω
 refine ⟨_,by unfold Zi7;rw [u,Option.bind_some,hr,Option.bind_some],?_⟩
 rw [a6]
 have o:=hm.len 0 ω ω
 have a2:=Zav (b:=8) (z:=(0:Int)) (n:=w) ω ω ω
 generalize hM:(tabl (m.length:Int) fun t=>ix (dig q m.length n) ((m.length:Int)-1-t))=a0
 have af:(a0.length:Int)=m.length:=by rw [<-hM,Zn];omega
 have a4:∀ i,0<=i->i<(m.length:Int)->ix a0 i=qd q n ((m.length:Int)-(i+1)).toNat%q:=fun i c j=>by
  rw [<-hM,ZM c j,show (m.length:Int)-1-i=(m.length:Int)-(i+1) by omega]
  unfold dig
  exact ZM ω ω
 have e:=Zm (B:=Zd3 (tabs f q inv) m a0) (fun i:Int=>(i,wd f q w m i.toNat (qd q n ((m.length:Int)-i).toNat))) (i:=0) (n:=(m.length:Int)) ω fun i c j=>by
  have x:=a4 i c j
  have aj:=(Zge (p:=q) n0 l ((m.length:Int)-(i+1)).toNat).1
  have y:=Int.emod_nonneg (qd q n ((m.length:Int)-(i+1)).toNat) (b:=q) ω
  have c1:=Int.emod_lt_of_pos (qd q n ((m.length:Int)-(i+1)).toNat) (b:=q) ω
  have a8:=Ziy hF (m:=m) w0 i.toNat (qd q n ((m.length:Int)-i).toNat)
  have a7:=wd_in hF (m:=m) w0 i.toNat (qd q n ((m.length:Int)-i).toNat)
  have ai:=hm.len i c j
  have hA:=Zw0 hF (v:=wd f q w m i.toNat (qd q n ((m.length:Int)-i).toNat)) (w:=ix m i) a7 (hm.rng i c j) ω ω y c1
  have e2:qd q n ((m.length:Int)-i).toNat=qd q n ((m.length:Int)-(i+1)).toNat/q:=by
   rw [show ((m.length:Int)-i).toNat=((m.length:Int)-(i+1)).toNat+1 by omega];rfl
  have e3:wd f q w m (i+1).toNat (qd q n ((m.length:Int)-(i+1)).toNat)=tabl w fun t=>sumA f (ix (wd f q w m i.toNat (qd q n ((m.length:Int)-i).toNat)) t) (mulA f (ix (ix m i) t) (qd q n ((m.length:Int)-(i+1)).toNat%q)) 1:=by
   rw [show (i+1).toNat=i.toNat+1 by omega,wd,e2,show ((i.toNat:Nat):Int)=i by omega]
  rw [e3]
  rw [a8] at hA
  have eT:Zae.mk (tabs f q inv).qq (tabs f q inv).qadd (tabs f q inv).qsub (tabs f q inv).qmul (tabs f q inv).qinv=tabs f q inv:=rfl
  rw [<-x] at hA ⊢
  generalize tabs f q inv=T at hA eT ⊢
  generalize wd f q w m i.toNat (qd q n ((m.length:Int)-i).toNat)=V at hA ⊢
  simp (disch:=omega) only [pz,Zd3,eT,hA]
 have e0:wd f q w m (0:Int).toNat (qd q n ((m.length:Int)-0).toNat)=List.replicate w.toNat 0:=by
  rw [ZfT];rfl
 have e9:wd f q w m (m.length:Int).toNat (qd q n ((m.length:Int)-(m.length:Int)).toNat)=wd f q w m m.length n:=by
  rw [Int.sub_self,Int.toNat_natCast];rfl
 rw [e0,e9] at e
 have e1:loop (Zd3 (tabs f q inv) m a0) (0,List.replicate w.toNat 0)=some (wd f q w m m.length n):=e.trans (Ze (by simp (disch:=omega) only [pz,Zd3]))
 unfold ZiK
 simp (disch:=omega) only [pz,o,a2,e1]
theorem ZAk (w0:0<=w) (c:1<=(m.length:Int)) (hs:Za2 f=some q) (x:pwN q m.length<=4096):Zhc ⟨f,m⟩=some (tabl (pwN q m.length) (wd f q w m m.length)):=by
 have a2:=hm.n
 have ht:=Zu9 hF hs
 have hp:=pwU hF.q2 (k:=m.length) ω x
 have hP:=Zbf (p:=q) hF.q2 m.length
 have e:=Zm (B:=Zeb ⟨f,m⟩ (tabs f q inv) m.length (pwN q m.length)) (fun n:Int=>(tabl n (wd f q w m m.length),n)) (i:=0) (n:=pwN q m.length) ω fun n n0 n1=>by
  obtain ⟨a3,j,b⟩:=Zz4 hF hm w0 c (fun {_}=>trivial) n0 ω
  have eT:Zae.mk (tabs f q inv).qq (tabs f q inv).qadd (tabs f q inv).qsub (tabs f q inv).qmul (tabs f q inv).qinv=tabs f q inv:=rfl
  have o:(tabs f q inv).qq=q:=rfl
  have u:Zae.mk q (tabs f q inv).qadd (tabs f q inv).qsub (tabs f q inv).qmul (tabs f q inv).qinv=tabs f q inv:=rfl
  have hl:(tabl n (wd f q w m m.length)).length=n.toNat:=Zn
  have hg:=gAppV (xs:=tabl n (wd f q w m m.length)) (y:=wd f q w m m.length n) ω
  rw [<-ZY n0] at hg
  generalize tabs f q inv=T at b eT u o ⊢
  simp (disch:=omega) only [pz,Zeb,u,o,j,b,hg]
 have l:loop (Zeb ⟨f,m⟩ (tabs f q inv) m.length (pwN q m.length)) ([],0)=some (tabl (pwN q m.length) (wd f q w m m.length)):=e.trans (Ze (by simp (disch:=omega) only [pz,Zeb]))
 have eF:Zf.mk f.Prime f.Degree f.Poly=f:=rfl
 have o:(tabs f q inv).qq=q:=rfl
 unfold Zhc
 simp (disch:=omega) only [pz,eF,ht,Z4,o,hp,l]
theorem ZyK (w0:0<=w) (m1:1<=(m.length:Int)) (hs:Za8 f=some q) (hN:pwN q m.length<=4096):ZjG ⟨f,m⟩=some (tabl (pwN q m.length) (wd f q w m m.length)):=by
 have ay:=hm.n
 have aa:=hm.w1
 have o:=hF.q2
 have a3:=hF.q64
 have eF:Zf.mk f.Prime f.Degree f.Poly=f:=rfl
 have u:=hm.len 0 ω ω
 have a5:=Zav (b:=8) (z:=(0:Int)) (n:=w) ω ω ω
 have e:=Zm (B:=ZdL ⟨f,m⟩ q) (fun i:Int=>(tabl (pwN q i.toNat) (wd f q w m i.toNat),i)) (i:=0) (n:=(m.length:Int)) ω fun i i0 i1=>by
  have az:=hm.len i i0 i1
  have a7:=hm.rng i i0 i1
  have a8:=Zbf (p:=q) o i.toNat
  have ac:pwN q i.toNat*q<=4096:=by
   have h1:pwN q (i.toNat+1)=pwN q i.toNat*q:=rfl
   have h2:=pw_lo o (a:=i.toNat+1) (b:=m.length) ω
   omega
  have eP:pwN q (i+1).toNat=pwN q i.toNat*q:=by rw [show (i+1).toNat=i.toNat+1 by omega];rfl
  have hY:((tabl (pwN q i.toNat) (wd f q w m i.toNat)).length:Int)=pwN q i.toNat:=by rw [Zn];omega
  have a0:∀ k,0<=k->k<pwN q i.toNat->ix (tabl (pwN q i.toNat) (wd f q w m i.toNat)) k=wd f q w m i.toNat k:=fun k l k1=>ZM l k1
  have hM:((tabl q fun x=>scl f (ix m i) x).length:Int)=q:=by rw [Zn];omega
  have a9:∀ x,0<=x->x<q->ix (tabl q fun x=>scl f (ix m i) x) x=scl f (ix m i) x:=fun x c j=>ZM c j
  rw [eP]
  generalize ag:tabl (pwN q i.toNat) (wd f q w m i.toNat)=Y at hY a0 ⊢
  generalize pwN q i.toNat=P at a8 ac hY a0 ag ⊢
  have b1:P*1<=P*q:=Int.mul_le_mul_of_nonneg_left ω ω
  have b4:∀ k,0<=k->k<P->loop (Zew ⟨f,m⟩ q Y (tabl q fun x=>scl f (ix m i) x) k) (tabl (k*q) (wd f q w m (i+1).toNat),0)=some (.inl (tabl ((k+1)*q) (wd f q w m (i+1).toNat),k+1)):=fun k l k1=>by
   have b0:0<=k*q:=Int.mul_nonneg l ω
   have ab:(k+1)*q<=P*q:=Int.mul_le_mul_of_nonneg_right ω ω
   have a2:(k+1)*q=k*q+q:=by rw [Int.add_mul,Int.one_mul]
   have e:=Zm (B:=Zew ⟨f,m⟩ q Y (tabl q fun x=>scl f (ix m i) x) k) (fun x:Int=>(tabl (k*q+x) (wd f q w m (i+1).toNat),x)) (i:=0) (n:=q) ω fun x c j=>by
    have hl:((tabl (k*q+x) (wd f q w m (i+1).toNat)).length:Int)=k*q+x:=by rw [Zn];omega
    have ad:=a0 k l k1
    have af:=a9 x c j
    have ah:=Ziy hF (m:=m) w0 i.toNat k
    have ae:=wd_in hF (m:=m) w0 i.toNat k
    have ax:(scl f (ix m i) x).length=(ix m i).length:=Zht
    have a1:=Zz3 hF (a:=wd f q w m i.toNat k) (b:=scl f (ix m i) x) ae (ZjS hF) ω ω
    have eW:(tabl ((wd f q w m i.toNat k).length:Int) fun t=>sumA f (ix (wd f q w m i.toNat k) t) (ix (scl f (ix m i) x) t) 1)=wd f q w m (i+1).toNat (k*q+x):=by
     rw [show (i+1).toNat=i.toNat+1 by omega,wd,ah]
     have s:(k*q+x)/q=k:=by rw [Int.add_comm,Int.add_mul_ediv_right _ _ ω,Int.ediv_eq_zero_of_lt c j];omega
     have e2:(k*q+x)%q=x:=by rw [Int.add_comm,Int.add_mul_emod_self_right,Int.emod_eq_of_lt c j]
     rw [s,e2,show ((i.toNat:Nat):Int)=i by omega]
     refine ZQ fun t t0 t1=>?_
     congr 1
     exact ZM t0 ω
    rw [eW] at a1
    have hg:=gAppV (xs:=tabl (k*q+x) (wd f q w m (i+1).toNat)) (y:=wd f q w m (i+1).toNat (k*q+x)) ω
    rw [<-ZY ω] at hg
    have ea:k*q+(x+1)=k*q+x+1:=ω
    rw [ea]
    simp (disch:=omega) only [pz,Zew,ad,af,eF,a1,hg]
   rw [Int.add_zero] at e
   rw [e,a2]
   exact Ze (by simp (disch:=omega) only [pz,Zew])
  have b3:loop (ZeE ⟨f,m⟩ q Y i (tabl q fun x=>scl f (ix m i) x)) ([],0)=some (.inr (.inl (tabl (P*q) (wd f q w m (i+1).toNat),i+1))):=by
   have e:=Zm (B:=ZeE ⟨f,m⟩ q Y i (tabl q fun x=>scl f (ix m i) x)) (fun k:Int=>(tabl (k*q) (wd f q w m (i+1).toNat),k)) (i:=0) (n:=P) ω fun k l k1=>by
    have:=b4 k l k1
    simp (disch:=omega) only [pz,ZeE,this]
   rw [Int.zero_mul] at e
   exact e.trans (Ze (by simp (disch:=omega) only [pz,ZeE]))
  have b2:loop (ZdI ⟨f,m⟩ q Y i) ([],0)=some (.inl (tabl (P*q) (wd f q w m (i+1).toNat),i+1)):=by
   have e:=Zm (B:=ZdI ⟨f,m⟩ q Y i) (fun x:Int=>(tabl x fun x=>scl f (ix m i) x,x)) (i:=0) (n:=q) ω fun x c j=>by
    have aj:=Zs5 hF a7 ω c j
    have hl:((tabl x fun x=>scl f (ix m i) x).length:Int)=x:=by rw [Zn];omega
    have hg:=gAppV (xs:=tabl x fun x=>scl f (ix m i) x) (y:=scl f (ix m i) x) ω
    rw [<-ZY (f:=fun x=>scl f (ix m i) x) c] at hg
    simp (disch:=omega) only [pz,ZdI,eF,aj,hg]
   exact e.trans (Ze (by simp (disch:=omega) only [pz,ZdI,b3]))
  simp (disch:=omega) only [pz,ZdL,b2]
 have e0:tabl (pwN q (0:Int).toNat) (wd f q w m (0:Int).toNat)=[List.replicate w.toNat 0]:=by
  rw [ZfT];rfl
 rw [e0,Int.toNat_natCast] at e
 have s:loop (ZdL ⟨f,m⟩ q) ([List.replicate w.toNat 0],0)=some (tabl (pwN q m.length) (wd f q w m m.length)):=e.trans (Ze (by simp (disch:=omega) only [pz,ZdL]))
 unfold ZjG
 simp (disch:=omega) only [pz,eF,u,a5,hs,s]
end
structure CodeV (o:ZF) (f:Zf) (inv:List Int):Prop where
 F:Ff f o.Size inv
 si:Za2 f=some o.Size
 ss:Za8 f=some o.Size
 M:VMat o.Size o.Rows
 r8:(o.Rows.length:Int)<=8
 few:pwN o.Size o.Rows.length<=4096
 form:ZfW f o.Rows=some o.Rows
 cs:Zbd o=some ⟨f,o.Rows⟩
 ci:Zcf o=some ⟨f,o.Rows⟩
 oks:ZaA ⟨f,o.Rows⟩=some true
 oki:Zdc ⟨f,o.Rows⟩=some true
theorem ZyC {o:ZF} (hs:Sz2 o.Rows) (h:ZaO o=some true) (hk:o.Kind=5):∃ f inv,CodeV o f inv:=by
 obtain ⟨cs,ci,b,j,t,c,y⟩:=Zry hs
 have e2:Z5.mk (Zf.mk cs.Field.Prime cs.Field.Degree cs.Field.Poly) cs.Rows=cs:=rfl
 have u:ZaO o=some b:=by unfold ZaO;simp (disch:=omega) only [pz,j,e2,c]
 rw [h] at u
 obtain rfl:b=true:=(Option.some.inj u).symm
 rcases Zq8 o.Size with ⟨f,hm⟩|⟨h1,e,h2⟩
 ·obtain ⟨inv,hF⟩:=ZrS hm.gf
  have eF:Zf.mk f.Prime f.Degree f.Poly=f:=rfl
  have l:Zbd o=some ⟨f,o.Rows⟩:=by
   have hp:=hF.fd.p2
   unfold Zbd
   rw [hm.split]
   simp (disch:=omega) only [pz,hm.mks,eF]
  have x:Zcf o=some ⟨f,o.Rows⟩:=by
   unfold Zcf
   rw [ZdX hs,hm.mki]
   simp (disch:=omega) only [pz,eF]
  rw [l] at j
  rw [x] at t
  obtain rfl:=Option.some.inj j
  obtain rfl:=Option.some.inj t
  have p:=hF.q2
  have i:=hF.q64
  have hN:=hs.1
  by_cases hV:VMat o.Size o.Rows
  ·have k:=(Zmp hm p i hs).eq hV
   have n1:=hV.n1;have w2:=hV.w2;have w1:=hV.w1
   by_cases h8:(o.Rows.length:Int)<=8
   ·obtain ⟨cs,ci,k1,k2,k3⟩:=Zqv p i o.Rows.length 1 ω ω ω
    have c1:Zjv o.Size (o.Rows.length:Int)=some cs:=k1
    by_cases hz:cs=0
    ·have:ZaA ⟨f,o.Rows⟩=some false:=by
      unfold ZaA Zc5
      simp (disch:=omega) only [pz,eF,k,hm.szs,c1]
     rw [this] at c;cases c
    ·have a2:=ZBD p i ω k1 hz
     obtain ⟨R,piv,d,s,r2,r3,r4⟩:=Zun hF hs hV.mat ω n1
     obtain ⟨b,s1,s3⟩:=ZmS (a:=R) (b:=o.Rows) ω r4
     have:ZaA ⟨f,o.Rows⟩=some b:=by
      unfold ZaA Zc5
      simp (disch:=omega) only [pz,eF,k,hm.szs,c1,s,s1]
     rw [this] at c
     rw [s3.1 (Option.some.inj c)] at s
     exact ⟨f,inv,hF,hm.szi,hm.szs,hV,h8,a2,s,l,x,by rw [this,c],y⟩
   ·have:ZaA ⟨f,o.Rows⟩=some false:=by
     unfold ZaA Zc5
     simp (disch:=omega) only [pz,eF,k]
    rw [this] at c;cases c
  ·have k:=(Zmp hm p i hs).ne hV
   have:ZaA ⟨f,o.Rows⟩=some false:=by
    unfold ZaA Zc5
    simp (disch:=omega) only [pz,eF,k]
   rw [this] at c;cases c
 ·have l:Zbd o=some ⟨⟨0,0,[]⟩,[]⟩:=by
   unfold Zbd
   rw [h1]
   simp (disch:=omega) only [pz,]
  rw [l] at j
  obtain rfl:=Option.some.inj j
  have:ZaA ⟨⟨0,0,[]⟩,[]⟩=some false:=rfl
  rw [this] at c;cases c
def bipR (v m:Int) (rel:Int->Int->Bool) (x:Int):List Zd:=((idP m).filter fun i=>rel x i).map fun i=>⟨x,v+i⟩
def bipK (v m:Int) (rel:Int->Int->Bool) (k:Int):List Zd:=(idP k).flatMap (bipR v m rel)
theorem Zl1 (v m:Int) (rel:Int->Int->Bool) (x:Int):(bipR v m rel x).length<=m.toNat:=by
 unfold bipR
 rw [List.length_map]
 have:=List.length_filter_le (fun i=>rel x i) (idP m)
 rwa [Zag] at this
theorem Zut {v k:Int} {rel:Int->Int->Bool} {x:Int} (h:0<=k):bipR v (k+1) rel x=bipR v k rel x++(if rel x k=true then [⟨x,v+k⟩] else []):=by
 unfold bipR idP
 rw [ZY h,List.filter_append,List.map_append]
 by_cases c:rel x k=true
 ·rw [if_pos c];simp [c]
 ·rw [if_neg c];simp [c]
theorem Zmt {v m k:Int} {rel:Int->Int->Bool} (h:0<=k):bipK v m rel (k+1)=bipK v m rel k++bipR v m rel k:=by
 unfold bipK idP
 rw [ZY h,List.flatMap_append]
 simp
theorem ZvM {v m k:Int} {rel:Int->Int->Bool} {e:Zd}:e∈bipK v m rel k↔(0<=e.A/\e.A<k)/\∃ i,(0<=i/\i<m)/\rel e.A i=true/\e.B=v+i:=by
 unfold bipK bipR
 rw [List.mem_flatMap]
 constructor
 ·rintro ⟨a,o,he⟩
  obtain ⟨i,hi,rfl⟩:=List.mem_map.1 he
  rw [List.mem_filter] at hi
  exact ⟨ZV.1 o,i,ZV.1 hi.1,hi.2,rfl⟩
 ·rintro ⟨b,i,c,j,l⟩
  refine ⟨e.A,ZV.2 b,List.mem_map.2 ⟨i,List.mem_filter.2 ⟨ZV.2 c,j⟩,?_⟩⟩
  cases e
  simp only [Zd.mk.injEq,true_and]
  exact l.symm
theorem Zs2 (v m k:Int) (rel:Int->Int->Bool):(bipK v m rel k).Pairwise eLess:=by
 unfold bipK
 rw [List.pairwise_flatMap]
 refine ⟨fun a o=>?_,(Zdl k).imp fun {a b} j x c y l=>?_⟩
 ·unfold bipR
  rw [List.pairwise_map]
  exact ((Zdl m).filter _).imp fun h=>.inr ⟨rfl,by show v+_<v+_;omega⟩
 ·unfold bipR at c l
  obtain ⟨_,_,rfl⟩:=List.mem_map.1 c
  obtain ⟨_,_,rfl⟩:=List.mem_map.1 l
  exact .inl j
theorem pw_nd {l:List Zd} (h:l.Pairwise eLess):l.Nodup:=h.imp fun {a b} h e=>by subst e;unfold eLess at h;omega
def setE (v:Int) (sets:List (List Int)) (k:Int):List Zd:=(idP k).flatMap fun i=>(ix sets i).map fun x=>⟨x,v+i⟩
theorem ZrX {v k:Int} {sets:List (List Int)} (h:0<=k):setE v sets (k+1)=setE v sets k++(ix sets k).map fun x=>⟨x,v+k⟩:=by
 unfold setE idP
 rw [ZY h,List.flatMap_append]
 simp
structure Sts (v:Int) (sets:List (List Int)):Prop where
 v0:0<=v
 v1:v<=64
 m:(sets.length:Int)<=4096
 len:∀ s∈sets,s.length<=64
 nd:∀ s∈sets,s.Nodup
 rng:∀ s∈sets,∀ x∈s,0<=x/\x<v
section
variable {v:Int} {sets:List (List Int)} (h:Sts v sets)
include h
theorem Zq3 {e:Zd}:e∈setE v sets sets.length↔∃ i,(0<=i/\i<(sets.length:Int))/\e.A∈ix sets i/\e.B=v+i:=by
 unfold setE
 rw [List.mem_flatMap]
 constructor
 ·rintro ⟨i,hi,he⟩
  obtain ⟨x,b,rfl⟩:=List.mem_map.1 he
  exact ⟨i,ZV.1 hi,b,rfl⟩
 ·rintro ⟨i,hi,b,c⟩
  refine ⟨i,ZV.2 hi,List.mem_map.2 ⟨e.A,b,?_⟩⟩
  cases e
  simp only [Zd.mk.injEq,true_and]
  exact c.symm
theorem Zt0 {e:Zd}:e∈setE v sets sets.length↔e∈bipK v sets.length (fun x i=>decide (x∈ix sets i)) v:=by
 rw [Zq3 h,ZvM]
 constructor
 ·rintro ⟨i,hi,b,c⟩
  have:=h.rng _ (Zq hi.1 hi.2) _ b
  exact ⟨this,i,hi,by simpa using b,c⟩
 ·rintro ⟨_,i,hi,b,c⟩
  exact ⟨i,hi,by simpa using b,c⟩
theorem ZEo:srtE ((setE v sets sets.length).map mkE)=bipK v sets.length (fun x i=>decide (x∈ix sets i)) v:=by
 refine (Zlf (Zs2 _ _ _ _) fun z=>?_).symm
 have hm:∀ e∈setE v sets sets.length,mkE e=e:=fun e he=>by
  obtain ⟨i,hi,b,c⟩:=(Zq3 h).1 he
  have:=h.rng _ (Zq hi.1 hi.2) _ b
  unfold mkE
  cases e
  simp only [Zd.mk.injEq]
  dsimp only at c this
  omega
 rw [List.mem_map,<-Zt0 h]
 constructor
 ·intro hz;exact ⟨z,hz,hm z hz⟩
 ·rintro ⟨e,he,rfl⟩;rw [hm e he];exact he
theorem Zzn:(setE v sets sets.length).length=(bipK v sets.length (fun x i=>decide (x∈ix sets i)) v).length:=by
 refine List.Perm.length_eq ((List.perm_ext_iff_of_nodup ?_ (pw_nd (Zs2 _ _ _ _))).2 fun e=>Zt0 h)
 unfold setE List.Nodup
 rw [List.pairwise_flatMap]
 refine ⟨fun i hi=>?_,(Zdl _).imp fun {a b} j x c y k e=>?_⟩
 ·have hi:=ZV.1 hi
  rw [List.pairwise_map]
  refine (h.nd _ (Zq hi.1 hi.2)).imp fun {a b} j e=>j ?_
  simp only [Zd.mk.injEq] at e
  exact e.1
 ·obtain ⟨_,_,rfl⟩:=List.mem_map.1 c
  obtain ⟨_,_,rfl⟩:=List.mem_map.1 k
  simp only [Zd.mk.injEq] at e
  omega
end
def cols (z o:Int):List Int:=tabl (z+o) fun i=>if i<z then 0 else 1
theorem Zrm {z o:Int}:(cols z o).length=(z+o).toNat:=Zn
theorem Zz0 {z o:Int} (p:0<=z) (s:0<=o) (h:z+o<=1000000):ZiY z o=some (cols z o):=by
 unfold ZiY
 have u:gMake 8 (0:Int) (ε.wrap (z+o)) (ε.wrap (z+o))=some (tabl (z+o) fun i=>if z<=i/\i<z then 1 else 0):=by
  rw [wr64 ω ω,Zav ω ω ω]
  congr 1
  refine ZaG (by rw [List.length_replicate,Zn]) fun i b j=>?_
  rw [List.length_replicate] at j
  rw [Zce b ω,ZM b ω,if_neg ω]
 rw [u,Option.bind_some]
 have l:=Zm (B:=ZfZ z o) (fun k=>(k,tabl (z+o) fun i=>if z<=i/\i<k then (1:Int) else 0)) (i:=z) (n:=z+o) ω fun k t k1=>by
  have hs:(tabl (z+o) fun i=>if z<=i/\i<k then (1:Int) else 0).set k.toNat 1=tabl (z+o) fun i=>if z<=i/\i<k+1 then (1:Int) else 0:=by
   refine Zah ω k1 (fun i b j hi=>?_) ?_
   ·by_cases c:z<=i/\i<k
    ·rw [if_pos c,if_pos ω]
    ·rw [if_neg c,if_neg ω]
   ·rw [if_pos ω]
  have x:(tabl (z+o) fun i=>if z<=i/\i<k then (1:Int) else 0).length=(z+o).toNat:=Zn
  generalize (tabl (z+o) fun i=>if z<=i/\i<k then (1:Int) else 0)=X at hs x ⊢
  simp (disch:=omega) only [pz,ZfZ,hs]
 rw [l]
 have e:(tabl (z+o) fun i=>if z<=i/\i<z+o then (1:Int) else 0)=cols z o:=ZQ fun i b j=>by
  by_cases c:i<z
  ·rw [if_pos c,if_neg ω]
  ·rw [if_neg c,if_pos ω]
 rw [e]
 exact Ze (by simp (disch:=omega) only [pz,ZfZ])
def nilG:Zc:=⟨[],[]⟩
theorem Ztg {cs:List Int} {es:List Zd} (h:es.length<=1000000):Zgt cs es=some (if (cs.length:Int)>64 then (nilG,5) else if (es.length:Int)>512 then (nilG,5) else (⟨cs,srtE (es.map mkE)⟩,0)):=by
 unfold Zgt Zmn
 have hs:=ZsW h
 by_cases c:(cs.length:Int)>64
 ·rw [if_pos c];simp (disch:=omega) only [pz,];rfl
 ·by_cases d:(es.length:Int)>512
  ·rw [if_neg c,if_pos d];simp (disch:=omega) only [pz,];rfl
  ·rw [if_neg c,if_neg d];simp (disch:=omega) only [pz,hs]
def bipG (v m:Int) (rel:Int->Int->Bool):Zc×Int:=if v+m>64 then (nilG,5) else if ((bipK v m rel v).length:Int)>512 then (nilG,5) else (⟨cols v m,bipK v m rel v⟩,0)
theorem ZqZ {v:Int} {sets:List (List Int)} (h:Sts v sets):Zgy v sets=some (bipG v sets.length fun x i=>decide (x∈ix sets i)):=by
 unfold Zgy
 have p:=h.v0
 have a7:=h.v1
 have hm:=h.m
 obtain ⟨⟨a0,j⟩,⟨t,u,h3⟩,h4⟩:=ZjJ (B:=Zgg v sets) (fun k q=>q.2=k/\q.1=setE v sets k/\(q.1.length:Int)<=64*k) (i:=0) (n:=sets.length) ω (s:=(([]:List Zd),(0:Int))) ⟨rfl,rfl,by simp⟩ fun k q b k1 ⟨y,l,g3⟩=>by
  obtain ⟨a0,j⟩:=q
  dsimp only at y l g3
  subst y
  have a9:=h.len _ (Zq b k1)
  have a8:=Zm (B:=ZdE v j (ix sets j)) (fun i=>(a0++((ix sets j).take i.toNat).map (fun x=>Zd.mk x (v+j)),i)) (i:=0) (n:=(ix sets j).length) ω fun i i0 i1=>by
   have hl:(a0++((ix sets j).take i.toNat).map (fun x=>Zd.mk x (v+j))).length<=1000000:=by rw [List.length_append,List.length_map,List.length_take];omega
   have a4:((ix sets j).take (i+1).toNat).map (fun x=>Zd.mk x (v+j))=_:=Zee i0 i1
   rw [a4,<-List.append_assoc]
   generalize a0++((ix sets j).take i.toNat).map (fun x=>Zd.mk x (v+j))=X at hl ⊢
   simp (disch:=omega) only [pz,ZdE]
  have e0:(a0,(0:Int))=(fun i:Int=>(a0++((ix sets j).take i.toNat).map (fun x=>Zd.mk x (v+j)),i)) 0:=by simp
  have a2:loop (ZdE v j (ix sets j)) (a0,0)=some (.inl (setE v sets (j+1),j+1)):=by
   rw [e0,a8]
   refine Ze ?_
   rw [Int.toNat_natCast,List.take_length,ZrX b,<-l]
   simp (disch:=omega) only [pz,ZdE]
  refine ⟨(setE v sets (j+1),j+1),by simp (disch:=omega) only [pz,Zgg,a2],rfl,rfl,?_⟩
  dsimp only
  rw [ZrX b,<-l,List.length_append,List.length_map]
  omega
 dsimp only at t u h3
 rw [h4]
 subst t
 have a6:=Zz0 (z:=v) (o:=sets.length) p ω ω
 have a1:=Ztg (cs:=cols v sets.length) (es:=a0) ω
 have a3:=Zrm (z:=v) (o:=sets.length)
 have a5:=Zzn h
 have hr:(if ((cols v sets.length).length:Int)>64 then (nilG,(5:Int)) else if (a0.length:Int)>512 then (nilG,5) else (⟨cols v sets.length,srtE (a0.map mkE)⟩,0))=bipG v sets.length fun x i=>decide (x∈ix sets i):=by
  unfold bipG
  rw [a3,u,a5,ZEo h]
  by_cases c:v+(sets.length:Int)>64
  ·rw [if_pos c,if_pos ω]
  ·rw [if_neg c,if_neg ω]
 rw [hr] at a1
 refine Ze ?_
 unfold Zgg
 dsimp only
 have e9:∀ r:Zc×Int,(Zc.mk r.1.Colors r.1.Edges,r.2)=r:=fun r=>rfl
 simp (disch:=omega) only [pz,Z4,a6,a1,e9]
theorem ZyD {d:Zao} (h:Sts d.Points d.Blocks):Zib d=some (bipG d.Points d.Blocks.length fun x i=>decide (x∈ix d.Blocks i)):=by
 unfold Zib bipG
 have j:=h.v0
 have a6:=h.v1
 have hm:=h.m
 by_cases c:d.Points+(d.Blocks.length:Int)>64
 ·rw [if_pos c];simp (disch:=omega) only [pz,];rfl
 rw [if_neg c]
 have u:=Zm (B:=Zd0 d) (fun k=>(k,tabl k fun i=>if i<d.Points then (0:Int) else 1)) (i:=0) (n:=d.Points) j fun k b k1=>by
  have hl:(tabl k fun i=>if i<d.Points then (0:Int) else 1).length<=64:=by rw [Zn];omega
  have a0:(tabl (k+1) fun i=>if i<d.Points then (0:Int) else 1)=_:=ZY b
  rw [if_pos k1] at a0
  rw [a0]
  generalize (tabl k fun i=>if i<d.Points then (0:Int) else 1)=X at hl ⊢
  simp (disch:=omega) only [pz,Zd0]
 have l:=Zm (B:=Zdy d) (fun k=>(k,tabl (d.Points+k) fun i=>if i<d.Points then (0:Int) else 1)) (i:=0) (n:=d.Blocks.length) ω fun k b k1=>by
  have hl:(tabl (d.Points+k) fun i=>if i<d.Points then (0:Int) else 1).length<=64:=by rw [Zn];omega
  have a0:(tabl (d.Points+k+1) fun i=>if i<d.Points then (0:Int) else 1)=_:=ZY ω
  rw [if_neg ω] at a0
  rw [<-Int.add_assoc,a0]
  generalize (tabl (d.Points+k) fun i=>if i<d.Points then (0:Int) else 1)=X at hl ⊢
  simp (disch:=omega) only [pz,Zdy]
 generalize a4:(fun (x:Int) (i:Int)=>decide (x∈ix d.Blocks i))=rel
 have a7:∀ k:Int,0<=k->k<=d.Points->((bipK d.Points d.Blocks.length rel k).length:Int)<=64*k:=by
  intro k b k1
  obtain ⟨n,rfl⟩:∃ n:Nat,k=n:=⟨k.toNat,by omega⟩
  clear b
  induction n with
  | zero=>simp [bipK,idP,tabl]
  | succ n ih=>
   have:=ih ω
   have l:=Zl1 d.Points d.Blocks.length rel (n:Int)
   rw [show ((n+1:Nat):Int)=(n:Int)+1 by omega,Zmt ω,List.length_append]
   omega
 have y:=Zm (B:=ZcW d (cols d.Points d.Blocks.length)) (fun k=>(k,bipK d.Points d.Blocks.length rel k)) (i:=0) (n:=d.Points) j fun k b k1=>by
  have ah:=a7 k b ω
  have a8:=Zm (B:=Zdm d k) (fun i=>(i,bipK d.Points d.Blocks.length rel k++bipR d.Points i rel k)) (i:=0) (n:=d.Blocks.length) ω fun i o i1=>by
   have hl:=Zl1 d.Points i rel k
   have p:(bipK d.Points d.Blocks.length rel k++bipR d.Points i rel k).length<=100000:=by rw [List.length_append];omega
   have a0:=Zut (v:=d.Points) (rel:=rel) (x:=k) o
   have a9:=h.len _ (Zq o i1)
   have a2:=ZpN (s:=ix d.Blocks i) (v:=k) ω
   have t:rel k i=decide (k∈ix d.Blocks i):=by rw [<-a4]
   by_cases cc:k∈ix d.Blocks i
   ·have hh:=a2.eq cc
    rw [if_pos (by rw [t];simpa using cc)] at a0
    rw [a0,<-List.append_assoc]
    generalize bipK d.Points d.Blocks.length rel k++bipR d.Points i rel k=X at p ⊢
    simp (disch:=omega) only [pz,Zdm,hh]
   ·have hh:=a2.ne cc
    rw [if_neg (by rw [t];simpa using cc),List.append_nil] at a0
    rw [a0]
    simp (disch:=omega) only [pz,Zdm,hh]
  have e0:((0:Int),bipK d.Points d.Blocks.length rel k)=(fun i:Int=>(i,bipK d.Points d.Blocks.length rel k++bipR d.Points i rel k)) 0:=by
   show _=((0:Int),_++bipR d.Points 0 rel k)
   rw [show bipR d.Points 0 rel k=[] from rfl,List.append_nil]
  have a5:loop (Zdm d k) (0,bipK d.Points d.Blocks.length rel k)=some (.inl (k+1,bipK d.Points d.Blocks.length rel (k+1))):=by
   rw [e0,a8]
   refine Ze ?_
   rw [Zmt b]
   simp (disch:=omega) only [pz,Zdm]
  simp (disch:=omega) only [pz,ZcW,a5]
 have e1:((0:Int),([]:List Int))=(fun k:Int=>(k,tabl k fun i=>if i<d.Points then (0:Int) else 1)) 0:=rfl
 have e2:((0:Int),tabl d.Points fun i=>if i<d.Points then (0:Int) else 1)=(fun k:Int=>(k,tabl (d.Points+k) fun i=>if i<d.Points then (0:Int) else 1)) 0:=by
  show _=((0:Int),tabl (d.Points+0) _)
  rw [Int.add_zero]
 have e3:((0:Int),([]:List Zd))=(fun k:Int=>(k,bipK d.Points d.Blocks.length rel k)) 0:=rfl
 have k3:loop (ZcW d (cols d.Points d.Blocks.length)) (0,([]:List Zd))=some (.inr (.inr (if ((bipK d.Points d.Blocks.length rel d.Points).length:Int)>512 then (nilG,5) else (⟨cols d.Points d.Blocks.length,bipK d.Points d.Blocks.length rel d.Points⟩,0)))):=by
  rw [e3,y]
  refine Ze ?_
  by_cases cc:((bipK d.Points d.Blocks.length rel d.Points).length:Int)>512
  ·rw [if_pos cc];simp (disch:=omega) only [pz,ZcW];rfl
  ·rw [if_neg cc];simp (disch:=omega) only [pz,ZcW]
 have k2:loop (Zdy d) (0,tabl d.Points fun i=>if i<d.Points then (0:Int) else 1)=some (.inr (if ((bipK d.Points d.Blocks.length rel d.Points).length:Int)>512 then (nilG,5) else (⟨cols d.Points d.Blocks.length,bipK d.Points d.Blocks.length rel d.Points⟩,0))):=by
  rw [e2,l]
  refine Ze ?_
  show Zdy d ((d.Blocks.length:Int),cols d.Points d.Blocks.length)=_
  simp (disch:=omega) only [pz,Zdy,k3]
 have k1:loop (Zd0 d) (0,([]:List Int))=some (if ((bipK d.Points d.Blocks.length rel d.Points).length:Int)>512 then (nilG,5) else (⟨cols d.Points d.Blocks.length,bipK d.Points d.Blocks.length rel d.Points⟩,0)):=by
  rw [e1,u]
  exact Ze (by simp (disch:=omega) only [pz,Zd0,k2])
 simp (disch:=omega) only [pz,k1]
theorem Zrv {α:Type} {n:Int} {f:Int->α} {y:α} (h:y∈tabl n f):∃ i,f i=y:=by
 unfold tabl at h
 obtain ⟨j,_,e⟩:=List.mem_map.1 h
 exact ⟨_,e⟩
def supp (r:List Int):List Int:=(idP r.length).filter fun x=>decide (¬ ix r x=0)
theorem ZGk {r:List Int} (j:r.length<=1000):Zhr r=some (supp r):=by
 unfold Zhr
 have h:=Zm (B:=Zeh r) (fun k=>((idP k).filter fun x=>decide (¬ ix r x=0),k)) (i:=0) (n:=r.length) ω fun k b k1=>by
  have hl:((idP k).filter fun x=>decide (¬ ix r x=0)).length<=1000:=by
   have:=List.length_filter_le (fun x=>decide (¬ ix r x=0)) (idP k)
   rw [Zag] at this;omega
  have hs:(idP (k+1)).filter (fun x=>decide (¬ ix r x=0))=((idP k).filter fun x=>decide (¬ ix r x=0))++(if ¬ ix r k=0 then [k] else []):=by
   unfold idP
   rw [ZY b,List.filter_append]
   by_cases c:ix r k=0
   ·rw [if_neg (Classical.not_not.2 c)];simp [c]
   ·rw [if_pos c];simp [c]
  rw [hs]
  generalize ((idP k).filter fun x=>decide (¬ ix r x=0))=X at hl ⊢
  by_cases c:ix r k=0
  ·rw [if_neg (Classical.not_not.2 c),List.append_nil]
   simp (disch:=omega) only [pz,Zeh]
  ·rw [if_pos c]
   simp (disch:=omega) only [pz,Zeh]
 exact h.trans (Ze (by simp (disch:=omega) only [pz,Zeh];rfl))
theorem ZGj {v m k:Int} {b r2:Int->Int->Bool} (h:∀ x i,0<=x->x<k->0<=i->i<m->b x i=r2 x i):bipK v m b k=bipK v m r2 k:=by
 unfold bipK
 have:∀ l:List Int,(∀ x∈l,0<=x/\x<k)->l.flatMap (bipR v m b)=l.flatMap (bipR v m r2):=fun l=>by
  induction l with
  | nil=>intro _;rfl
  | cons a l j=>
   intro hl
   rw [List.flatMap_cons,List.flatMap_cons,j fun x c=>hl x (.tail _ c)]
   congr 1
   unfold bipR
   congr 1
   refine List.filter_congr fun i hi=>?_
   have:=hl a (.head _)
   have:=ZV.1 hi
   exact h _ _ ω ω ω ω
 exact this _ fun x c=>ZV.1 c
theorem ZA7 {v m:Int} {b r2:Int->Int->Bool} (h:∀ x i,0<=x->x<v->0<=i->i<m->b x i=r2 x i):bipG v m b=bipG v m r2:=by
 unfold bipG
 rw [ZGj h]
section
variable {e:List Int} {ws:List (List Int)} (he:(e.length:Int)<=64) (hl:∀ r∈ws,(r.length:Int)=e.length) (hi:∀ r∈ws,In 2 r) (w1:1<=(ws.length:Int)) (wN:(ws.length:Int)<=4096)
include he hl hi w1 wN
theorem ZCa:Sts e.length ((ws.drop 1).map supp) where
 v0:=ω
 v1:=he
 m:=by rw [List.length_map,List.length_drop];omega
 len:=fun s hs=>by
  obtain ⟨r,j,rfl⟩:=List.mem_map.1 hs
  have:=hl r (List.mem_of_mem_drop j)
  unfold supp
  have c:=List.length_filter_le (fun x=>decide (¬ ix r x=0)) (idP r.length)
  rw [Zag] at c;omega
 nd:=fun s hs=>by
  obtain ⟨r,j,rfl⟩:=List.mem_map.1 hs
  exact (Zk8 _).filter _
 rng:=fun s hs x b=>by
  obtain ⟨r,j,rfl⟩:=List.mem_map.1 hs
  have:=hl r (List.mem_of_mem_drop j)
  unfold supp at b
  have:=ZV.1 (List.mem_filter.1 b).1
  omega
theorem Zxb:(bif decide ((ε.wrap ((ε.wrap ((e.length:Int)+(ws.length:Int)))-1):Int)>64) then
   some (((Zc.mk ([]:List Int) ([]:List Zd)),(5:Int)))
  else loop (Zdt e ws) (0,([]:List Int)))=some (bipG e.length ((ws.drop 1).map supp).length fun x i=>decide (x∈ix ((ws.drop 1).map supp) i)):=by
 have a2:(((ws.drop 1).map supp).length:Int)=(ws.length:Int)-1:=by rw [List.length_map,List.length_drop];omega
 have a3:∀ x i:Int,0<=x->x<(e.length:Int)->0<=i->i<(ws.length:Int)-1->decide (x∈ix ((ws.drop 1).map supp) i)=decide (ix (ix ws (i+1)) x=1):=fun x i u x1 j o=>by
  have hm:ix ws (i+1)∈ws:=Zq ω ω
  have p:=hl _ hm
  have l:=hi _ hm x u ω
  rw [Zh7 j (by rw [List.length_drop];omega),show ws.drop 1=ws.drop (1:Int).toNat from rfl,ZqD ω j,Int.add_comm 1 i]
  unfold supp
  rw [decide_eq_decide,List.mem_filter,ZV,decide_eq_true_eq]
  omega
 rw [ZA7 (r2:=fun x i=>decide (ix (ix ws (i+1)) x=1)) (by rw [a2];exact a3),a2]
 generalize hR:(fun (x:Int) (i:Int)=>decide (ix (ix ws (i+1)) x=1))=rel
 have v0:(0:Int)<=e.length:=ω
 generalize hv:(e.length:Int)=v at *
 generalize hm:(ws.length:Int)-1=m at *
 unfold bipG
 by_cases c:v+m>64
 ·rw [if_pos c];simp (disch:=omega) only [pz,];rfl
 rw [if_neg c]
 have p:=Zm (B:=Zdt e ws) (fun k=>(k,tabl k fun i=>if i<v then (0:Int) else 1)) (i:=0) (n:=v) v0 fun k b k1=>by
  have hl:(tabl k fun i=>if i<v then (0:Int) else 1).length<=64:=by rw [Zn];omega
  have a0:(tabl (k+1) fun i=>if i<v then (0:Int) else 1)=_:=ZY b
  rw [if_pos k1] at a0
  rw [a0]
  generalize (tabl k fun i=>if i<v then (0:Int) else 1)=X at hl ⊢
  simp (disch:=omega) only [pz,Zdt]
 have l:=Zm (B:=ZcK e ws) (fun k=>(k,tabl (v+(k-1)) fun i=>if i<v then (0:Int) else 1)) (i:=1) (n:=ws.length) ω fun k b k1=>by
  have hl:(tabl (v+(k-1)) fun i=>if i<v then (0:Int) else 1).length<=64:=by rw [Zn];omega
  have a0:(tabl (v+(k-1)+1) fun i=>if i<v then (0:Int) else 1)=_:=ZY ω
  rw [if_neg ω] at a0
  rw [show v+(k+1-1)=v+(k-1)+1 by omega,a0]
  generalize (tabl (v+(k-1)) fun i=>if i<v then (0:Int) else 1)=X at hl ⊢
  simp (disch:=omega) only [pz,ZcK]
 have a6:∀ k:Int,0<=k->k<=v->((bipK v m rel k).length:Int)<=64*k:=by
  intro k b k1
  obtain ⟨n,rfl⟩:∃ n:Nat,k=n:=⟨k.toNat,by omega⟩
  clear b
  induction n with
  | zero=>simp [bipK,idP,tabl]
  | succ n ih=>
   have:=ih ω
   have l:=Zl1 v m rel (n:Int)
   rw [show ((n+1:Nat):Int)=(n:Int)+1 by omega,Zmt ω,List.length_append]
   omega
 have y:=Zm (B:=Zdb e ws (cols v m)) (fun k=>(k,bipK v m rel k)) (i:=0) (n:=v) v0 fun k b k1=>by
  have ai:=a6 k b ω
  have a7:=Zm (B:=ZcU e ws k) (fun i=>(i,bipK v m rel k++bipR v (i-1) rel k)) (i:=1) (n:=ws.length) ω fun i j o=>by
   have a5:=Zl1 v (i-1) rel k
   have s:(bipK v m rel k++bipR v (i-1) rel k).length<=100000:=by rw [List.length_append];omega
   have a0:=Zut (v:=v) (rel:=rel) (x:=k) (k:=i-1) ω
   have a8:=hl _ (Zq (xs:=ws) (i:=i) ω o)
   have t:rel k (i-1)=decide (ix (ix ws i) k=1):=by rw [<-hR];show decide (ix (ix ws (i-1+1)) k=1)=_;rw [Int.sub_add_cancel]
   have ei:i+1-1=i-1+1:=ω
   have ew:v+i-1=v+(i-1):=ω
   rw [ei]
   by_cases cc:ix (ix ws i) k=1
   ·rw [if_pos (by rw [t];simpa using cc)] at a0
    rw [a0,<-List.append_assoc]
    generalize bipK v m rel k++bipR v (i-1) rel k=X at s ⊢
    simp (disch:=omega) only [pz,ZcU,hv,ew]
   ·rw [if_neg (by rw [t];simpa using cc),List.append_nil] at a0
    rw [a0]
    simp (disch:=omega) only [pz,ZcU]
  have e0:((1:Int),bipK v m rel k)=(fun i:Int=>(i,bipK v m rel k++bipR v (i-1) rel k)) 1:=by
   show _=((1:Int),_++bipR v 0 rel k)
   rw [show bipR v 0 rel k=[] from rfl,List.append_nil]
  have a4:loop (ZcU e ws k) (1,bipK v m rel k)=some (.inl (k+1,bipK v m rel (k+1))):=by
   rw [e0,a7]
   refine Ze ?_
   rw [hm,Zmt b]
   simp (disch:=omega) only [pz,ZcU]
  simp (disch:=omega) only [pz,Zdb,a4,hv]
 have e1:((0:Int),([]:List Int))=(fun k:Int=>(k,tabl k fun i=>if i<v then (0:Int) else 1)) 0:=rfl
 have e2:((1:Int),tabl v fun i=>if i<v then (0:Int) else 1)=(fun k:Int=>(k,tabl (v+(k-1)) fun i=>if i<v then (0:Int) else 1)) 1:=by
  show _=((1:Int),tabl (v+0) _)
  rw [Int.add_zero]
 have e3:((0:Int),([]:List Zd))=(fun k:Int=>(k,bipK v m rel k)) 0:=rfl
 have k3:loop (Zdb e ws (cols v m)) (0,([]:List Zd))=some (.inr (.inr (if ((bipK v m rel v).length:Int)>512 then (nilG,5) else (⟨cols v m,bipK v m rel v⟩,0)))):=by
  rw [e3,y]
  refine Ze ?_
  by_cases cc:((bipK v m rel v).length:Int)>512
  ·rw [if_pos cc];simp (disch:=omega) only [pz,Zdb,hv];rfl
  ·rw [if_neg cc];simp (disch:=omega) only [pz,Zdb,hv]
 have k2:loop (ZcK e ws) (1,tabl v fun i=>if i<v then (0:Int) else 1)=some (.inr (if ((bipK v m rel v).length:Int)>512 then (nilG,5) else (⟨cols v m,bipK v m rel v⟩,0))):=by
  rw [e2,l]
  refine Ze ?_
  rw [hm]
  show ZcK e ws ((ws.length:Int),cols v m)=_
  simp (disch:=omega) only [pz,ZcK,k3]
 have k1:loop (Zdt e ws) (0,([]:List Int))=some (if ((bipK v m rel v).length:Int)>512 then (nilG,5) else (⟨cols v m,bipK v m rel v⟩,0)):=by
  rw [e1,p]
  exact Ze (by simp (disch:=omega) only [pz,Zdt,k2,hv])
 simp (disch:=omega) only [pz,k1]
end
theorem ZzH {o:ZF} (hs:Sz2 o.Rows) {f:Zf} {inv:List Int} (h:CodeV o f inv):∃ r,ZfH ⟨f,o.Rows⟩=some r/\ZfP ⟨f,o.Rows⟩=some r/\(r=(nilG,6)\/∃ v m rel,0<=v/\0<=m/\r=bipG v m rel):=by
 have eF:Zf.mk f.Prime f.Degree f.Poly=f:=rfl
 have eC:Z5.mk f o.Rows=⟨f,o.Rows⟩:=rfl
 have a4:=h.si
 have a2:=h.ss
 have a8:=h.oki
 by_cases j:o.Size=2
 ·have n1:=h.M.n1
  have w1:=h.M.w1
  have w2:=h.M.w2
  have hF:=h.F
  have hM:=h.M.mat
  have ab:=ZAk hF hM ω n1 a4 h.few
  have aa:=ZyK hF hM ω n1 a2 h.few
  have ai:=h.few
  have hP:=Zbf (p:=o.Size) hF.q2 o.Rows.length
  have u:=hM.len 0 ω ω
  generalize hW:tabl (pwN o.Size o.Rows.length) (wd f o.Size (ix o.Rows 0).length o.Rows o.Rows.length)=W at ab aa
  have ak:(W.length:Int)=pwN o.Size o.Rows.length:=by rw [<-hW,Zn];omega
  have a1:∀ r∈W,(r.length:Int)=(ix o.Rows 0).length:=fun r hr=>by
   rw [<-hW] at hr
   obtain ⟨n,rfl⟩:=Zrv hr
   exact Ziy hF ω _ _
  have a7:∀ r∈W,In 2 r:=fun r hr=>by
   rw [<-hW] at hr
   obtain ⟨n,rfl⟩:=Zrv hr
   have:=wd_in hF (m:=o.Rows) (w:=(ix o.Rows 0).length) ω o.Rows.length n
   rw [j] at this ⊢
   exact this
  clear hW
  have hg:=Zxb (e:=ix o.Rows 0) (ws:=W) ω a1 a7 ω ω
  have a9:=ZqZ (ZCa (e:=ix o.Rows 0) (ws:=W) ω a1 a7 ω ω)
  have a3:=Zlb (xs:=W) (lo:=1) ω ω
  have eD:W.drop (1:Int).toNat=W.drop 1:=rfl
  rw [eD] at a3
  have ag:((W.drop 1).length:Int)=(W.length:Int)-1:=by rw [List.length_drop];omega
  have b:∀ r∈W.drop 1,(r.length:Int)=(ix o.Rows 0).length:=fun r hr=>a1 r (List.mem_of_mem_drop hr)
  refine ⟨bipG (ix o.Rows 0).length ((W.drop 1).map supp).length fun x i=>decide (x∈ix ((W.drop 1).map supp) i),?_,?_,.inr ⟨_,_,_,Int.natCast_nonneg (ix o.Rows 0).length,Int.natCast_nonneg ((W.drop 1).map supp).length,rfl⟩⟩
  ·unfold ZfH
   have l:ε.wrap (((ix o.Rows 0).length:Int)+(W.length:Int))=(ix o.Rows 0).length+(W.length:Int):=wr64 ω ω
   have s:ε.wrap (((ix o.Rows 0).length:Int)+(W.length:Int)-1)=(ix o.Rows 0).length+(W.length:Int)-1:=wr64 ω ω
   rw [l,s] at hg
   simp (disch:=omega) only [pz,eF,a2,aa]
   exact hg
  ·generalize W.drop 1=D at a9 a3 ag b
   have af:=Zm (B:=Zec ⟨f,o.Rows⟩ D) (fun k=>((D.take k.toNat).map supp,k)) (i:=0) (n:=D.length) ω fun k c k1=>by
    have hm:=b _ (Zq c k1)
    have ah:=ZGk (r:=ix D k) ω
    have hl:((D.take k.toNat).map supp).length<=10000:=by rw [List.length_map,List.length_take];omega
    rw [Zee c k1]
    generalize (D.take k.toNat).map supp=X at hl ⊢
    have ae:=gAppV (xs:=X) (y:=supp (ix D k)) ω
    simp (disch:=omega) only [pz,Zec,ah,ae]
   have ad:loop (Zec ⟨f,o.Rows⟩ D) ([],0)=some (bipG (ix o.Rows 0).length (D.map supp).length fun x i=>decide (x∈ix (D.map supp) i)):=by
    refine af.trans (Ze ?_)
    rw [Int.toNat_natCast,List.take_length]
    have t:∀ r:Zc×Int,(Zc.mk r.1.Colors r.1.Edges,r.2)=r:=fun r=>rfl
    simp (disch:=omega) only [pz,Zec,Zj2,ZX,a9,t]
   unfold ZfP
   simp (disch:=omega) only [pz,eF,a8,a4,ab,a3,ad]
 ·refine ⟨_,?_,?_,.inl rfl⟩
  ·unfold ZfH
   simp (disch:=omega) only [pz,eF,a2]
   rfl
  ·unfold ZfP
   simp (disch:=omega) only [pz,eF,a8,a4]
   rfl
def sqP (n:Int) (a:List (List Int)) (l x y:Int):Bool:=decide (l=x\/l=n+y\/l=2*n+ix (ix a x) y)
def sqR (n:Int) (a:List (List Int)) (l x k:Int):List Zd:=((idP k).filter fun y=>sqP n a l x y).map fun y=>⟨l,3*n+x*n+y⟩
def sqX (n:Int) (a:List (List Int)) (l k:Int):List Zd:=(idP k).flatMap fun x=>sqR n a l x n
def sqL (n:Int) (a:List (List Int)) (k:Int):List Zd:=(idP k).flatMap fun l=>sqX n a l n
def sqC (n:Int):List Int:=tabl (3*n+n*n) fun v=>if v<3*n then v/n else 3
theorem ZAg {n l x k:Int} {a:List (List Int)} (h:0<=k):sqR n a l x (k+1)=sqR n a l x k++(if sqP n a l x k=true then [⟨l,3*n+x*n+k⟩] else []):=by
 unfold sqR idP
 rw [ZY h,List.filter_append,List.map_append]
 by_cases c:sqP n a l x k=true
 ·rw [if_pos c];simp [c]
 ·rw [if_neg c];simp [c]
theorem Ztr {n l k:Int} {a:List (List Int)} (h:0<=k):sqX n a l (k+1)=sqX n a l k++sqR n a l k n:=by
 unfold sqX idP
 rw [ZY h,List.flatMap_append]
 simp
theorem Zt9 {n k:Int} {a:List (List Int)} (h:0<=k):sqL n a (k+1)=sqL n a k++sqX n a k n:=by
 unfold sqL idP
 rw [ZY h,List.flatMap_append]
 simp
theorem ZrP (n l x k:Int) (a:List (List Int)):(sqR n a l x k).length<=k.toNat:=by
 unfold sqR
 rw [List.length_map]
 have:=List.length_filter_le (fun y=>sqP n a l x y) (idP k)
 rwa [Zag] at this
theorem ZuX {n:Int} (b:n<=6) (l:Int) (a:List (List Int)) (k:Nat):(sqX n a l k).length<=6*k:=by
 induction k with
 | zero=>simp [sqX,idP,tabl]
 | succ k c=>
  have:=ZrP n l k n a
  rw [show ((k+1:Nat):Int)=(k:Int)+1 by omega,Ztr ω,List.length_append]
  omega
theorem Zra {n:Int} (n0:0<=n) (b:n<=6) (a:List (List Int)) (k:Nat):(sqL n a k).length<=36*k:=by
 induction k with
 | zero=>simp [sqL,idP,tabl]
 | succ k c=>
  have:=ZuX b k a n.toNat
  rw [show ((n.toNat:Nat):Int)=n by omega] at this
  rw [show ((k+1:Nat):Int)=(k:Int)+1 by omega,Zt9 ω,List.length_append]
  omega
theorem ZvG {n k:Int} {a:List (List Int)} {e:Zd}:e∈sqL n a k↔(0<=e.A/\e.A<k)/\∃ x y,(0<=x/\x<n)/\(0<=y/\y<n)/\sqP n a e.A x y=true/\e.B=3*n+x*n+y:=by
 unfold sqL sqX sqR
 rw [List.mem_flatMap]
 constructor
 ·rintro ⟨l,hl,he⟩
  obtain ⟨x,b,he⟩:=List.mem_flatMap.1 he
  obtain ⟨y,j,rfl⟩:=List.mem_map.1 he
  rw [List.mem_filter] at j
  exact ⟨ZV.1 hl,x,y,ZV.1 b,ZV.1 j.1,j.2,rfl⟩
 ·rintro ⟨c,x,y,b,j,hp,o⟩
  refine ⟨e.A,ZV.2 c,List.mem_flatMap.2 ⟨x,ZV.2 b,List.mem_map.2 ⟨y,List.mem_filter.2 ⟨ZV.2 j,hp⟩,?_⟩⟩⟩
  cases e
  simp only [Zd.mk.injEq,true_and]
  exact o.symm
theorem ZFo (n k:Int) (n0:0<=n) (a:List (List Int)):(sqL n a k).Pairwise eLess:=by
 unfold sqL
 rw [List.pairwise_flatMap]
 refine ⟨fun l hl=>?_,(Zdl k).imp fun {l l'} a5 x b y hy=>?_⟩
 ·unfold sqX
  rw [List.pairwise_flatMap]
  refine ⟨fun x b=>?_,(Zdl n).imp fun {x x'} a7 u hu v hv=>?_⟩
  ·unfold sqR
   rw [List.pairwise_map]
   exact ((Zdl n).filter _).imp fun h=>.inr ⟨rfl,by show _+_<_+_;omega⟩
  ·unfold sqR at hu hv
   obtain ⟨y,hy,rfl⟩:=List.mem_map.1 hu
   obtain ⟨y',a3,rfl⟩:=List.mem_map.1 hv
   have o:=ZV.1 (List.mem_filter.1 hy).1
   have p:=ZV.1 (List.mem_filter.1 a3).1
   have c:(x+1)*n<=x'*n:=Int.mul_le_mul_of_nonneg_right ω n0
   rw [Int.add_mul,Int.one_mul] at c
   exact .inr ⟨rfl,by show 3*n+x*n+y<3*n+x'*n+y';omega⟩
 ·have fA:∀ {l:Int} {e:Zd},e∈sqX n a l n->e.A=l:=fun he=>by
   obtain ⟨x,b,he⟩:=List.mem_flatMap.1 he
   obtain ⟨y,hy,rfl⟩:=List.mem_map.1 he
   rfl
  have i:=fA b
  have j:=fA hy
  exact .inl (by rw [i,j];exact a5)
def sqT (n:Int) (a:List (List Int)) (x y:Int):List Zd:=[⟨x,3*n+n*x+y⟩,⟨n+y,3*n+n*x+y⟩,⟨2*n+ix (ix a x) y,3*n+n*x+y⟩]
def sqU (n:Int) (a:List (List Int)) (x k:Int):List Zd:=(idP k).flatMap fun y=>sqT n a x y
def sqE (n:Int) (a:List (List Int)) (k:Int):List Zd:=(idP k).flatMap fun x=>sqU n a x n
theorem Zsu {n x k:Int} {a:List (List Int)} (h:0<=k):sqU n a x (k+1)=sqU n a x k++sqT n a x k:=by
 unfold sqU idP
 rw [ZY h,List.flatMap_append]
 simp
theorem Zue {n k:Int} {a:List (List Int)} (h:0<=k):sqE n a (k+1)=sqE n a k++sqU n a k n:=by
 unfold sqE idP
 rw [ZY h,List.flatMap_append]
 simp
theorem ZuJ (n x:Int) (a:List (List Int)) (k:Nat):(sqU n a x k).length=3*k:=by
 induction k with
 | zero=>simp [sqU,idP,tabl]
 | succ k c=>
  rw [show ((k+1:Nat):Int)=(k:Int)+1 by omega,Zsu ω,List.length_append,c]
  simp [sqT];omega
theorem Zsd {n:Int} (n0:0<=n) (b:n<=6) (a:List (List Int)) (k:Nat):(sqE n a k).length<=18*k:=by
 induction k with
 | zero=>simp [sqE,idP,tabl]
 | succ k c=>
  have:=ZuJ n k a n.toNat
  rw [show ((n.toNat:Nat):Int)=n by omega] at this
  rw [show ((k+1:Nat):Int)=(k:Int)+1 by omega,Zue ω,List.length_append]
  omega
section
variable {a:List (List Int)} (h:ValidSq a) (h6:(a.length:Int)<=6)
include h h6
theorem ZnE {x y:Int} (b:0<=x) (c:x<(a.length:Int)) (i:0<=y) (l:y<(a.length:Int)):((ix a x).length:Int)=a.length/\0<=ix (ix a x) y/\ix (ix a x) y<(a.length:Int):=by
 obtain ⟨j,r2,k⟩:=h.row _ (Zq b c)
 have:=k.rng _ (Zq (xs:=ix a x) i ω)
 exact ⟨j,this.1,by omega⟩
theorem ZDU:srtE ((sqE a.length a a.length).map mkE)=sqL a.length a (3*a.length):=by
 have n1:=h.n1
 have o:∀ z:Zd,z∈sqE a.length a a.length↔z∈sqL a.length a (3*a.length):=fun z=>by
  rw [ZvG]
  unfold sqE sqU sqT
  rw [List.mem_flatMap]
  constructor
  ·rintro ⟨x,b,hz⟩
   obtain ⟨y,k,hz⟩:=List.mem_flatMap.1 hz
   have b:=ZV.1 b
   have k:=ZV.1 k
   obtain ⟨_,i,j⟩:=ZnE h h6 b.1 b.2 k.1 k.2
   rw [List.mem_cons,List.mem_cons,List.mem_singleton] at hz
   rcases hz with rfl|rfl|rfl
   ·exact ⟨by dsimp only;omega,x,y,b,k,by simp [sqP],by show (_:Int)=_;simp only [];rw [Int.mul_comm (a.length:Int) x]⟩
   ·exact ⟨by dsimp only;omega,x,y,b,k,by simp [sqP],by show (_:Int)=_;simp only [];rw [Int.mul_comm (a.length:Int) x]⟩
   ·exact ⟨by dsimp only;omega,x,y,b,k,by simp [sqP],by show (_:Int)=_;simp only [];rw [Int.mul_comm (a.length:Int) x]⟩
  ·rintro ⟨c,x,y,b,k,hp,l⟩
   refine ⟨x,ZV.2 b,List.mem_flatMap.2 ⟨y,ZV.2 k,?_⟩⟩
   unfold sqP at hp
   rw [decide_eq_true_eq] at hp
   rw [List.mem_cons,List.mem_cons,List.mem_singleton]
   cases z
   simp only [Zd.mk.injEq]
   dsimp only at hp l
   rw [Int.mul_comm (a.length:Int) x]
   rcases hp with hp|hp|hp
   ·exact .inl ⟨hp,l⟩
   ·exact .inr (.inl ⟨hp,l⟩)
   ·exact .inr (.inr ⟨hp,l⟩)
 have hm:∀ z∈sqE a.length a a.length,mkE z=z:=fun z hz=>by
  obtain ⟨c,x,y,b,k,hp,l⟩:=ZvG.1 ((o z).1 hz)
  have u:0<=x*(a.length:Int):=Int.mul_nonneg b.1 ω
  unfold mkE
  cases z
  simp only [Zd.mk.injEq]
  dsimp only at c l
  omega
 refine (Zlf (ZFo _ _ ω _) fun z=>?_).symm
 rw [List.mem_map,<-o]
 constructor
 ·intro hz;exact ⟨z,hz,hm z hz⟩
 ·rintro ⟨e,he,rfl⟩;rw [hm e he];exact he
theorem Zwf:Zi9 a false=some ⟨sqC a.length,sqL a.length a (3*a.length)⟩:=by
 unfold Zi9
 have n1:=h.n1
 have a3:(a.length:Int)*a.length<=36:=by
  have:=Int.mul_le_mul h6 h6 ω (by omega:(0:Int)<=6)
  omega
 have p:0<=(a.length:Int)*a.length:=Int.mul_nonneg ω ω
 generalize b:(a.length:Int)=n at n1 h6 a3 p ⊢
 have h1:=Zm (B:=Zfp a false) (fun k=>(k,tabl k fun v=>if v<3*n then v/n else 3)) (i:=0) (n:=3*n) ω fun k c k1=>by
  have hl:(tabl k fun v=>if v<3*n then v/n else 3).length<=18:=by rw [Zn];omega
  have a0:(tabl (k+1) fun v=>if v<3*n then v/n else 3)=_:=ZY c
  rw [if_pos k1] at a0
  have hd:Int.tdiv k n=k/n:=Int.tdiv_eq_ediv_of_nonneg c
  have a9:0<=k/n:=Int.ediv_nonneg c ω
  have aa:k/n<3:=Int.ediv_lt_of_lt_mul ω ω
  rw [a0]
  generalize (tabl k fun v=>if v<3*n then v/n else 3)=X at hl ⊢
  simp (disch:=omega) only [pz,Zfp,Zha,b,hd]
 have h2:=Zm (B:=ZcI a) (fun k=>(k,tabl (3*n+k) fun v=>if v<3*n then v/n else 3)) (i:=0) (n:=n*n) ω fun k c k1=>by
  have hl:(tabl (3*n+k) fun v=>if v<3*n then v/n else 3).length<=54:=by rw [Zn];omega
  have a0:(tabl (3*n+k+1) fun v=>if v<3*n then v/n else 3)=_:=ZY ω
  rw [if_neg ω] at a0
  rw [<-Int.add_assoc,a0]
  generalize (tabl (3*n+k) fun v=>if v<3*n then v/n else 3)=X at hl ⊢
  simp (disch:=omega) only [pz,ZcI,b]
 have h3:=Zm (B:=ZdU a (sqC n)) (fun k=>(k,sqL n a k)) (i:=0) (n:=3*n) ω fun l l0 l1=>by
  have hL:=Zra ω h6 a l.toNat
  rw [show ((l.toNat:Nat):Int)=l by omega] at hL
  have hx:=Zm (B:=ZdC a l) (fun x=>(x,sqL n a l++sqX n a l x)) (i:=0) (n:=n) ω fun x j x1=>by
   have hX:=ZuX h6 l a x.toNat
   rw [show ((x.toNat:Nat):Int)=x by omega] at hX
   have a6:0<=x*n:=Int.mul_nonneg j ω
   have a7:x*n<=n*n:=Int.mul_le_mul_of_nonneg_right ω ω
   have hy:=Zm (B:=ZbM a l x) (fun y=>(y,sqL n a l++sqX n a l x++sqR n a l x y)) (i:=0) (n:=n) ω fun y s y1=>by
    obtain ⟨t,u,e3⟩:=ZnE h ω j ω s (show y<(a.length:Int) by omega)
    have hR:=ZrP n l x y a
    have hl:(sqL n a l++sqX n a l x++sqR n a l x y).length<=100000:=by rw [List.length_append,List.length_append];omega
    have a0:=ZAg (n:=n) (l:=l) (x:=x) (a:=a) s
    by_cases hp:l=x\/l=n+y\/l=2*n+ix (ix a x) y
    ·rw [if_pos (by unfold sqP;simpa using hp)] at a0
     rw [a0,<-List.append_assoc]
     generalize sqL n a l++sqX n a l x++sqR n a l x y=X at hl ⊢
     by_cases c1:l=x
     ·simp (disch:=omega) only [pz,ZbM,Zcm,b]
     ·by_cases c2:l=n+y
      ·simp (disch:=omega) only [pz,ZbM,Zcm,b]
      ·simp (disch:=omega) only [pz,ZbM,Zcm,b]
    ·rw [if_neg (by unfold sqP;simpa using hp),List.append_nil] at a0
     rw [a0]
     simp (disch:=omega) only [pz,ZbM,Zcm,b]
   have o:((0:Int),sqL n a l++sqX n a l x)=(fun y:Int=>(y,sqL n a l++sqX n a l x++sqR n a l x y)) 0:=by
    show _=((0:Int),_++sqR n a l x 0)
    rw [show sqR n a l x 0=[] from rfl,List.append_nil]
   have a1:loop (ZbM a l x) (0,sqL n a l++sqX n a l x)=some (.inl (x+1,sqL n a l++sqX n a l (x+1))):=by
    rw [o,hy]
    refine Ze ?_
    rw [Ztr j,<-List.append_assoc]
    simp (disch:=omega) only [pz,ZbM,b]
   simp (disch:=omega) only [pz,ZdC,b,a1]
  have o:((0:Int),sqL n a l)=(fun x:Int=>(x,sqL n a l++sqX n a l x)) 0:=by
   show _=((0:Int),_++sqX n a l 0)
   rw [show sqX n a l 0=[] from rfl,List.append_nil]
  have a1:loop (ZdC a l) (0,sqL n a l)=some (.inl (l+1,sqL n a (l+1))):=by
   rw [o,hx]
   refine Ze ?_
   rw [Zt9 l0]
   simp (disch:=omega) only [pz,ZdC,b]
  simp (disch:=omega) only [pz,ZdU,b,a1]
 have t:((0:Int),([]:List Int))=(fun k:Int=>(k,tabl k fun v=>if v<3*n then v/n else 3)) 0:=rfl
 have u:((0:Int),tabl (3*n) fun v=>if v<3*n then v/n else 3)=(fun k:Int=>(k,tabl (3*n+k) fun v=>if v<3*n then v/n else 3)) 0:=by
  show _=((0:Int),tabl (3*n+0) _)
  rw [Int.add_zero]
 have e3:((0:Int),([]:List Zd))=(fun k:Int=>(k,sqL n a k)) 0:=rfl
 have k3:loop (ZdU a (sqC n)) (0,([]:List Zd))=some (.inr (.inr ⟨sqC n,sqL n a (3*n)⟩)):=by
  rw [e3,h3]
  exact Ze (by simp (disch:=omega) only [pz,ZdU,b])
 have k2:loop (ZcI a) (0,tabl (3*n) fun v=>if v<3*n then v/n else 3)=some (.inr ⟨sqC n,sqL n a (3*n)⟩):=by
  rw [u,h2]
  refine Ze ?_
  show ZcI a (n*n,sqC n)=_
  simp (disch:=omega) only [pz,ZcI,b,k3]
 rw [t,h1]
 exact Ze (by simp (disch:=omega) only [pz,Zfp,b,k2])
theorem ZAD (hs:Sz2 a):ZeZ a false=some (⟨sqC a.length,sqL a.length a (3*a.length)⟩,0):=by
 unfold ZeZ
 have hv:=(ZmX hs).eq h
 have n1:=h.n1
 have aa:(a.length:Int)*a.length<=36:=by
  have:=Int.mul_le_mul h6 h6 ω (by omega:(0:Int)<=6)
  omega
 have l:0<=(a.length:Int)*a.length:=Int.mul_nonneg ω ω
 have a1:=ZDU h h6
 have a9:=Zsd ω h6 a a.length
 generalize hn:(a.length:Int)=n at n1 h6 aa l a1 a9 ⊢
 have h1:=Zm (B:=Zdn a false n) (fun k=>(tabl k fun v=>if v<3*n then v/n else 3,k)) (i:=0) (n:=3*n+n*n) ω fun k b k1=>by
  have hl:(tabl k fun v=>if v<3*n then v/n else 3).length<=54:=by rw [Zn];omega
  have a0:(tabl (k+1) fun v=>if v<3*n then v/n else 3)=_:=ZY b
  have hd:Int.tdiv k n=k/n:=Int.tdiv_eq_ediv_of_nonneg b
  have a7:0<=k/n:=Int.ediv_nonneg b ω
  have a8:k/n<=k:=Int.ediv_le_self _ b
  have hw:ε.wrap (k/n)=k/n:=wr64 ω ω
  have o:(if (3:Int)<k/n then 3 else k/n)=if k<3*n then k/n else 3:=by
   by_cases c:k<3*n
   ·have p:k/n<3:=Int.ediv_lt_of_lt_mul ω ω
    rw [if_pos c,if_neg ω]
   ·have p:3<=k/n:=Int.le_ediv_of_mul_le ω ω
    rw [if_neg c]
    by_cases d:3<k/n
    ·rw [if_pos d]
    ·rw [if_neg d];omega
  rw [<-o] at a0
  rw [a0]
  generalize (tabl k fun v=>if v<3*n then v/n else 3)=X at hl ⊢
  simp (disch:=omega) only [pz,Zdn,ZgE,hd,hw]
 have h2:=Zm (B:=ZdJ a n (sqC n)) (fun k=>(sqE n a k,k)) (i:=0) (n:=n) ω fun x j x1=>by
  have hE:=Zsd ω h6 a x.toNat
  rw [show ((x.toNat:Nat):Int)=x by omega] at hE
  have a4:0<=n*x:=Int.mul_nonneg ω j
  have a5:n*x<=n*n:=Int.mul_le_mul_of_nonneg_left ω ω
  have hy:=Zm (B:=ZdH a n x) (fun y=>(sqE n a x++sqU n a x y,y)) (i:=0) (n:=n) ω fun y s y1=>by
   obtain ⟨t,e2,u⟩:=ZnE h ω j ω s (show y<(a.length:Int) by omega)
   have hU:=ZuJ n x a y.toNat
   rw [show ((y.toNat:Nat):Int)=y by omega] at hU
   have hl:(sqE n a x++sqU n a x y).length<=1000:=by rw [List.length_append];omega
   have a0:=Zsu (n:=n) (x:=x) (a:=a) s
   rw [a0,<-List.append_assoc]
   generalize sqE n a x++sqU n a x y=X at hl ⊢
   have a2:gApp 16 X (sqT n a x y)=some (X++sqT n a x y):=ZaZ (by simp [sqT];omega) (by simp [sqT];omega)
   unfold sqT at a2 ⊢
   simp (disch:=omega) only [pz,ZdH,a2]
  have e0:(sqE n a x,(0:Int))=(fun y:Int=>(sqE n a x++sqU n a x y,y)) 0:=by
   show _=(_++sqU n a x 0,(0:Int))
   rw [show sqU n a x 0=[] from rfl,List.append_nil]
  have a6:loop (ZdH a n x) (sqE n a x,0)=some (.inl (sqE n a (x+1),x+1)):=by
   rw [e0,hy]
   refine Ze ?_
   rw [Zue j]
   simp (disch:=omega) only [pz,ZdH]
  simp (disch:=omega) only [pz,ZdJ,a6]
 have t:(([]:List Int),(0:Int))=(fun k:Int=>(tabl k fun v=>if v<3*n then v/n else 3,k)) 0:=rfl
 have u:(([]:List Zd),(0:Int))=(fun k:Int=>(sqE n a k,k)) 0:=rfl
 have ak:(sqC n).length=(3*n+n*n).toNat:=Zn
 have a3:=Ztg (cs:=sqC n) (es:=sqE n a n) ω
 rw [if_neg ω,if_neg ω,a1] at a3
 have k3:loop (ZdJ a n (sqC n)) (([]:List Zd),0)=some (.inr (⟨sqC n,sqL n a (3*n)⟩,0)):=by
  rw [u,h2]
  exact Ze (by simp (disch:=omega) only [pz,ZdJ,a3])
 have k1:loop (Zdn a false n) (([]:List Int),0)=some (⟨sqC n,sqL n a (3*n)⟩,0):=by
  rw [t,h1]
  refine Ze ?_
  show Zdn a false n (sqC n,3*n+n*n)=_
  simp (disch:=omega) only [pz,Zdn,k3]
 simp (disch:=omega) only [pz,hv,Z4,hn,k1]
end
theorem ZCh {a:List (List Int)} (h:ValidSq a) (hs:Sz2 a):∃ r,Zgd a false=some r/\ZeZ a false=some r/\r.1.Colors.length<=64/\r.1.Edges.length<=1000:=by
 have b:=(ZmE hs).eq h
 have n1:=h.n1
 by_cases h6:(a.length:Int)<=6
 ·have s:=Zwf h h6
  have c:(a.length:Int)*a.length<=36:=by
   have:=Int.mul_le_mul h6 h6 ω (by omega:(0:Int)<=6)
   omega
  have hl:=Zra (n:=a.length) ω h6 a (3*a.length)
  refine ⟨_,?_,ZAD h h6 hs,?_,?_⟩
  ·unfold Zgd
   simp (disch:=omega) only [pz,b,s]
  ·show (sqC a.length).length<=64
   unfold sqC
   rw [Zn];omega
  ·show (sqL a.length a (3*a.length)).length<=1000
   rw [show ((3*a.length:Nat):Int)=3*(a.length:Int) by omega] at hl
   omega
 ·refine ⟨(nilG,5),?_,?_,by simp [nilG],by simp [nilG]⟩
  ·unfold Zgd
   simp (disch:=omega) only [pz,b];rfl
  ·unfold ZeZ
   have hv:=(ZmX hs).eq h
   simp (disch:=omega) only [pz,hv,Z4];rfl
theorem ZsM {l:List Int} {hi:Int} (h:Rising l 0 hi):∀ n:Nat,(n:Int)<l.length->(n:Int)<=ix l n
 | 0,b=>(h 0 ω b).1.1
 | n+1,b=>by
  have:=ZsM h n ω
  have c:=(h ((n+1:Nat):Int) ω b).2 ω
  rw [show ((n+1:Nat):Int)-1=(n:Int) by omega] at c
  omega
theorem Zyc {l:List Int} {lo hi:Int} (h:Rising l lo hi):l.Nodup:=by
 unfold List.Nodup
 rw [List.pairwise_iff_getElem]
 intro i j hi u o
 have k:=ZDB h (i:=(i:Int)) (j:=(j:Int)) ω ω ω
 have b:=Zal (xs:=l) (i:=(i:Int)) ω ω
 have c:=Zal (xs:=l) (i:=(j:Int)) ω ω
 rw [Int.toNat_natCast,List.getElem?_eq_getElem ω] at b c
 rw [Option.some.inj b,Option.some.inj c]
 omega
theorem ZB9 {d:Zao} (h:ValidD d):Sts d.Points d.Blocks where
 v0:=by have:=h.p1;omega
 v1:=by have:=h.p2;omega
 m:=by have:=h.len;omega
 len:=fun s hs=>by
  obtain ⟨k,b,k1,rfl⟩:=Z0 hs
  have u:=(h.blk k b k1).2
  have o:=h.p2
  by_cases hz:(ix d.Blocks k).length=0
  ·omega
  ·have p:=ZsM u ((ix d.Blocks k).length-1) ω
   have t:=(u (((ix d.Blocks k).length-1:Nat):Int) ω ω).1.2
   omega
 nd:=fun s hs=>by
  obtain ⟨k,b,k1,rfl⟩:=Z0 hs
  exact Zyc (h.blk k b k1).2
 rng:=fun s hs x c=>by
  obtain ⟨k,b,k1,rfl⟩:=Z0 hs
  obtain ⟨j,i,l,rfl⟩:=Z0 c
  have:=((h.blk k b k1).2 j i l).1
  omega
theorem ZrF {v m:Int} {rel:Int->Int->Bool} (v0:0<=v) (b:0<=m):(bipG v m rel).1.Colors.length<=1000/\(bipG v m rel).1.Edges.length<=1000:=by
 unfold bipG
 by_cases c:v+m>64
 ·rw [if_pos c];exact ⟨Nat.zero_le _,Nat.zero_le _⟩
 ·rw [if_neg c]
  by_cases d:((bipK v m rel v).length:Int)>512
  ·rw [if_pos d];exact ⟨Nat.zero_le _,Nat.zero_le _⟩
  ·rw [if_neg d]
   have j:=Zrm (z:=v) (o:=m)
   exact ⟨by show (cols v m).length<=1000;omega,by show (bipK v m rel v).length<=1000;omega⟩
theorem ZBr {o:ZF} (hs:Sz2 o.Rows) (hv:ZaO o=some true) (hi:ZeV o=some true):∃ r,ZcD o=some r/\ZcA o=some r/\r.1.Colors.length<=1000/\r.1.Edges.length<=1000:=by
 have e:ZF.mk o.Kind o.Size o.Rows=o:=rfl
 have eG:∀ r:Zc×Int,(Zc.mk r.1.Colors r.1.Edges,r.2)=r:=fun r=>rfl
 have eH:∀ r:Zc,Zc.mk r.Colors r.Edges=r:=fun r=>rfl
 have hN:=hs.1
 by_cases h1:o.Kind=1
 ·have c:ValidSq o.Rows:=by
   refine Classical.byContradiction fun l=>?_
   have c:=(ZmE hs).ne l
   have:ZaO o=some false:=by unfold ZaO;simp (disch:=omega) only [pz,c]
   rw [hv] at this;cases this
  obtain ⟨r,b,j,k,s⟩:=ZCh c hs
  refine ⟨r,?_,?_,by omega,s⟩
  ·unfold ZcD;simp (disch:=omega) only [pz,b,eG]
  ·unfold ZcA;simp (disch:=omega) only [pz,j,eG]
 by_cases h2:o.Kind=2
 ·have c:ValidD ⟨o.Size,o.Rows⟩:=by
   refine Classical.byContradiction fun l=>?_
   have c:=(Ztu (d:=⟨o.Size,o.Rows⟩) hs).ne l
   have:ZaO o=some false:=by unfold ZaO;simp (disch:=omega) only [pz,c]
   rw [hv] at this;cases this
  have a1:=ZB9 c
  have b:=ZyD a1
  have j:=ZqZ a1
  have k:=(Zuf (d:=⟨o.Size,o.Rows⟩) hs).eq c
  have t:0<=o.Size:=a1.v0
  obtain ⟨z1,z2⟩:=ZrF (v:=o.Size) (m:=(o.Rows.length:Int)) (rel:=fun x i=>decide (x∈ix o.Rows i)) t ω
  refine ⟨bipG o.Size o.Rows.length fun x i=>decide (x∈ix o.Rows i),?_,?_,z1,z2⟩
  ·unfold ZcD
   dsimp only at b
   simp (disch:=omega) only [pz,b,eG]
  ·unfold ZcA
   dsimp only at j
   simp (disch:=omega) only [pz,e,Zf6,ZdX hs,ZjV,k,j,eG]
 by_cases u:o.Kind=5
 ·obtain ⟨f,inv,p⟩:=ZyC hs hv u
  obtain ⟨r,b,j,k⟩:=ZzH hs p
  have a4:=p.cs
  have a2:=p.ci
  have eF:Zf.mk f.Prime f.Degree f.Poly=f:=rfl
  have hz:r.1.Colors.length<=1000/\r.1.Edges.length<=1000:=by
   rcases k with rfl|⟨v,m,rel,v0,y,rfl⟩
   ·exact ⟨Nat.zero_le _,Nat.zero_le _⟩
   ·exact ZrF v0 y
  refine ⟨r,?_,?_,hz⟩
  ·unfold ZcD
   simp (disch:=omega) only [pz,a4,eF,b,eG]
  ·unfold ZcA
   simp (disch:=omega) only [pz,e,a2,j,eG]
 by_cases h6:o.Kind=6
 ·obtain ⟨r,b,j,k,s⟩:=Zvu hs
  have hr:r.2=true:=by
   have:ZaO o=some r.2:=by unfold ZaO;simp (disch:=omega) only [pz,b]
   rw [hv] at this
   exact (Option.some.inj this).symm
  have hz:=k hr
  refine ⟨(r.1,0),?_,?_,by dsimp only;omega,by dsimp only;omega⟩
  ·unfold ZcD
   simp (disch:=omega) only [pz,b,eH]
  ·unfold ZcA
   simp (disch:=omega) only [pz,e,Zlr,ZkQ,hi,j,eH]
 ·refine ⟨(nilG,6),?_,?_,Nat.zero_le _,Nat.zero_le _⟩
  ·unfold ZcD;simp (disch:=omega) only [pz,];rfl
  ·unfold ZcA;simp (disch:=omega) only [pz,];rfl
theorem ZD4 {o:ZF} (hs:Sz2 o.Rows) (B:Int):∃ r,Zig o B=some r/\ZiH o B=some r:=by
 have e:ZF.mk o.Kind o.Size o.Rows=o:=rfl
 obtain ⟨c,i,j⟩:=ZxE hs
 unfold Zig ZiH
 have k:=in_ok B 1 20000
 have b:=Zvg B
 cases c
 ·exact ⟨(⟨#[]⟩,1),by simp (disch:=omega) only [pz,e,i],by simp (disch:=omega) only [pz,e,j]⟩
 by_cases hB:1<=B/\B<=20000
 ·rw [decide_eq_true hB] at k b
  obtain ⟨r,l,p,t,u⟩:=ZBr hs i j
  have eH:∀ r:Zc,Zc.mk r.Colors r.Edges=r:=fun r=>rfl
  by_cases y:r.2=0
  ·obtain ⟨x,k1,s⟩:=ZBG (g:=r.1) ω ω hB.1 hB.2
   exact ⟨x,by simp (disch:=omega) only [pz,e,i,k,l,eH,k1],by simp (disch:=omega) only [pz,e,j,b,p,eH,s]⟩
  ·exact ⟨(⟨#[]⟩,r.2),by simp (disch:=omega) only [pz,e,i,k,l],by simp (disch:=omega) only [pz,e,j,b,p]⟩
 ·rw [decide_eq_false hB] at k b
  exact ⟨(⟨#[]⟩,2),by simp (disch:=omega) only [pz,e,i,k],by simp (disch:=omega) only [pz,e,j,b]⟩
theorem ZDT {a:Zan} (h:ZpW a):Sz2 (Zhz a).Rows:=by
 have e:(Zhz a).Rows=a.Rows:=by simp [Zhz]
 rw [e]
 exact ⟨by have:=h.1;omega,fun b c=>by have:=(h.2 b c).1;omega⟩
theorem ZEW {a:Zan} {B:Int} (ha:ZmB a) (_:I64 B):Zlq a B=some true:=by
 unfold Zlq
 obtain ⟨r,hr,c⟩:=Zyv a 1048576 ha ω ω
 have e:Zan.mk a.Kind a.Size a.Rows=a:=rfl
 rcases c with rfl|⟨o,p,sa⟩
 ·simp (disch:=omega) only [pz,e,hr]
 ·have hz:=ZDT sa
  have u:=Zw6 sa
  generalize Zhz a=x at hz u
  have i:ZF.mk x.Kind x.Size x.Rows=x:=rfl
  obtain ⟨q,k,l⟩:=ZD4 hz B
  have j:=(ZBV (a:=x) (b:=x) ⟨by unfold M63;have:=hz.1;omega,fun y hy=>⟨by unfold M63;have:=hz.2 y hy;omega,fun _ _=>trivial⟩⟩).eq rfl
  have k1:Zi1 a x=some true:=by
   unfold Zi1
   simp (disch:=omega) only [pz,e,u,i,j]
  have a0:(q.1.toList==q.1.toList)=true:=by simp
  have a1:(q.2==q.2)=true:=by simp
  simp (disch:=omega) only [pz,e,hr,u,k,i,l,a0,a1,k1]
end Go.Proofs.YtccncimchmimdaaGreatDoor
