import Derived.Test.YtepnljbkgjbbmaaGreatDoorPuJd
import Derived.Test.YtepnljbkgjbbmaaGreatDoorPuJa
import Derived.Test.YtepnljbkgjbbmaaGreatDoorPuTxt
import Derived.Test.YtepnljbkgjbbmaaGreatDoorPuJb
open Go.IntKind renaming i64->ε
namespace Go.Proofs.YtepnljbkgjbbmaaGreatDoor
open Go Go.Vc
set_option linter.unusedSimpArgs false
set_option linter.unusedVariables false
structure VMat (q:Int) (m:List (List Int)):Prop where
 n1:1<=(m.length:Int)
 n2:(m.length:Int)<=32
 w1:1<=((ix m 0).length:Int)
 w2:((ix m 0).length:Int)<=32
 row:∀ i,0<=i->i<(m.length:Int)->((ix m i).length:Int)=(ix m 0).length/\In q (ix m i)
theorem VMat.mat {q:Int} {m:List (List Int)} (h:VMat q m):Mat q (ix m 0).length m:=⟨fun i a b=>(h.row i a b).1,fun i a b=>(h.row i a b).2,by have:=h.n2;omega,by have:=h.w2;omega⟩
theorem Zr7 {f:Zd} {q:Int} (hs:Zbc f=some q) (l:2<=q) (e:q<=64) {v:List Int} (hv:(v.length:Int)<=1048576):IsQ (ZhD f v) (In q v):=by
 unfold ZhD
 rw [hs]
 obtain ⟨c,j,q2⟩:=Zdd (B:=Zd4 v q) (P:=fun k=>0<=ix v k/\ix v k<=q-1) (t:=true) (f:=false) (i:=0) (n:=v.length) ω
  (fun k a b c=>by simp (disch:=omega) only [pz,Zd4,in_ok]) (fun k a b c=>by simp (disch:=omega) only [pz,Zd4,in_ok]) (by simp (disch:=omega) only [pz,Zd4])
 refine ⟨c,?_,q2.trans ⟨fun h i a b=>?_,fun h i a b=>?_⟩⟩
 ·show loop (Zd4 v q) 0=some c
  rw [j];cases c<;>rfl
 ·have:=h i a b;omega
 ·have:=h i a b;omega
theorem ZlZ {f:Zd} {q:Int} (hm:Made q f) (l:2<=q) (a:q<=64) {m:List (List Int)} (hs:Sz2 m):IsQ (Zkq f m) (VMat q m):=by
 have x:=hs.1
 unfold Zkq ZmS
 rw [hm.oks]
 by_cases h1:(m.length:Int)=0
 ·simp (disch:=omega) only [pz,];exact IsQ.f fun h=>by have:=h.n1;omega
 ·by_cases o:(m.length:Int)<=32
  ·by_cases s:((ix m 0).length:Int)=0
   ·simp (disch:=omega) only [pz,];exact IsQ.f fun h=>by have:=h.w1;omega
   ·by_cases p:((ix m 0).length:Int)<=32
    ·simp (disch:=omega) only [pz,]
     refine (Zav (P:=fun i=>((ix m i).length:Int)=(ix m 0).length/\In q (ix m i)) (n:=m.length) (Q:=True) ω ?_ ?_ fun _=>?_).congr ⟨fun g=>⟨by omega,o,by omega,p,g.1⟩,fun g=>⟨g.row,trivial⟩⟩
     ·intro i e j c
      have k:=(Zr7 hm.szs l a (hs.row e j)).eq c.2
      have:=c.1
      simp (disch:=omega) only [pz,ZgV,k]
     ·intro i e j c
      by_cases u:((ix m i).length:Int)=(ix m 0).length
      ·have k:=(Zr7 hm.szs l a (hs.row e j)).ne fun h=>c ⟨u,h⟩
       simp (disch:=omega) only [pz,ZgV,k]
      ·simp (disch:=omega) only [pz,ZgV]
     ·rw [Zc (r:=true) (by simp (disch:=omega) only [pz,ZgV])];exact IsQ.t trivial
    ·simp (disch:=omega) only [pz,];exact IsQ.f fun h=>p h.w2
  ·simp (disch:=omega) only [pz,];exact IsQ.f fun h=>o h.n2
theorem ZuG {f:Zd} {q:Int} (hm:Made q f) (hq:2<=q) (v:q<=64) {m:List (List Int)} (hs:Sz2 m):IsQ (Zjh f m) (VMat q m):=by
 have hN:=hs.1
 have e:Zd.mk f.Prime f.Degree f.Poly=f:=rfl
 unfold Zjh ZkI
 rw [e,hm.oki]
 by_cases h1:(m.length:Int)=0
 ·simp (disch:=omega) only [pz,Z7,ZX];exact IsQ.f fun h=>by have:=h.n1;omega
 ·by_cases o:(m.length:Int)<=32
  ·by_cases h3:((ix m 0).length:Int)=0
   ·simp (disch:=omega) only [pz,Z7,ZV,ZX];exact IsQ.f fun h=>by have:=h.w1;omega
   ·by_cases p:((ix m 0).length:Int)<=32
    ·simp (disch:=omega) only [pz,Z7,ZV,ZX,hm.szi]
     have y:=containsLL (s:=m) (fn:=fun j=>Zf4 j m q) (q:=fun r=>¬ ((r.length:Int)=(ix m 0).length/\In q r)) hN fun r hr=>by
      show IsQ (Zf4 r m q) _
      unfold Zf4 ZkU
      by_cases hl:(r.length:Int)=(ix m 0).length
      ·have hi:=(containsL (s:=r) (fn:=fun j=>Zet j q) (q:=fun x=>¬ (0<=x/\x<=q-1)) (hs.2 r hr) fun x c=>by
        show IsQ (Zet x q) _
        unfold Zet
        by_cases c:0<=x/\x<=q-1
        ·simp (disch:=omega) only [pz,ZX];exact IsQ.f fun h=>h c
        ·simp (disch:=omega) only [pz,ZX];exact IsQ.t c).not.not
       have u:IsQ (((ZaV r fun j=>Zet j q).bind fun r=>some (!r)).bind fun r=>some (!r)) (¬ ((r.length:Int)=(ix m 0).length/\In q r)):=by
        refine hi.congr ⟨fun h g=>h fun ⟨x,c,l⟩=>?_,fun h g=>h ⟨hl,fun k a b=>?_⟩⟩
        ·obtain ⟨k,a,b,rfl⟩:=Z2 c
         have:=g.2 k a b
         exact l ⟨this.1,by omega⟩
        ·have:=Classical.byContradiction fun hh:¬ (0<=ix r k/\ix r k<=q-1)=>g ⟨ix r k,Zo a b,hh⟩
         omega
       simp (disch:=omega) only [pz,]
       exact u
      ·simp (disch:=omega) only [pz,]
       exact IsQ.t fun h=>hl h.1
     refine y.not.congr ⟨fun g=>⟨by omega,o,by omega,p,fun i a b=>?_⟩,fun g=>?_⟩
     ·exact Classical.byContradiction fun hh=>g ⟨ix m i,Zo a b,hh⟩
     ·rintro ⟨x,c,l⟩
      obtain ⟨i,a,b,rfl⟩:=Z2 c
      exact l (g.row i a b)
    ·simp (disch:=omega) only [pz,Z7,ZV,ZX];exact IsQ.f fun h=>p h.w2
  ·simp (disch:=omega) only [pz,Z7,ZX];exact IsQ.f fun h=>o h.n2
theorem Zom {q:Int} (c:2<=q) (a:q<=64):∀ (e:Nat) (n:Int),e<=64->1<=n->n<=4096->∃ cs ci:Int,loop (Zbg q) ((e:Int),n)=some cs/\loop (ZaS q 4096) ((e:Int),n)=some ci/\(cs=0↔4096<ci)
 | 0,n,_,h1,i=>by
  refine ⟨n,n,Zc ?_,Zc ?_,by omega⟩
  ·simp (disch:=omega) only [pz,Zbg]
  ·simp (disch:=omega) only [pz,ZaS]
 | e+1,n,he,h1,i=>by
  have o:1*2<=n*q:=Int.mul_le_mul h1 c ω ω
  have p:n*q<=4096*64:=Int.mul_le_mul i a ω ω
  have u:((e+1:Nat):Int)-1=(e:Int):=ω
  have r:loop (ZaS q 4096) (((e+1:Nat):Int),n)=loop (ZaS q 4096) ((e:Int),n*q):=by
   refine ZG ?_
   simp (disch:=omega) only [pz,ZaS,Ze2,u]
  by_cases h:n*q<=4096
  ·obtain ⟨cs,ci,j,k,l⟩:=Zom c a e (n*q) ω ω h
   refine ⟨cs,ci,?_,by rw [r,k],l⟩
   rw [<-j]
   refine ZG ?_
   simp (disch:=omega) only [pz,Zbg,u]
  ·refine ⟨0,n*q,Zc ?_,?_,by omega⟩
   ·simp (disch:=omega) only [pz,Zbg]
   ·rw [r]
    refine Zc ?_
    cases e with
    | zero=>simp (disch:=omega) only [pz,ZaS]
    | succ e=>simp (disch:=omega) only [pz,ZaS]
theorem ZFd {a b:List (List Int)} (o:(a.length:Int)<=1048576) (l:∀ x∈a,(x.length:Int)<=1048576):IsQ (Zj2 a b) (a=b):=by
 unfold Zj2
 refine IsQ.bind_id ?_
 unfold Zmb
 refine ZdX (by unfold M63;omega) (fun k x y e j=>?_) (by simp (disch:=omega) only [pz,ZiL])
 have h1:=Z0 e
 have i:=Z0 j
 have hs:=Zoi (a:=x) (b:=y) (l x (List.mem_of_getElem? e))
 by_cases h:x=y
 ·exact Zbx (c:=true) (by simp [h]) (by simp (disch:=omega) only [pz,ZiL,ZQ e,ZQ j,hs.eq h])
 ·exact Zbx (c:=false) (by simp [h]) (by simp (disch:=omega) only [pz,ZiL,ZQ e,ZQ j,hs.ne h])
theorem Zs1 {o:Zg} (hs:Sz2 o.Rows):∃ cs ci b,Zbi o=some cs/\ZcG o=some ci/\ZaH cs=some b/\Zc7 ci=some b:=by
 have hN:=hs.1
 unfold Zbi ZcG
 rw [Zc9 hs]
 rcases ZtF o.Size with ⟨f,hm⟩|⟨h1,e,k⟩
 ·obtain ⟨inv,hF⟩:=Zuu hm.gf
  have hp:=hF.fd.p2
  have i:=hF.q2
  have c:=hF.q64
  rw [hm.split,hm.mki,hm.mks]
  have e:Zd.mk f.Prime f.Degree f.Poly=f:=rfl
  suffices hh:∃ b,ZaH ⟨f,o.Rows⟩=some b/\Zc7 ⟨f,o.Rows⟩=some b by
   obtain ⟨b,h1,k⟩:=hh
   refine ⟨⟨f,o.Rows⟩,⟨f,o.Rows⟩,b,?_,?_,h1,k⟩
   ·simp (disch:=omega) only [pz,e]
   ·simp (disch:=omega) only [pz,e]
  unfold ZaH Zc7 Zdm ZmU
  by_cases hV:VMat o.Size o.Rows
  ·have j:=(ZlZ hm i c hs).eq hV
   have q2:=(ZuG hm i c hs).eq hV
   have n1:=hV.n1;have w2:=hV.w2
   by_cases y:(o.Rows.length:Int)<=8
   ·obtain ⟨cs,ci,r,s,l⟩:=Zom i c o.Rows.length 1 ω ω ω
    have c1:Zi5 o.Size (o.Rows.length:Int)=some cs:=r
    have c2:Za6 o.Size (o.Rows.length:Int) 4096=some ci:=s
    by_cases hz:cs=0
    ·have a1:=l.1 hz
     refine ⟨false,?_,?_⟩
     ·simp (disch:=omega) only [pz,e,j,hm.szs,c1]
     ·simp (disch:=omega) only [pz,e,q2,hm.szi,Z7,c2]
    ·have a1:¬ 4096<ci:=fun h=>hz (l.2 h)
     obtain ⟨R,piv,d,u,r2,r3,p⟩:=Ztt hF hs hV.mat ω n1
     have s1:=Zpz (a:=R) (b:=o.Rows) ω p
     have s2:=ZFd (a:=R) (b:=o.Rows) ω p
     have ht:=ZuE hF hm.szi
     obtain ⟨b,s1,v⟩:=s1
     obtain ⟨b',s2,x⟩:=s2
     have:b=b':=by rw [Bool.eq_iff_iff,v,x]
     subst this
     refine ⟨b,?_,?_⟩
     ·simp (disch:=omega) only [pz,e,j,hm.szs,c1,u,s1]
     ·simp (disch:=omega) only [pz,e,q2,hm.szi,Z7,c2,ht,r2,s2]
   ·refine ⟨false,?_,?_⟩
    ·simp (disch:=omega) only [pz,e,j]
    ·simp (disch:=omega) only [pz,e,q2]
  ·have j:=(ZlZ hm i c hs).ne hV
   have q2:=(ZuG hm i c hs).ne hV
   refine ⟨false,?_,?_⟩
   ·simp (disch:=omega) only [pz,e,j]
   ·simp (disch:=omega) only [pz,e,q2]
 ·rw [h1,k]
  refine ⟨⟨⟨0,0,[]⟩,[]⟩,⟨⟨0,0,[]⟩,o.Rows⟩,false,?_,?_,?_,?_⟩
  ·simp (disch:=omega) only [pz,]
  ·simp (disch:=omega) only [pz,]
  ·rfl
  ·rfl
theorem two_q {a b:Option Bool} {p:Prop} (k:IsQ a p) (e:IsQ b p):∃ c,a=some c/\b=some c:=by
 obtain ⟨c,h1,h⟩:=k
 obtain ⟨d,i,j⟩:=e
 have:c=d:=by rw [Bool.eq_iff_iff,h,j]
 subst this
 exact ⟨c,h1,i⟩
theorem Zls {o:Zg} (hs:Sz2 o.Rows):∃ c,Zas o=some c/\ZbL o=some c:=by
 have hN:=hs.1
 have e:Zg.mk o.Kind o.Size o.Rows=o:=rfl
 unfold Zas ZbL
 by_cases h1:o.Kind=1
 ·obtain ⟨c,h,q2⟩:=two_q (Zns hs) (Zov hs)
  by_cases hl:(o.Rows.length:Int)=o.Size
  ·refine ⟨c,?_,?_⟩
   ·cases c<;>simp (disch:=omega) only [pz,h]
   ·simp (disch:=omega) only [pz,q2,Z7]
  ·refine ⟨false,?_,?_⟩
   ·cases c<;>simp (disch:=omega) only [pz,h]
   ·simp (disch:=omega) only [pz,q2,Z7]
 by_cases s:o.Kind=2
 ·obtain ⟨c,h,q2⟩:=two_q (ZpL (d:=⟨o.Size,o.Rows⟩) hs) (Zue (d:=⟨o.Size,o.Rows⟩) hs)
  refine ⟨c,?_,?_⟩
  ·simp (disch:=omega) only [pz,h]
  ·simp (disch:=omega) only [pz,e,Zgi,Zc9 hs,q2]
 by_cases u:o.Kind=3
 ·obtain ⟨c,h,q2⟩:=two_q (ZyQ hs) (Zvq hs)
  by_cases hl:(o.Rows.length:Int)=o.Size
  ·refine ⟨c,?_,?_⟩
   ·cases c<;>simp (disch:=omega) only [pz,h]
   ·simp (disch:=omega) only [pz,q2,Z7]
  ·refine ⟨false,?_,?_⟩
   ·cases c<;>simp (disch:=omega) only [pz,h]
   ·simp (disch:=omega) only [pz,q2,Z7]
 by_cases v:o.Kind=4
 ·by_cases hl:0<(o.Rows.length:Int)
  ·obtain ⟨c,h,q2⟩:=two_q (ZBj (a:=⟨o.Size,(ix o.Rows 0).length,o.Rows⟩) hs) (ZBX (a:=⟨o.Size,(ix o.Rows 0).length,o.Rows⟩) hs)
   refine ⟨c,?_,?_⟩
   ·simp (disch:=omega) only [pz,Zj9,h]
   ·simp (disch:=omega) only [pz,e,ZlS,ZV,Zc9 hs,q2]
  ·refine ⟨false,?_,?_⟩
   ·simp (disch:=omega) only [pz,Zj9]
   ·simp (disch:=omega) only [pz,]
 by_cases x:o.Kind=5
 ·obtain ⟨cs,ci,b,i,j,k,l⟩:=Zs1 hs
  have p:Z1.mk (Zd.mk cs.Field.Prime cs.Field.Degree cs.Field.Poly) cs.Rows=cs:=rfl
  refine ⟨b,?_,?_⟩
  ·simp (disch:=omega) only [pz,i,p,k]
  ·simp (disch:=omega) only [pz,e,j,l]
 by_cases y:o.Kind=6
 ·obtain ⟨r,i,j,_⟩:=ZpP hs
  refine ⟨r.2,?_,?_⟩
  ·simp (disch:=omega) only [pz,i]
  ·simp (disch:=omega) only [pz,e,j]
 by_cases h7:o.Kind=7
 ·obtain ⟨c,h,q2⟩:=two_q (ZG0 (g:=⟨o.Size,o.Rows⟩) hs) (ZzW (g:=⟨o.Size,o.Rows⟩) hs)
  refine ⟨c,?_,?_⟩
  ·simp (disch:=omega) only [pz,h]
  ·simp (disch:=omega) only [pz,e,ZkZ,Zc9 hs,q2]
 ·refine ⟨false,?_,?_⟩
  ·simp (disch:=omega) only [pz,]
  ·simp (disch:=omega) only [pz,]
open Go Go.Vc Go.Lib
theorem gFitW {a b:ByteArray} (h:a.size+b.size<=4000000000000000000):gFit a b=some ():=by
 unfold gFit
 rw [if_pos]
 have:IntKind.i64.max=9223372036854775807:=rfl
 omega
def bl (l:List UInt8):ByteArray:=⟨l.toArray⟩
theorem Zhx (b:ByteArray):bl b.data.toList=b:=by cases b;rfl
theorem Zs7 (l:List UInt8):(bl l).size=l.length:=by show l.toArray.size=_;simp
theorem ZmD (l r:List UInt8):bl l++bl r=bl (l++r):=by
 apply ByteArray.ext
 rw [ByteArray.data_append]
 show l.toArray++r.toArray=(l++r).toArray
 simp
theorem Zcn (a b:ByteArray):(a++b).size=a.size+b.size:=by simp
theorem Zyu (x s:ByteArray):joinB [x] s=x:=by
 unfold joinB
 rw [List.map_cons,List.map_nil,join_one]
theorem Zpj (x:ByteArray) (r:List ByteArray) (s:ByteArray):joinB (x::r) s=bl (x.data.toList++joinTail s.data.toList (r.map (·.data.toList))):=by
 unfold joinB
 rw [List.map_cons,join_cons];rfl
theorem ZEF {l:List ByteArray} (h:l≠[]) (x s:ByteArray):joinB (l++[x]) s=joinB l s++s++x:=by
 cases l with
 | nil=>exact absurd rfl h
 | cons a r=>
  rw [List.cons_append,Zpj,Zpj,List.map_append]
  conv=>rhs;rw [<-Zhx s,<-Zhx x,ZmD,ZmD]
  congr 1
  rw [Zhx]
  simp [joinTail]
theorem ZtJ {l:List ByteArray} {s:ByteArray} {m:Nat} (h:∀ x∈l,x.size<=m):(joinB l s).size<=(m+s.size)*l.length:=by
 cases l with
 | nil=>exact Nat.zero_le _
 | cons a r=>
  have o:∀ (r:List ByteArray),(∀ x∈r,x.size<=m)->lens (r.map (·.data.toList))<=m*r.length:=by
   intro r
   induction r with
   | nil=>intro _;exact Nat.zero_le _
   | cons b t u=>
    intro e
    have h1:=u fun x c=>e x (List.mem_cons_of_mem _ c)
    have j:=e b (List.mem_cons_self ..)
    have i:b.data.toList.length=b.size:=by rw [Array.length_toList];rfl
    simp only [lens,List.map_cons,List.sum_cons,List.length_cons] at h1 ⊢
    rw [Nat.mul_succ]
    omega
  have h1:=o r fun x c=>h x (List.mem_cons_of_mem _ c)
  have j:=h a (List.mem_cons_self ..)
  have i:a.data.toList.length=a.size:=by rw [Array.length_toList];rfl
  have k:s.data.toList.length=s.size:=by rw [Array.length_toList];rfl
  rw [Zpj,Zs7,List.length_append,joinTail_length,List.length_map,i,k,List.length_cons,Nat.add_mul,Nat.mul_succ,Nat.mul_succ]
  omega
theorem dgl:∀ (m u:Nat),u<10^(m+1)->(decDigits u).length<=m+1:=by
 intro m
 induction m with
 | zero=>
  intro u h
  rw [decDigits,dif_pos (by simpa using h)]
  exact Nat.le_refl _
 | succ m a=>
  intro u h
  rw [decDigits]
  split
  ·simp
  ·have e:10^(m+1+1)=10^(m+1)*10:=Nat.pow_succ ..
   have:=a (u/10) ω
   rw [List.length_append,List.length_singleton]
   omega
theorem ZBS {n:Int} (m:Nat) (h1:-10^(m+1)<n) (a:n<10^(m+1)):(itoaB n).size<=m+2:=by
 have e:(10:Int)^(m+1)=((10^(m+1):Nat):Int):=by simp
 rw [e] at h1 a
 show (itoa n).toArray.size<=_
 unfold itoa
 split
 ·have:=dgl m n.natAbs ω
  simp;omega
 ·have:=dgl m n.toNat ω
  simp;omega
theorem tq (k:Int):(0<=k->Int.tmod k 10=((k.natAbs%10:Nat):Int)/\Int.tdiv k 10=((k.natAbs/10:Nat):Int))/\(k<0->Int.tmod k 10=-((k.natAbs%10:Nat):Int)/\Int.tdiv k 10=-((k.natAbs/10:Nat):Int)):=by
 refine ⟨fun h=>?_,fun h=>?_⟩
 ·rw [Int.tmod_eq_emod_of_nonneg h,Int.tdiv_eq_ediv_of_nonneg h]
  omega
 ·obtain ⟨j,rfl⟩:∃ j,k=-j:=⟨-k,by omega⟩
  rw [Int.neg_tmod,Int.neg_tdiv,Int.tmod_eq_emod_of_nonneg ω,Int.tdiv_eq_ediv_of_nonneg ω]
  omega
def nums (l:List UInt8):List Int:=l.map fun b=>(b.toNat:Int)
theorem Zxz (l:List UInt8):gByt (nums l)=some (bl l):=by
 unfold gByt
 rw [if_pos]
 ·congr 1
  unfold bstr nums bl
  congr 2
  rw [List.map_map]
  conv=>rhs;rw [<-List.map_id l]
  refine List.map_congr_left fun x _=>?_
  simp
 ·intro x a
  obtain ⟨b,_,rfl⟩:=List.mem_map.1 a
  have:=b.toNat_lt
  omega
theorem Zyv {n0 k:Int} {j:List Int} (o:¬ k=0) (h1:-9223372036854775808<=k) (e:k<=9223372036854775807) (l:j.length<=100):
  Za9 n0 (j,k)=some (.inl (((48+k.natAbs%10:Nat):Int)::j,Int.tdiv k 10)):=by
 have hm:k.natAbs%10<10:=Nat.mod_lt _ ω
 have k1:∀ d:Int,d=((k.natAbs%10:Nat):Int)->Zfo j k d=some (.inl (((48+k.natAbs%10:Nat):Int)::j,Int.tdiv k 10)):=by
  intro d a
  have w1:ε.wrap (48+d)=48+d:=Zat ω ω
  have w2:IntKind.u8.wrap (48+d)=48+d:=u8_of ω ω
  have c:ε.wrap (Int.tdiv k 10)=Int.tdiv k 10:=by
   by_cases hp:0<=k
   ·have:=((tq k).1 hp).2;exact Zat ω ω
   ·have:=((tq k).2 ω).2;exact Zat ω ω
  have g:gApp 1 [48+d] j=some ([48+d]++j):=ZaW (by simp;omega) (by simp;omega)
  unfold Zfo
  rw [w1,w2,g]
  simp (disch:=omega) only [pz,c]
  rw [a]
  simp
 by_cases hp:0<=k
 ·have a:=((tq k).1 hp).1
  have h:¬ Int.tmod k 10<0:=ω
  simp (disch:=omega) only [pz,Za9,k1 _ a]
 ·have a:=((tq k).2 ω).1
  by_cases hz:Int.tmod k 10<0
  ·have w:ε.wrap (0-Int.tmod k 10)=0-Int.tmod k 10:=Zat ω ω
   simp (disch:=omega) only [pz,Za9,w,k1 (0-Int.tmod k 10) ω]
  ·simp (disch:=omega) only [pz,Za9,k1 (Int.tmod k 10) ω]
theorem ZDY (n0:Int):∀ (m:Nat) (k:Int) (l:List Int),¬ k=0->k.natAbs<10^m->-9223372036854775808<=k->k<=9223372036854775807->l.length+m<=100 ->
  loop (Za9 n0) (l,k)=loop (Za9 n0) (nums (decDigits k.natAbs)++l,0):=by
 intro m
 induction m with
 | zero=>intro k l o h;exact absurd (by simp at h;omega) o
 | succ m u=>
  intro k l o h h1 i x
  rw [ZG (Zyv o h1 i ω)]
  have hm:k.natAbs%10<10:=Nat.mod_lt _ ω
  have r:(Int.tdiv k 10).natAbs=k.natAbs/10:=by
   by_cases hp:0<=k
   ·have:=((tq k).1 hp).2;omega
   ·have:=((tq k).2 ω).2;omega
  have a:((UInt8.ofNat (48+k.natAbs%10)).toNat:Int)=((48+k.natAbs%10:Nat):Int):=by
   rw [UInt8.toNat_ofNat'];omega
  by_cases hz:k.natAbs<10
  ·have j:Int.tdiv k 10=0:=ω
   have c:k.natAbs%10=k.natAbs:=ω
   rw [j,decDigits,dif_pos hz]
   rw [c] at a ⊢
   unfold nums
   rw [List.map_cons,List.map_nil,a];rfl
  ·have e:10^(m+1)=10^m*10:=Nat.pow_succ ..
   rw [u (Int.tdiv k 10) _ ω (by rw [r];omega) (by
    by_cases hp:0<=k
    ·have:=((tq k).1 hp).2;omega
    ·have:=((tq k).2 ω).2;omega) (by
    by_cases hp:0<=k
    ·have:=((tq k).1 hp).2;omega
    ·have:=((tq k).2 ω).2;omega) (by rw [List.length_cons];omega),r]
   conv=>rhs;rw [decDigits,dif_neg hz]
   unfold nums
   rw [List.map_append,List.map_cons,List.map_nil,a]
   simp
theorem dgn (u:Nat):0<(decDigits u).length:=by
 rw [decDigits];split<;>simp
theorem ZnN {n:Int} (h1:-9223372036854775808<=n) (c:n<=9223372036854775807):ZeH n=some (itoaB n):=by
 unfold ZeH
 by_cases a:n=0
 ·subst a
  rw [Zc (r:=⟨#[48]⟩) (by simp (disch:=omega) only [pz,Za9,List.length_nil])]
  congr 1
  unfold itoaB itoa
  rw [if_neg ω,decDigits,dif_pos (by decide)]
  rfl
 ·rw [ZDY n 19 n [] a ω h1 c (by decide),List.append_nil]
  have k:=dgn n.natAbs
  have e:(nums (decDigits n.natAbs)).length=(decDigits n.natAbs).length:=List.length_map ..
  have hs:=Zxz (decDigits n.natAbs)
  have h:=dgl 19 n.natAbs ω
  have hz:¬ ((nums (decDigits n.natAbs)).length:Int)=0:=ω
  by_cases hp:n<0
  ·have j:gFit ⟨#[45]⟩ (bl (decDigits n.natAbs))=some ():=gFitW (by rw [Zs7];show 1+_<=_;omega)
   rw [Zc (r:=(⟨#[45]⟩:ByteArray)++bl (decDigits n.natAbs)) (by simp (disch:=omega) only [pz,Za9,hs,j])]
   congr 1
   unfold itoaB itoa
   rw [if_pos hp]
   exact ZmD [45] _
  ·rw [Zc (r:=bl (decDigits n.natAbs)) (by simp (disch:=omega) only [pz,Za9,hs])]
   congr 1
   unfold itoaB itoa
   rw [if_neg hp,show n.natAbs=n.toNat by omega]
   rfl
theorem Zob {n:Int} (h1:-9223372036854775808<=n) (a:n<=9223372036854775807):Zfe n=some (itoaB n):=by
 unfold Zfe Zlo
 rw [if_pos ⟨rfl,h1,a⟩];rfl
open Go Go.Vc Go.Lib
theorem ZBf (b:ByteArray):(⟨#[]⟩:ByteArray)++b=b:=by
 have:=ZmD [] b.data.toList
 rw [Zhx] at this
 rw [show (⟨#[]⟩:ByteArray)=bl [] from rfl,this,List.nil_append,Zhx]
theorem Zqz {l:List ByteArray} {s:ByteArray} (h1:l.length<=140737488355328) (a:(joinB l s).size<=140737488355328):ZgH l s=some (joinB l s):=by
 unfold ZgH
 rw [if_pos ⟨h1,a⟩]
theorem ZtW {α:Type} [Inhabited α] {xs:List α} {f:α->ByteArray} {s:ByteArray} {k:Int} (a:0<k) (h1:k<(xs.length:Int)):
  joinB ((xs.take (k+1).toNat).map f) s=joinB ((xs.take k.toNat).map f) s++s++f (ix xs k):=by
 rw [ZaC ω h1,List.map_append,List.map_cons,List.map_nil,ZEF]
 intro e
 have:=congrArg List.length e
 rw [List.length_map,List.length_take,List.length_nil] at this
 omega
theorem Zuc {α:Type} [Inhabited α] {xs:List α} {f:α->ByteArray} {s:ByteArray} (h1:0<(xs.length:Int)):
  joinB ((xs.take ((0:Int)+1).toNat).map f) s=f (ix xs 0):=by
 rw [ZaC ω h1]
 exact Zyu _ _
theorem ZyA {α e:Type} [Inhabited α] {xs:List α} {f:α->e} {k:Int} (a:0<=k) (h1:k<(xs.length:Int)):(xs.take (k+1).toNat).map f=(xs.take k.toNat).map f++[f (ix xs k)]:=by
 rw [ZaC a h1,List.map_append];rfl
theorem jsize {α:Type} {xs:List α} {f:α->ByteArray} {s:ByteArray} {m N:Nat} (e:∀ x∈xs,(f x).size<=m) (j:xs.length<=N) (i:Nat):(joinB ((xs.take i).map f) s).size<=(m+s.size)*N:=by
 refine Nat.le_trans (ZtJ (m:=m) fun y h=>?_) (Nat.mul_le_mul_left _ ?_)
 ·obtain ⟨x,a,rfl⟩:=List.mem_map.1 h
  exact e x (List.mem_of_mem_take a)
 ·rw [List.length_map,List.length_take];omega
def InR (x:Int):Prop:=-999999999<=x/\x<=999999999
theorem ZbE {x:Int} (h:InR x):(itoaB x).size<=10:=ZBS 8 (by have:=h.1;omega) (by have:=h.2;omega)
noncomputable def tL (xs:List Int):ByteArray:=@ite _ (xs.length<=100/\∀ x∈xs,InR x) (Classical.propDecidable _) (if xs=[] then ⟨#[45]⟩ else joinB (xs.map itoaB) ⟨#[44]⟩) ⟨#[]⟩
theorem tL_t {xs:List Int} (h:xs.length<=100/\∀ x∈xs,InR x) (a:xs≠[]):tL xs=joinB (xs.map itoaB) ⟨#[44]⟩:=by unfold tL;rw [if_pos h,if_neg a]
theorem tL_n {xs:List Int} (a:xs=[]):tL xs=⟨#[45]⟩:=by
 subst a
 unfold tL
 rw [if_pos ⟨by decide,fun x c=>by cases c⟩,if_pos rfl]
theorem tL_f {xs:List Int} (h:¬ (xs.length<=100/\∀ x∈xs,InR x)):tL xs=⟨#[]⟩:=by unfold tL;rw [if_neg h]
theorem Zp2 (xs:List Int):(tL xs).size<=1100:=by
 by_cases a:xs=[]
 ·rw [tL_n a];show 1<=_;omega
 ·by_cases h:xs.length<=100/\∀ x∈xs,InR x
  ·rw [tL_t h a]
   have:=jsize (xs:=xs) (f:=itoaB) (s:=⟨#[44]⟩) (m:=10) (N:=100) (fun x c=>ZbE (h.2 x c)) h.1 xs.length
   rw [List.take_length] at this
   exact this
  ·rw [tL_f h];show 0<=_;omega
theorem ZCE {n:Int} (a:0<=n) (P:Int->Prop):(∃ k,0<=k/\k<n/\P k/\∀ j,0<=j->j<k->¬ P j)\/∀ j,0<=j->j<n->¬ P j:=by
 rcases Zb0 (σ:=Int) (ρ:=Unit) (B:=fun k=>some (.inl (k+1))) (fun k=>k) P a (fun k _ _ _=>rfl) with ⟨k,h1,c,e,i,_⟩|⟨h,_⟩
 ·exact .inl ⟨k,h1,c,e,i⟩
 ·exact .inr h
theorem ZFN {xs:List Int} {n:Int} (e:n<=(xs.length:Int)) (h:∀ j,0<=j->j<n->InR (ix xs j)):∀ x∈xs.take n.toNat,InR x:=by
 intro x c
 obtain ⟨i,a,h1,rfl⟩:=Z2 c
 rw [List.length_take] at h1
 rw [ZdG a ω]
 exact h i a ω
theorem ZrJ {xs:List Int} {n:Int} (p:0<=n) (hn:n<=(xs.length:Int)) (hl:xs.length<=100) (h:∀ j,0<=j->j<n->InR (ix xs j)):
  loop (ZbK xs) (⟨#[]⟩,0)=loop (ZbK xs) (joinB ((xs.take n.toNat).map itoaB) ⟨#[44]⟩,n):=by
 refine Zl (fun k:Int=>(joinB ((xs.take k.toNat).map itoaB) ⟨#[44]⟩,k)) p fun k k0 k1=>?_
 have hk:=h k k0 k1
 have e:=ZnN (n:=ix xs k) (by have:=hk.1;omega) (by have:=hk.2;omega)
 have hz:=ZbE hk
 have a3:(xs.take k.toNat).length<=100:=by rw [List.length_take];omega
 have hj:=ZtJ (l:=(xs.take k.toNat).map itoaB) (s:=⟨#[44]⟩) (m:=10) fun y hy=>by
  obtain ⟨x,r,rfl⟩:=List.mem_map.1 hy
  exact ZbE (ZFN (n:=k) ω (fun j a b=>h j a ω) x r)
 rw [List.length_map] at hj
 have i:(joinB ((xs.take k.toNat).map itoaB) ⟨#[44]⟩).size<=1100:=Nat.le_trans hj (Nat.mul_le_mul_left 11 a3)
 have hi:Z3 (ix xs k) (-999999999) 999999999=some true:=by
  have:=hk.1;have:=hk.2
  simp (disch:=omega) only [pz,Z3]
 by_cases o:k=0
 ·subst o
  rw [Zuc ω]
  have c:gFit ⟨#[]⟩ (itoaB (ix xs 0))=some ():=gFitW (by show 0+_<=_;omega)
  have u:joinB ((xs.take (0:Int).toNat).map itoaB) ⟨#[44]⟩=⟨#[]⟩:=rfl
  rw [u]
  simp (disch:=omega) only [pz,ZbK,Zg2,hi,e,c,ZBf]
 ·rw [ZtW ω ω]
  generalize joinB ((xs.take k.toNat).map itoaB) ⟨#[44]⟩=a0 at i
  have v:gFit a0 ⟨#[44]⟩=some ():=gFitW (by show a0.size+1<=_;omega)
  have c:gFit (a0++⟨#[44]⟩) (itoaB (ix xs k))=some ():=gFitW (by rw [Zcn];show a0.size+1+_<=_;omega)
  simp (disch:=omega) only [pz,ZbK,Zg2,hi,e,v,c]
theorem ZtD {xs:List Int}:(∀ x∈xs,InR x)↔∀ j,0<=j->j<(xs.length:Int)->InR (ix xs j):=
 ⟨fun h j a b=>h _ (Zo a b),fun h x c=>by obtain ⟨i,a,b,rfl⟩:=Z2 c;exact h i a b⟩
theorem ZF4 (xs:List Int):ZiN xs=some (tL xs):=by
 unfold ZiN
 by_cases r:xs.length<=100
 ·by_cases c:xs=[]
  ·rw [tL_n c];subst c;simp (disch:=omega) only [pz,List.length_nil]
  ·have hp:0<(xs.length:Int):=by
    cases xs with
    | nil=>exact absurd rfl c
    | cons a t=>simp
   rcases ZCE (n:=xs.length) ω (fun k=>¬ InR (ix xs k)) with ⟨k,k0,k1,hk,i⟩|i
   ·rw [tL_f fun h=>hk (ZtD.1 h.2 k k0 k1)]
    have e:=ZrJ (xs:=xs) (n:=k) k0 ω r fun j a b=>Classical.not_not.1 (i j a b)
    have hi:Z3 (ix xs k) (-999999999) 999999999=some false:=by
     by_cases h1:-999999999<=ix xs k
     ·have:¬ ix xs k<=999999999:=fun o=>hk ⟨h1,o⟩
      simp (disch:=omega) only [pz,Z3]
     ·simp (disch:=omega) only [pz,Z3]
    have l:loop (ZbK xs) (⟨#[]⟩,0)=some ⟨#[]⟩:=by
     rw [e]
     exact Zc (by simp (disch:=omega) only [pz,ZbK,hi])
    simp (disch:=omega) only [pz,l]
   ·have u:∀ j,0<=j->j<(xs.length:Int)->InR (ix xs j):=fun j a b=>Classical.not_not.1 (i j a b)
    rw [tL_t ⟨r,ZtD.2 u⟩ c]
    have e:=ZrJ (xs:=xs) (n:=xs.length) ω ω r u
    rw [Int.toNat_natCast,List.take_length] at e
    have l:loop (ZbK xs) (⟨#[]⟩,0)=some (joinB (xs.map itoaB) ⟨#[44]⟩):=by
     rw [e]
     exact Zc (by simp (disch:=omega) only [pz,ZbK])
    simp (disch:=omega) only [pz,l]
 ·rw [tL_f fun h=>r h.1]
  simp (disch:=omega) only [pz,]
theorem Zz1 (xs:List Int):Zkg xs=some (tL xs):=by
 unfold Zkg
 by_cases hl:xs.length<=100
 ·have p:=containsL (s:=xs) (fn:=fun v=>Zez v) (q:=fun x=>¬ InR x) ω fun x j=>by
   by_cases h1:-999999999<=x
   ·by_cases r:x<=999999999
    ·simp (disch:=omega) only [pz,Zez,Z8]
     exact IsQ.f fun h=>h ⟨h1,r⟩
    ·simp (disch:=omega) only [pz,Zez,Z8]
     exact IsQ.t fun h=>r h.2
   ·simp (disch:=omega) only [pz,Zez,Z8]
    exact IsQ.t fun h=>h1 h.1
  by_cases ha:∀ x∈xs,InR x
  ·have c:=p.ne fun ⟨x,j,h⟩=>h (ha x j)
   by_cases o:xs=[]
   ·rw [tL_n o];subst o;simp (disch:=omega) only [pz,c,Zkl,List.length_nil]
   ·rw [tL_t ⟨hl,ha⟩ o]
    have hp:0<(xs.length:Int):=by
     cases xs with
     | nil=>exact absurd rfl o
     | cons a t=>simp
    have e:loop (Zeg xs) ([],0)=some (joinB (xs.map itoaB) ⟨#[44]⟩):=by
     have u:=Zl (B:=Zeg xs) (fun k:Int=>((xs.take k.toNat).map itoaB,k)) (i:=0) (n:=xs.length) ω fun k k0 k1=>by
      have hk:=ha _ (Zo k0 k1)
      have y:=Zob (n:=ix xs k) (by have:=hk.1;omega) (by have:=hk.2;omega)
      have a6:((xs.take k.toNat).map itoaB).length<=100:=by rw [List.length_map,List.length_take];omega
      rw [ZyA k0 k1]
      have hg:gApp 16 ((xs.take k.toNat).map itoaB) [itoaB (ix xs k)]=some ((xs.take k.toNat).map itoaB++[itoaB (ix xs k)]):=gApp1 ω ω
      simp (disch:=omega) only [pz,Zeg,y,hg]
     rw [Int.toNat_natCast,List.take_length] at u
     refine u.trans (Zc ?_)
     have hj:=jsize (xs:=xs) (f:=itoaB) (s:=⟨#[44]⟩) (m:=10) (N:=100) (fun x j=>ZbE (ha x j)) hl xs.length
     rw [List.take_length] at hj
     have hq:=Zqz (l:=xs.map itoaB) (s:=⟨#[44]⟩) (by rw [List.length_map];omega) (Nat.le_trans hj (by decide))
     simp (disch:=omega) only [pz,Zeg,hq]
    simp (disch:=omega) only [pz,c,Zkl,e]
  ·have c:=p.eq (by
    refine Classical.byContradiction fun h=>ha fun x j=>Classical.not_not.1 fun hh=>h ⟨x,j,hh⟩)
   rw [tL_f fun h=>ha h.2]
   simp (disch:=omega) only [pz,c]
 ·rw [tL_f fun h=>hl h.1]
  simp (disch:=omega) only [pz,]
noncomputable def tR (rows:List (List Int)):ByteArray:=if rows=[] then ⟨#[110,111,110,101]⟩ else joinB (rows.map tL) ⟨#[47]⟩
set_option linter.unusedSectionVars false
theorem Zva {l:List Int} {lo hi:Int} (h:Rising l lo hi) {i:Int} (a:0<=i):∀ (d:Nat) (j:Int),j=i+1+d->j<(l.length:Int)->ix l i<ix l j
 | 0,j,hj,hl=>by
  have:=(h j ω hl).2 ω
  rw [show j-1=i by omega] at this
  exact this
 | d+1,j,hj,hl=>by
  have:=(h j ω hl).2 ω
  have c:=Zva h a d (j-1) ω ω
  omega
theorem Zyo {l:List Int} {lo hi:Int} (h:Rising l lo hi) {i j:Int} (a:0<=i) (h1:i<j) (c:j<(l.length:Int)):ix l i<ix l j:=Zva h a (j-i-1).toNat j ω c
def cntB (bs:List (List Int)) (p:List Int->Bool):Nat->Int
 | 0=>0
 | n+1=>cntB bs p n+if p (ix bs n) then 1 else 0
section
variable {d:Zaf} (hv:ValidD d)
include hv
end
def eT (e:Zb):ByteArray:=itoaB e.A++⟨#[45]⟩++itoaB e.B
noncomputable def gT (g:Za):ByteArray:=tL g.Colors++⟨#[59]⟩++joinB (g.Edges.map eT) ⟨#[44]⟩
section
variable {g:Za} (hg:ValidG g)
include hg
theorem Zni {k:Int} (k0:0<=k) (k1:k<(g.Edges.length:Int)):InR (ix g.Edges k).A/\InR (ix g.Edges k).B:=by
 have:=(hg.edg k k0 k1).1
 have:=hg.cl
 unfold InR
 omega
theorem Zsn {k:Int} (k0:0<=k) (k1:k<(g.Edges.length:Int)):(eT (ix g.Edges k)).size<=21:=by
 obtain ⟨h1,a⟩:=Zni hg k0 k1
 have:=ZbE h1
 have:=ZbE a
 unfold eT
 rw [Zcn,Zcn]
 show _+1+_<=21
 omega
theorem Zsa (i:Nat):(joinB ((g.Edges.take i).map eT) ⟨#[44]⟩).size<=22*512:=by
 refine jsize (xs:=g.Edges) (f:=eT) (s:=⟨#[44]⟩) (m:=21) (N:=512) (fun x c=>?_) (by have:=hg.el;omega) i
 obtain ⟨i,a,b,rfl⟩:=Z2 c
 exact Zsn hg a b
theorem ZFU:Zh4 g=some (gT g):=by
 unfold Zh4
 have a7:=Zp2 g.Colors
 have a8:=hg.el
 have r:gFit (tL g.Colors) ⟨#[59]⟩=some ():=gFitW (by show _+1<=_;omega)
 have hP:(tL g.Colors++(⟨#[59]⟩:ByteArray)).size<=1101:=by rw [Zcn];show _+1<=_;omega
 have hl:=ZF4 g.Colors
 have e:loop (Zd8 g) (tL g.Colors++(⟨#[59]⟩:ByteArray),0)=some (gT g):=by
  unfold gT
  generalize tL g.Colors++(⟨#[59]⟩:ByteArray)=P at hP
  have h:=Zl (B:=Zd8 g) (fun k:Int=>(P++joinB ((g.Edges.take k.toNat).map eT) ⟨#[44]⟩,k)) (i:=0) (n:=g.Edges.length) ω fun k k0 k1=>by
   obtain ⟨x,y⟩:=Zni hg k0 k1
   have dA:=ZnN (n:=(ix g.Edges k).A) (by have:=x.1;omega) (by have:=x.2;omega)
   have dB:=ZnN (n:=(ix g.Edges k).B) (by have:=y.1;omega) (by have:=y.2;omega)
   have zA:=ZbE x
   have zB:=ZbE y
   have hj:=Zsa hg k.toNat
   have j:gFit (itoaB (ix g.Edges k).A) ⟨#[45]⟩=some ():=gFitW (by show _+1<=_;omega)
   have l:gFit (itoaB (ix g.Edges k).A++⟨#[45]⟩) (itoaB (ix g.Edges k).B)=some ():=gFitW (by rw [Zcn];show _+1+_<=_;omega)
   have hz:(itoaB (ix g.Edges k).A++⟨#[45]⟩++itoaB (ix g.Edges k).B).size<=21:=Zsn hg k0 k1
   have u:eT (ix g.Edges k)=itoaB (ix g.Edges k).A++⟨#[45]⟩++itoaB (ix g.Edges k).B:=rfl
   by_cases o:k=0
   ·subst o
    rw [Zuc ω,u]
    have a:P++joinB ((g.Edges.take (0:Int).toNat).map eT) ⟨#[44]⟩=P:=ByteArray.append_empty
    rw [a]
    have c:gFit P (itoaB (ix g.Edges 0).A++⟨#[45]⟩++itoaB (ix g.Edges 0).B)=some ():=gFitW ω
    simp (disch:=omega) only [pz,Zd8,Zfx,dA,dB,j,l,c]
   ·rw [ZtW ω ω,u]
    generalize joinB ((g.Edges.take k.toNat).map eT) ⟨#[44]⟩=J at hj
    have ea:∀ E:ByteArray,P++(J++⟨#[44]⟩++E)=P++J++⟨#[44]⟩++E:=fun E=>by rw [<-ByteArray.append_assoc,<-ByteArray.append_assoc]
    rw [ea]
    have a1:(P++J).size<=20000:=by rw [Zcn];omega
    generalize P++J=Q at a1 ⊢
    have c:gFit Q ⟨#[44]⟩=some ():=gFitW (by show _+1<=_;omega)
    have s:gFit (Q++⟨#[44]⟩) (itoaB (ix g.Edges k).A++⟨#[45]⟩++itoaB (ix g.Edges k).B)=some ():=gFitW (by rw [Zcn];show _+1+_<=_;omega)
    simp (disch:=omega) only [pz,Zd8,Zfx,dA,dB,j,l,c,s]
  have a:(P,(0:Int))=(fun k:Int=>(P++joinB ((g.Edges.take k.toNat).map eT) ⟨#[44]⟩,k)) 0:=by
   have p:P++joinB ((g.Edges.take (0:Int).toNat).map eT) ⟨#[44]⟩=P:=ByteArray.append_empty
   dsimp only
   rw [p]
  rw [a,h]
  refine Zc ?_
  rw [Int.toNat_natCast,List.take_length]
  simp (disch:=omega) only [pz,Zd8]
 simp (disch:=omega) only [pz,hl,r,e]
theorem ZG7:Ziy g=some (gT g):=by
 unfold Ziy
 have a5:=Zp2 g.Colors
 have a6:=hg.el
 have a7:=hg.cl
 have hv:=(ZkW (g:=g) ω ω).eq hg
 have c:gFit (tL g.Colors) ⟨#[59]⟩=some ():=gFitW (by show _+1<=_;omega)
 have hP:(tL g.Colors++(⟨#[59]⟩:ByteArray)).size<=1101:=by rw [Zcn];show _+1<=_;omega
 have hl:=Zz1 g.Colors
 have x:=Zsa hg g.Edges.length
 rw [List.take_length] at x
 have a:=Zqz (l:=g.Edges.map eT) (s:=⟨#[44]⟩) (by rw [List.length_map];omega) (Nat.le_trans x (by decide))
 have e:loop (Zd0 g) ([],0)=some (gT g):=by
  have h:=Zl (B:=Zd0 g) (fun k:Int=>((g.Edges.take k.toNat).map eT,k)) (i:=0) (n:=g.Edges.length) ω fun k k0 k1=>by
   obtain ⟨r,u⟩:=Zni hg k0 k1
   have dA:=Zob (n:=(ix g.Edges k).A) (by have:=r.1;omega) (by have:=r.2;omega)
   have dB:=Zob (n:=(ix g.Edges k).B) (by have:=u.1;omega) (by have:=u.2;omega)
   have zA:=ZbE r
   have zB:=ZbE u
   have j:gFit (itoaB (ix g.Edges k).A) ⟨#[45]⟩=some ():=gFitW (by show _+1<=_;omega)
   have o:gFit (itoaB (ix g.Edges k).A++⟨#[45]⟩) (itoaB (ix g.Edges k).B)=some ():=gFitW (by rw [Zcn];show _+1+_<=_;omega)
   have a0:eT (ix g.Edges k)=itoaB (ix g.Edges k).A++⟨#[45]⟩++itoaB (ix g.Edges k).B:=rfl
   have a1:((g.Edges.take k.toNat).map eT).length<=512:=by rw [List.length_map,List.length_take];omega
   rw [Zeq k0 k1,a0]
   generalize (g.Edges.take k.toNat).map eT=X at a1 ⊢
   have y:gApp 16 X [itoaB (ix g.Edges k).A++⟨#[45]⟩++itoaB (ix g.Edges k).B]=some (X++[itoaB (ix g.Edges k).A++⟨#[45]⟩++itoaB (ix g.Edges k).B]):=gApp1 ω ω
   simp (disch:=omega) only [pz,Zd0,dA,dB,j,o,y]
  refine h.trans (Zc ?_)
  rw [Int.toNat_natCast,List.take_length]
  unfold gT
  generalize joinB (g.Edges.map eT) ⟨#[44]⟩=J at x a ⊢
  have p:gFit (tL g.Colors++⟨#[59]⟩) J=some ():=gFitW ω
  simp (disch:=omega) only [pz,Zd0,hl,c,a,p]
 simp (disch:=omega) only [pz,hv,e]
end
theorem ZDd (B:Int):Zi8 B=some (decide (1<=B/\B<=20000)):=by
 unfold Zi8
 rw [in_ok];rfl
theorem Zu0 (B:Int):Zf6 B=some (decide (1<=B/\B<=20000)):=by
 unfold Zf6
 rw [ZX];rfl
def s00:CSt:=⟨⟨[],[]⟩,[],0,0,false⟩
theorem ZwG {g:Za} (hg:ValidG g) {B:Int} (h1:1<=B) (i:B<=20000):∃ r,Zd6 g B=some r/\Zee g B=some r:=by
 have an:=hg.cl
 have am:=hg.el
 have af:=(ZoQ (g:=g) ω ω).eq hg
 have ab:=(ZkW (g:=g) ω ω).eq hg
 have a7:=ZDd B
 have a9:=Zu0 B
 rw [decide_eq_true (And.intro h1 i)] at a7 a9
 have a8:=ZFL hg
 have a6:=ZAg hg
 have ac:=ZmZ hg
 have a5:=ZmM g
 have a2:=Zt9 (near:=nearM g) (c:=g.Colors) ac a5.symm
 have a3:=ZrZ (near:=nearM g) (c:=g.Colors) ac a5.symm
 have hC:=Cel.ref (near:=nearM g) (cells:=g.Colors) a5.symm
 have hi:CInv B 0 s00:=⟨by show (0:Int)<=0+0;omega,by show (0:Int)<=0;omega,by show (0:Int)<=0;omega,by show (0:Int)<=B;omega⟩
 have e:Bst g s00:=fun h=>absurd rfl h
 have hm:(nearM g).length+1<=fuel:=by unfold fuel;omega
 have j:(nearM g).length<(nearM g).length+1+cnt (refN (nearM g) g.Colors):=ω
 have rs:=Zs3 hg i ((nearM g).length+1) fuel (refN (nearM g) g.Colors) s00 0 hm hC j ω hi e
 have ri:=Zs5 hg i ((nearM g).length+1) fuel (refN (nearM g) g.Colors) s00 0 hm hC j ω hi e
 obtain ⟨k,ae⟩:=ZmP (g:=g) a5 B ((nearM g).length+1) (refN (nearM g) g.Colors) s00 hC j e
 generalize srch g (nearM g) B ((nearM g).length+1) (refN (nearM g) g.Colors) s00=s at rs ri k ae
 have eG:Za.mk g.Colors g.Edges=g:=rfl
 have u:spS g (nearM g) B s00=⟨g,nearM g,⟨[],[]⟩,[],0,0,B,false⟩:=rfl
 have v:ipS g (nearM g) B s00=⟨⟨B,false⟩,g,nearM g,0,0,⟨[],[]⟩,[]⟩:=by
  show Zv.mk ⟨B-0,false⟩ _ _ _ _ _ _=_
  rw [Int.sub_zero];rfl
 rw [u] at rs
 rw [v] at ri
 have a1:Zpn ⟨g,nearM g,⟨[],[]⟩,[],0,0,B,false⟩ (refN (nearM g) g.Colors)=some (spS g (nearM g) B s):=rs
 have a4:Zo4 ⟨⟨B,false⟩,g,nearM g,0,0,⟨[],[]⟩,[]⟩ (refN (nearM g) g.Colors)=some (ipS g (nearM g) B s):=ri
 unfold Zd6 Zee Zh8 Zje Zh1 Zmh
 generalize nearM g=near at a8 a6 a2 a3 a1 a4
 generalize refN near g.Colors=y at a2 a3 a1 a4
 by_cases hf:s.full=true
 ·refine ⟨(⟨#[]⟩,5),?_,?_⟩
  ·simp (disch:=omega) only [pz,eG,af,a7,a8,a2,a1,spS,hf]
  ·simp (disch:=omega) only [pz,eG,ab,a9,a6,a3,a4,ipS,hf]
 ·have hf:s.full=false:=by simpa using hf
  have o:=ae hf
  obtain ⟨p,hp,ai⟩:=k o
  have ad:ValidG s.best:=by rw [ai];exact ZlV hg hp
  have ts:=ZFU ad
  have ti:=ZG7 ad
  have eB:Za.mk s.best.Colors s.best.Edges=s.best:=rfl
  have x:gIdx s.perms 0=some (ix s.perms 0):=Zis ω (by cases hh:s.perms with|nil=>exact absurd hh o|cons a l=>simp)
  refine ⟨(gT s.best,0),?_,?_⟩
  ·simp (disch:=omega) only [pz,eG,af,a7,a8,a2,a1,spS,hf,eB,ts]
  ·simp (disch:=omega) only [pz,eG,ab,a9,a6,a3,a4,ipS,hf,eB,ti,x]
theorem ZGe {g:Za} (c:g.Colors.length<=1000000) (k:g.Edges.length<=1000000) {B:Int} (h1:1<=B) (a:B<=20000):∃ r,Zd6 g B=some r/\Zee g B=some r:=by
 by_cases hg:ValidG g
 ·exact ZwG hg h1 a
 ·have h:=(ZoQ (g:=g) ω ω).ne hg
  have e:=(ZkW (g:=g) ω ω).ne hg
  have j:Za.mk g.Colors g.Edges=g:=rfl
  refine ⟨(⟨#[]⟩,1),?_,?_⟩
  ·unfold Zd6 Zh1
   simp (disch:=omega) only [pz,j,h]
  ·unfold Zee Zh8 Zje
   simp (disch:=omega) only [pz,j,e]
def wd (f:Zd) (q w:Int) (m:List (List Int)):Nat->Int->List Int
 | 0,_=>tabl w fun _=>0
 | i+1,n=>tabl w fun t=>sumA f (ix (wd f q w m i (n/q)) t) (mulA f (ix (ix m (i:Int)) t) (n%q)) 1
section
variable {f:Zd} {q:Int} {inv:List Int} (hF:Ff f q inv)
include hF
theorem add0 {a:Int} (c:0<=a) (e:a<q):sumA f a 0 1=a:=by
 have h:=hF.sub a 0 c e ω ω
 rw [hF.z2 0 ω ω,hF.z2 a c e] at h
 exact h.symm
variable {w:Int} {m:List (List Int)}
theorem Zkp (w0:0<=w):∀ (i:Nat) (n:Int),((wd f q w m i n).length:Int)=w
 | 0,_=>by rw [wd,Zm];omega
 | i+1,_=>by rw [wd,Zm];omega
theorem wd_in (w0:0<=w):∀ (i:Nat) (n:Int),In q (wd f q w m i n)
 | 0,n=>fun t a c=>by
  have:=Zkp hF (m:=m) w0 0 n
  have:=hF.q2
  rw [wd,ZI a ω];omega
 | i+1,n=>fun t a c=>by
  have:=Zkp hF (m:=m) w0 (i+1) n
  rw [wd,ZI a ω]
  exact ZlY hF.fd hF.pw _ _ _
variable (hm:Mat q w m)
include hm
end
def wtN (r:List Int):Nat->Int
 | 0=>0
 | n+1=>wtN r n+if ix r (n:Int)=0 then 0 else 1
def wt (r:List Int):Int:=wtN r r.length
theorem gAppV {xs:List (List Int)} {y:List Int} (h:xs.length<=100000):gApp 24 xs [y]=some (xs++[y]):=gApp1 ω ω
theorem ZEr {xs:List Int} (y:xs.length<=1000):ZiI xs=some (tabl xs.length fun t=>ix xs ((xs.length:Int)-1-t)):=by
 unfold ZiI
 have e:=Zl (B:=Zhb) (fun i:Int=>(i,(xs.length:Int)-1-i,tabl xs.length fun t=>if t<i\/(xs.length:Int)-1-i<t then ix xs ((xs.length:Int)-1-t) else ix xs t)) (i:=0) (n:=(xs.length:Int)/2) ω fun i j p=>by
  have x:((tabl xs.length fun t=>if t<i\/(xs.length:Int)-1-i<t then ix xs ((xs.length:Int)-1-t) else ix xs t).length:Int)=xs.length:=by rw [Zm];omega
  have x1:ix (tabl xs.length fun t=>if t<i\/(xs.length:Int)-1-i<t then ix xs ((xs.length:Int)-1-t) else ix xs t) i=ix xs i:=by rw [ZI j ω,if_neg ω]
  have x2:ix (tabl xs.length fun t=>if t<i\/(xs.length:Int)-1-i<t then ix xs ((xs.length:Int)-1-t) else ix xs t) ((xs.length:Int)-1-i)=ix xs ((xs.length:Int)-1-i):=by rw [ZI ω ω,if_neg ω]
  have hs:((tabl xs.length fun t=>if t<i\/(xs.length:Int)-1-i<t then ix xs ((xs.length:Int)-1-t) else ix xs t).set i.toNat (ix xs ((xs.length:Int)-1-i))).set ((xs.length:Int)-1-i).toNat (ix xs i)=tabl xs.length fun t=>if t<i+1\/(xs.length:Int)-1-(i+1)<t then ix xs ((xs.length:Int)-1-t) else ix xs t:=by
   rw [Zam (n:=(xs.length:Int)) (f:=fun t=>if t<i\/(xs.length:Int)-1-i<t then ix xs ((xs.length:Int)-1-t) else ix xs t) (g:=fun t=>if t<i+1\/(xs.length:Int)-1-i<t then ix xs ((xs.length:Int)-1-t) else ix xs t) j ω (fun t a c u=>by
    by_cases h:t<i\/(xs.length:Int)-1-i<t
    ·rw [if_pos h,if_pos ω]
    ·rw [if_neg h,if_neg ω]) (by rw [if_pos ω])]
   refine Zam ω ω (fun t a c u=>?_) ?_
   ·by_cases h:t<i+1\/(xs.length:Int)-1-i<t
    ·rw [if_pos h,if_pos ω]
    ·rw [if_neg h,if_neg ω]
   ·rw [if_pos ω,show (xs.length:Int)-1-((xs.length:Int)-1-i)=i by omega]
  have r:(xs.length:Int)-1-i-1=(xs.length:Int)-1-(i+1):=ω
  generalize (tabl xs.length fun t=>if t<i\/(xs.length:Int)-1-i<t then ix xs ((xs.length:Int)-1-t) else ix xs t)=A at x x1 x2 hs ⊢
  have k:(A.set i.toNat (ix xs ((xs.length:Int)-1-i))).length=A.length:=List.length_set
  simp (disch:=omega) only [pz,Zhb,x1,x2,k,hs,r]
 have l:((0:Int),ε.wrap ((xs.length:Int)-1),xs)=(fun i:Int=>(i,(xs.length:Int)-1-i,tabl xs.length fun t=>if t<i\/(xs.length:Int)-1-i<t then ix xs ((xs.length:Int)-1-t) else ix xs t)) 0:=by
  show _=((0:Int),_,_)
  rw [wr64 ω ω]
  congr 1
  congr 1
  ·omega
  ·refine (Zbe xs).symm.trans (ZM fun t a c=>?_)
   rw [if_neg ω]
 rw [l,e]
 have o:(tabl xs.length fun t=>if t<(xs.length:Int)/2\/(xs.length:Int)-1-(xs.length:Int)/2<t then ix xs ((xs.length:Int)-1-t) else ix xs t)=tabl xs.length fun t=>ix xs ((xs.length:Int)-1-t):=ZM fun t a c=>by
  by_cases h:t<(xs.length:Int)/2\/(xs.length:Int)-1-(xs.length:Int)/2<t
  ·rw [if_pos h]
  ·rw [if_neg h,show (xs.length:Int)-1-t=t by omega]
 refine Zc ?_
 simp (disch:=omega) only [pz,Zhb,o]
theorem pw_lo {p:Int} (hp:2<=p) {a b:Nat} (h:a<=b):pwN p a<=pwN p b:=by
 have:=Zlk hp (m:=a) (b-a)
 rwa [show a+(b-a)=b by omega] at this
theorem pwU {q:Int} (q2:2<=q) {k:Nat} (hk:k<=64) (h:pwN q k<=4096):Za6 q (k:Int) 4096=some (pwN q k):=by
 unfold Za6
 have e:=Zl (B:=ZaS q 4096) (fun j:Int=>((k:Int)-j,pwN q j.toNat)) (i:=0) (n:=(k:Int)) ω fun j o r=>by
  have h1:=pw_lo q2 (a:=j.toNat) (b:=k) ω
  have s:=pw_lo q2 (a:=j.toNat+1) (b:=k) ω
  have u:=Zbk (p:=q) q2 j.toNat
  have v:=Zbk (p:=q) q2 (j.toNat+1)
  have ee:(k:Int)-j-1=(k:Int)-(j+1):=ω
  have c:pwN q (j+1).toNat=pwN q j.toNat*q:=by rw [show (j+1).toNat=j.toNat+1 by omega];rfl
  have x:pwN q j.toNat*q<=4096:=by have:pwN q (j.toNat+1)=pwN q j.toNat*q:=rfl;omega
  have y:1<=pwN q j.toNat*q:=by have:pwN q (j.toNat+1)=pwN q j.toNat*q:=rfl;omega
  rw [c]
  simp (disch:=omega) only [pz,ZaS,Ze2,ee]
 have l:((k:Int)-0,pwN q (0:Int).toNat)=((k:Int),(1:Int)):=by simp [pwN]
 rw [l] at e
 rw [e]
 exact Zc (by simp (disch:=omega) only [pz,ZaS])
theorem ZE6 {q:Int} (q2:2<=q) (q64:q<=64) {k:Nat} (hk:k<=64) {cs:Int} (h:loop (Zbg q) ((k:Int),1)=some cs) (c:¬ cs=0):pwN q k<=4096:=by
 have st:∀ j:Nat,pwN q (j+1)=pwN q j*q:=fun _=>rfl
 have l:((k:Int),(1:Int))=(fun j:Int=>((k:Int)-j,pwN q j.toNat)) 0:=by simp [pwN]
 rw [l] at h
 rcases Zb0 (B:=Zbg q) (fun j:Int=>((k:Int)-j,pwN q j.toNat)) (fun j=>4096<pwN q (j.toNat+1)) (i:=0) (n:=(k:Int)) ω (fun j o r s=>by
  have u:=Zbk (p:=q) q2 j.toNat
  have v:=Zbk (p:=q) q2 (j.toNat+1)
  have ee:(k:Int)-j-1=(k:Int)-(j+1):=ω
  have x:pwN q (j+1).toNat=pwN q j.toNat*q:=by rw [show (j+1).toNat=j.toNat+1 by omega];rfl
  have a:=st j.toNat
  rw [x]
  rw [a] at s v
  simp (disch:=omega) only [pz,Zbg,ee]) with ⟨j,o,r,hj,hall,e⟩|⟨hall,_⟩
 ·refine absurd ?_ c
  have u:=Zbk (p:=q) q2 j.toNat
  have y:pwN q j.toNat<=4096:=by
   by_cases hz:j=0
   ·rw [hz];show (1:Int)<=4096;omega
   ·have:=hall (j-1) ω ω
    rw [show (j-1).toNat+1=j.toNat by omega] at this
    omega
  have a:=st j.toNat
  rw [a] at hj
  have h7:pwN q j.toNat*q<=4096*64:=Int.mul_le_mul y q64 ω ω
  have e1:loop (Zbg q) ((k:Int)-j,pwN q j.toNat)=some 0:=by
   refine Zc ?_
   simp (disch:=omega) only [pz,Zbg]
  rw [e] at h
  exact (Option.some.inj (h.symm.trans e1))
 ·by_cases hz:k=0
  ·rw [hz];show (1:Int)<=4096;omega
  ·have:=hall ((k:Int)-1) ω ω
   rw [show ((k:Int)-1).toNat+1=k by omega] at this
   omega
def cwN (ws:List (List Int)) (w:Int) (m:Nat):List Int:=tabl (w+1) fun y=>cntB ws (fun r=>decide (wt r=y)) m
section
variable {f:Zd} {q:Int} {inv:List Int} (hF:Ff f q inv)
include hF
theorem ZDT {a b:List Int} (ha:In q a) (r:In q b) (hl:(a.length:Int)<=64) (he:b.length=a.length):ZiY f a b=some (tabl a.length fun t=>sumA f (ix a t) (ix b t) 1):=by
 have hq:=hF.q64
 have hp:=hF.fd.p2
 unfold ZiY
 have a0:=Zaw (b:=8) (z:=(0:Int)) (n:=(a.length:Int)) ω ω ω
 have e:=Zl (B:=ZdD f a b) (fun t:Int=>(t,tabl a.length fun u=>if u<t then sumA f (ix a u) (ix b u) 1 else 0)) (i:=0) (n:=(a.length:Int)) ω fun t j k=>by
  obtain ⟨s,v⟩:=ha t j k
  obtain ⟨g3,g4⟩:=r t j ω
  have hL:((tabl a.length fun u=>if u<t then sumA f (ix a u) (ix b u) 1 else 0).length:Int)=a.length:=by rw [Zm];omega
  have hs:(tabl a.length fun u=>if u<t then sumA f (ix a u) (ix b u) 1 else 0).set t.toNat (sumA f (ix a t) (ix b t) 1)=tabl a.length fun u=>if u<t+1 then sumA f (ix a u) (ix b u) 1 else 0:=by
   refine Zam j k (fun u l o hu=>?_) (by rw [if_pos ω])
   by_cases h:u<t
   ·rw [if_pos h,if_pos ω]
   ·rw [if_neg h,if_neg ω]
  generalize (tabl a.length fun u=>if u<t then sumA f (ix a u) (ix b u) 1 else 0)=A at hL hs ⊢
  by_cases hz:ix b t=0
  ·rw [hz,add0 hF s v] at hs
   simp (disch:=omega) only [pz,ZdD,hs]
  ·have hS:=ZuF hF.fd (a:=ix a t) (b:=ix b t) (c:=1) ω ω ω ω ω ω
   simp (disch:=omega) only [pz,ZdD,hS,hs]
 have x:(tabl a.length fun u=>if u<(0:Int) then sumA f (ix a u) (ix b u) 1 else 0)=List.replicate (a.length:Int).toNat 0:=by
  rw [ZgA]
  exact ZM fun u l _=>by rw [if_neg ω]
 have y:(tabl a.length fun u=>if u<(a.length:Int) then sumA f (ix a u) (ix b u) 1 else 0)=tabl a.length fun t=>sumA f (ix a t) (ix b t) 1:=ZM fun u l o=>by rw [if_pos o]
 rw [x,y] at e
 have p:loop (ZdD f a b) (0,List.replicate (a.length:Int).toNat 0)=some (tabl a.length fun t=>sumA f (ix a t) (ix b t) 1):=e.trans (Zc (by simp (disch:=omega) only [pz,ZdD]))
 rw [Int.toNat_natCast] at a0 p
 simp (disch:=omega) only [pz,a0,p]
theorem ZFx {v w:List Int} {c:Int} (hv:In q v) (hw:In q w) (hl:(v.length:Int)<=64) (he:w.length=v.length) (j:0<=c) (c1:c<q):
  ZbJ (tabs f q inv) v w c=some (tabl v.length fun t=>sumA f (ix v t) (mulA f (ix w t) c) 1):=by
 have hq:=hF.q64
 unfold ZbJ
 have a0:=Zl (B:=Zbm (tabs f q inv) w c) (fun t=>(t,tabl v.length fun u=>if u<t then sumA f (ix v u) (mulA f (ix w u) c) 1 else ix v u)) (i:=0) (n:=v.length) ω fun t a e=>by
  obtain ⟨p,r⟩:=hv t a e
  obtain ⟨k,l⟩:=hw t a ω
  have a5:(tabl v.length fun u=>if u<t then sumA f (ix v u) (mulA f (ix w u) c) 1 else ix v u).length=v.length:=by rw [Zm];omega
  have o:ix (tabl v.length fun u=>if u<t then sumA f (ix v u) (mulA f (ix w u) c) 1 else ix v u) t=ix v t:=by rw [ZI a e,if_neg ω]
  obtain ⟨s,x⟩:=ZcY hF.fd hF.pw c (ix w t)
  have hs:(tabl v.length fun u=>if u<t then sumA f (ix v u) (mulA f (ix w u) c) 1 else ix v u).set t.toNat (sumA f (ix v t) (mulA f c (ix w t)) 1)=tabl v.length fun u=>if u<t+1 then sumA f (ix v u) (mulA f (ix w u) c) 1 else ix v u:=by
   apply Zam a e
   ·intro u u0 u1 u2
    by_cases h:u<t
    ·rw [if_pos h,if_pos (show u<t+1 by omega)]
    ·rw [if_neg h,if_neg (show ¬ u<t+1 by omega)]
   ·rw [if_pos ω,hF.comm c _ j c1 k l]
  have y:gIdx (tabs f q inv).qadd (ix v t)=some (tabl q fun b=>sumA f (ix v t) b 1):=by rw [Zty,ZaB p r]
  have i3:gIdx (tabs f q inv).qmul c=some (tabl q fun b=>mulA f c b):=by rw [ZmO,ZaB j c1]
  have i4:gIdx (tabl q fun b=>mulA f c b) (ix w t)=some (mulA f c (ix w t)):=ZaB k l
  have i5:gIdx (tabl q fun b=>sumA f (ix v t) b 1) (mulA f c (ix w t))=some (sumA f (ix v t) (mulA f c (ix w t)) 1):=ZaB s x
  simp (disch:=omega) only [pz,Zbm,o,y,i3,i4,i5,hs]
 have e0:((0:Int),v)=(fun t=>(t,tabl v.length fun u=>if u<t then sumA f (ix v u) (mulA f (ix w u) c) 1 else ix v u)) 0:=by
  show _=((0:Int),_)
  congr 1
  refine (Zbe v).symm.trans (ZM fun t a e=>?_)
  rw [if_neg ω]
 rw [e0,a0]
 refine Zc ?_
 have e1:(tabl v.length fun u=>if u<(v.length:Int) then sumA f (ix v u) (mulA f (ix w u) c) 1 else ix v u)=tabl v.length fun t=>sumA f (ix v t) (mulA f (ix w t) c) 1:=ZM fun t a e=>by rw [if_pos e]
 simp (disch:=omega) only [pz,Zbm,e1]
variable {w:Int} {m:List (List Int)} (hm:Mat q w m)
include hm
theorem ZGT (w0:0<=w) (m1:1<=(m.length:Int)) (ad:∀ {g:Zd},True) {n:Int} (n0:0<=n) (n1:n<=4096):
  ∃ a0,ZhT n q (m.length:Int)=some a0/\Zkd (tabs f q inv) m a0=some (wd f q w m m.length n):=by
 have o:=hF.q64
 have j:=hF.q2
 have ag:=hm.n
 have a3:=hm.w1
 have r:=Zjp (p:=q) (a:=n) (k:=(m.length:Int)) n0 ω j o ω ω
 have a7:=ZaM (p:=q) (a:=n) (k:=(m.length:Int)) ω
 have hr:=ZEr (xs:=dig q m.length n) ω
 refine ⟨_,by unfold ZhT;rw [r,Option.bind_some,hr,Option.bind_some],?_⟩
 rw [a7]
 have l:=hm.len 0 ω ω
 have a5:=Zaw (b:=8) (z:=(0:Int)) (n:=w) ω ω ω
 generalize hM:(tabl (m.length:Int) fun t=>ix (dig q m.length n) ((m.length:Int)-1-t))=a0
 have ah:(a0.length:Int)=m.length:=by rw [<-hM,Zm];omega
 have a2:∀ i,0<=i->i<(m.length:Int)->ix a0 i=qd q n ((m.length:Int)-(i+1)).toNat%q:=fun i c h=>by
  rw [<-hM,ZI c h,show (m.length:Int)-1-i=(m.length:Int)-(i+1) by omega]
  unfold dig
  exact ZI ω ω
 have e:=Zl (B:=ZdV (tabs f q inv) m a0) (fun i:Int=>(i,wd f q w m i.toNat (qd q n ((m.length:Int)-i).toNat))) (i:=0) (n:=(m.length:Int)) ω fun i c h=>by
  have s:=a2 i c h
  have ae:=(ZgW (p:=q) n0 j ((m.length:Int)-(i+1)).toNat).1
  have u:=Int.emod_nonneg (qd q n ((m.length:Int)-(i+1)).toNat) (b:=q) ω
  have c1:=Int.emod_lt_of_pos (qd q n ((m.length:Int)-(i+1)).toNat) (b:=q) ω
  have a6:=Zkp hF (m:=m) w0 i.toNat (qd q n ((m.length:Int)-i).toNat)
  have a8:=wd_in hF (m:=m) w0 i.toNat (qd q n ((m.length:Int)-i).toNat)
  have af:=hm.len i c h
  have hA:=ZFx hF (v:=wd f q w m i.toNat (qd q n ((m.length:Int)-i).toNat)) (w:=ix m i) a8 (hm.rng i c h) ω ω u c1
  have x:qd q n ((m.length:Int)-i).toNat=qd q n ((m.length:Int)-(i+1)).toNat/q:=by
   rw [show ((m.length:Int)-i).toNat=((m.length:Int)-(i+1)).toNat+1 by omega];rfl
  have y:wd f q w m (i+1).toNat (qd q n ((m.length:Int)-(i+1)).toNat)=tabl w fun t=>sumA f (ix (wd f q w m i.toNat (qd q n ((m.length:Int)-i).toNat)) t) (mulA f (ix (ix m i) t) (qd q n ((m.length:Int)-(i+1)).toNat%q)) 1:=by
   rw [show (i+1).toNat=i.toNat+1 by omega,wd,x,show ((i.toNat:Nat):Int)=i by omega]
  rw [y]
  rw [a6] at hA
  have eT:Z5.mk (tabs f q inv).qq (tabs f q inv).qadd (tabs f q inv).qsub (tabs f q inv).qmul (tabs f q inv).qinv=tabs f q inv:=rfl
  rw [<-s] at hA ⊢
  generalize tabs f q inv=T at hA eT ⊢
  generalize wd f q w m i.toNat (qd q n ((m.length:Int)-i).toNat)=V at hA ⊢
  simp (disch:=omega) only [pz,ZdV,eT,hA]
 have e0:wd f q w m (0:Int).toNat (qd q n ((m.length:Int)-0).toNat)=List.replicate w.toNat 0:=by
  rw [ZgA];rfl
 have e9:wd f q w m (m.length:Int).toNat (qd q n ((m.length:Int)-(m.length:Int)).toNat)=wd f q w m m.length n:=by
  rw [Int.sub_self,Int.toNat_natCast];rfl
 rw [e0,e9] at e
 have e1:loop (ZdV (tabs f q inv) m a0) (0,List.replicate w.toNat 0)=some (wd f q w m m.length n):=e.trans (Zc (by simp (disch:=omega) only [pz,ZdV]))
 unfold Zkd
 simp (disch:=omega) only [pz,l,a5,e1]
theorem ZvP (w0:0<=w) (c:1<=(m.length:Int)) (hs:Za5 f=some q) (r:pwN q m.length<=4096):ZjC ⟨f,m⟩=some (tabl (pwN q m.length) (wd f q w m m.length)):=by
 have x:=hm.n
 have u:=ZuE hF hs
 have hp:=pwU hF.q2 (k:=m.length) ω r
 have hP:=Zbk (p:=q) hF.q2 m.length
 have e:=Zl (B:=ZeM ⟨f,m⟩ (tabs f q inv) m.length (pwN q m.length)) (fun n:Int=>(tabl n (wd f q w m m.length),n)) (i:=0) (n:=pwN q m.length) ω fun n n0 n1=>by
  obtain ⟨a0,h1,a⟩:=ZGT hF hm w0 c (fun {_}=>trivial) n0 ω
  have eT:Z5.mk (tabs f q inv).qq (tabs f q inv).qadd (tabs f q inv).qsub (tabs f q inv).qmul (tabs f q inv).qinv=tabs f q inv:=rfl
  have j:(tabs f q inv).qq=q:=rfl
  have l:Z5.mk q (tabs f q inv).qadd (tabs f q inv).qsub (tabs f q inv).qmul (tabs f q inv).qinv=tabs f q inv:=rfl
  have hl:(tabl n (wd f q w m m.length)).length=n.toNat:=Zm
  have hg:=gAppV (xs:=tabl n (wd f q w m m.length)) (y:=wd f q w m m.length n) ω
  rw [<-ZW n0] at hg
  generalize tabs f q inv=T at a eT l j ⊢
  simp (disch:=omega) only [pz,ZeM,l,j,h1,a,hg]
 have h:loop (ZeM ⟨f,m⟩ (tabs f q inv) m.length (pwN q m.length)) ([],0)=some (tabl (pwN q m.length) (wd f q w m m.length)):=e.trans (Zc (by simp (disch:=omega) only [pz,ZeM]))
 have o:Zd.mk f.Prime f.Degree f.Poly=f:=rfl
 have j:(tabs f q inv).qq=q:=rfl
 unfold ZjC
 simp (disch:=omega) only [pz,o,u,Z7,j,hp,h]
theorem ZHm (w0:0<=w) (m1:1<=(m.length:Int)) (hs:Zbc f=some q) (hN:pwN q m.length<=4096):ZiW ⟨f,m⟩=some (tabl (pwN q m.length) (wd f q w m m.length)):=by
 have ar:=hm.n
 have a4:=hm.w1
 have c:=hF.q2
 have s:=hF.q64
 have eF:Zd.mk f.Prime f.Degree f.Poly=f:=rfl
 have j:=hm.len 0 ω ω
 have ab:=Zaw (b:=8) (z:=(0:Int)) (n:=w) ω ω ω
 have e:=Zl (B:=ZdQ ⟨f,m⟩ q) (fun i:Int=>(tabl (pwN q i.toNat) (wd f q w m i.toNat),i)) (i:=0) (n:=(m.length:Int)) ω fun i l o=>by
  have ap:=hm.len i l o
  have a6:=hm.rng i l o
  have aa:=Zbk (p:=q) c i.toNat
  have ae:pwN q i.toNat*q<=4096:=by
   have h1:pwN q (i.toNat+1)=pwN q i.toNat*q:=rfl
   have h2:=pw_lo c (a:=i.toNat+1) (b:=m.length) ω
   omega
  have eP:pwN q (i+1).toNat=pwN q i.toNat*q:=by rw [show (i+1).toNat=i.toNat+1 by omega];rfl
  have hY:((tabl (pwN q i.toNat) (wd f q w m i.toNat)).length:Int)=pwN q i.toNat:=by rw [Zm];omega
  have a0:∀ k,0<=k->k<pwN q i.toNat->ix (tabl (pwN q i.toNat) (wd f q w m i.toNat)) k=wd f q w m i.toNat k:=fun k k0 k1=>ZI k0 k1
  have hM:((tabl q fun x=>scl f (ix m i) x).length:Int)=q:=by rw [Zm];omega
  have a8:∀ x,0<=x->x<q->ix (tabl q fun x=>scl f (ix m i) x) x=scl f (ix m i) x:=fun x x0 x1=>ZI x0 x1
  rw [eP]
  generalize a3:tabl (pwN q i.toNat) (wd f q w m i.toNat)=Y at hY a0 ⊢
  generalize pwN q i.toNat=P at aa ae hY a0 a3 ⊢
  have av:P*1<=P*q:=Int.mul_le_mul_of_nonneg_left ω ω
  have u:∀ k,0<=k->k<P->loop (ZeZ ⟨f,m⟩ q Y (tabl q fun x=>scl f (ix m i) x) k) (tabl (k*q) (wd f q w m (i+1).toNat),0)=some (.inl (tabl ((k+1)*q) (wd f q w m (i+1).toNat),k+1)):=fun k k0 k1=>by
   have au:0<=k*q:=Int.mul_nonneg k0 ω
   have a5:(k+1)*q<=P*q:=Int.mul_le_mul_of_nonneg_right ω ω
   have r:(k+1)*q=k*q+q:=by rw [Int.add_mul,Int.one_mul]
   have e:=Zl (B:=ZeZ ⟨f,m⟩ q Y (tabl q fun x=>scl f (ix m i) x) k) (fun x:Int=>(tabl (k*q+x) (wd f q w m (i+1).toNat),x)) (i:=0) (n:=q) ω fun x x0 x1=>by
    have hl:((tabl (k*q+x) (wd f q w m (i+1).toNat)).length:Int)=k*q+x:=by rw [Zm];omega
    have a7:=a0 k k0 k1
    have a9:=a8 x x0 x1
    have ac:=Zkp hF (m:=m) w0 i.toNat k
    have ag:=wd_in hF (m:=m) w0 i.toNat k
    have aq:(scl f (ix m i) x).length=(ix m i).length:=Zir
    have a1:=ZDT hF (a:=wd f q w m i.toNat k) (b:=scl f (ix m i) x) ag (Zmp hF) ω ω
    have eW:(tabl ((wd f q w m i.toNat k).length:Int) fun t=>sumA f (ix (wd f q w m i.toNat k) t) (ix (scl f (ix m i) x) t) 1)=wd f q w m (i+1).toNat (k*q+x):=by
     rw [show (i+1).toNat=i.toNat+1 by omega,wd,ac]
     have h:(k*q+x)/q=k:=by rw [Int.add_comm,Int.add_mul_ediv_right _ _ ω,Int.ediv_eq_zero_of_lt x0 x1];omega
     have v:(k*q+x)%q=x:=by rw [Int.add_comm,Int.add_mul_emod_self_right,Int.emod_eq_of_lt x0 x1]
     rw [h,v,show ((i.toNat:Nat):Int)=i by omega]
     refine ZM fun t t0 t1=>?_
     congr 1
     exact ZI t0 ω
    rw [eW] at a1
    have hg:=gAppV (xs:=tabl (k*q+x) (wd f q w m (i+1).toNat)) (y:=wd f q w m (i+1).toNat (k*q+x)) ω
    rw [<-ZW ω] at hg
    have ea:k*q+(x+1)=k*q+x+1:=ω
    rw [ea]
    simp (disch:=omega) only [pz,ZeZ,a7,a9,eF,a1,hg]
   rw [Int.add_zero] at e
   rw [e,r]
   exact Zc (by simp (disch:=omega) only [pz,ZeZ])
  have b3:loop (ZeF ⟨f,m⟩ q Y i (tabl q fun x=>scl f (ix m i) x)) ([],0)=some (.inr (.inl (tabl (P*q) (wd f q w m (i+1).toNat),i+1))):=by
   have e:=Zl (B:=ZeF ⟨f,m⟩ q Y i (tabl q fun x=>scl f (ix m i) x)) (fun k:Int=>(tabl (k*q) (wd f q w m (i+1).toNat),k)) (i:=0) (n:=P) ω fun k k0 k1=>by
    have:=u k k0 k1
    simp (disch:=omega) only [pz,ZeF,this]
   rw [Int.zero_mul] at e
   exact e.trans (Zc (by simp (disch:=omega) only [pz,ZeF]))
  have b2:loop (Zd9 ⟨f,m⟩ q Y i) ([],0)=some (.inl (tabl (P*q) (wd f q w m (i+1).toNat),i+1)):=by
   have e:=Zl (B:=Zd9 ⟨f,m⟩ q Y i) (fun x:Int=>(tabl x fun x=>scl f (ix m i) x,x)) (i:=0) (n:=q) ω fun x x0 x1=>by
    have af:=ZuK hF a6 ω x0 x1
    have hl:((tabl x fun x=>scl f (ix m i) x).length:Int)=x:=by rw [Zm];omega
    have hg:=gAppV (xs:=tabl x fun x=>scl f (ix m i) x) (y:=scl f (ix m i) x) ω
    rw [<-ZW (f:=fun x=>scl f (ix m i) x) x0] at hg
    simp (disch:=omega) only [pz,Zd9,eF,af,hg]
   exact e.trans (Zc (by simp (disch:=omega) only [pz,Zd9,b3]))
  simp (disch:=omega) only [pz,ZdQ,b2]
 have e0:tabl (pwN q (0:Int).toNat) (wd f q w m (0:Int).toNat)=[List.replicate w.toNat 0]:=by
  rw [ZgA];rfl
 rw [e0,Int.toNat_natCast] at e
 have h:loop (ZdQ ⟨f,m⟩ q) ([List.replicate w.toNat 0],0)=some (tabl (pwN q m.length) (wd f q w m m.length)):=e.trans (Zc (by simp (disch:=omega) only [pz,ZdQ]))
 unfold ZiW
 simp (disch:=omega) only [pz,eF,j,ab,hs,h]
end
structure CodeV (o:Zg) (f:Zd) (inv:List Int):Prop where
 F:Ff f o.Size inv
 si:Za5 f=some o.Size
 ss:Zbc f=some o.Size
 M:VMat o.Size o.Rows
 r8:(o.Rows.length:Int)<=8
 few:pwN o.Size o.Rows.length<=4096
 form:Zgx f o.Rows=some o.Rows
 cs:Zbi o=some ⟨f,o.Rows⟩
 ci:ZcG o=some ⟨f,o.Rows⟩
 oks:ZaH ⟨f,o.Rows⟩=some true
 oki:Zc7 ⟨f,o.Rows⟩=some true
theorem ZC0 {o:Zg} (hs:Sz2 o.Rows) (h:Zas o=some true) (hk:o.Kind=5):∃ f inv,CodeV o f inv:=by
 obtain ⟨cs,ci,b,j,s,c,x⟩:=Zs1 hs
 have y:Z1.mk (Zd.mk cs.Field.Prime cs.Field.Degree cs.Field.Poly) cs.Rows=cs:=rfl
 have u:Zas o=some b:=by unfold Zas;simp (disch:=omega) only [pz,j,y,c]
 rw [h] at u
 obtain rfl:b=true:=(Option.some.inj u).symm
 rcases ZtF o.Size with ⟨f,hm⟩|⟨h1,e,h2⟩
 ·obtain ⟨inv,hF⟩:=Zuu hm.gf
  have eF:Zd.mk f.Prime f.Degree f.Poly=f:=rfl
  have l:Zbi o=some ⟨f,o.Rows⟩:=by
   have hp:=hF.fd.p2
   unfold Zbi
   rw [hm.split]
   simp (disch:=omega) only [pz,hm.mks,eF]
  have v:ZcG o=some ⟨f,o.Rows⟩:=by
   unfold ZcG
   rw [Zc9 hs,hm.mki]
   simp (disch:=omega) only [pz,eF]
  rw [l] at j
  rw [v] at s
  obtain rfl:=Option.some.inj j
  obtain rfl:=Option.some.inj s
  have p:=hF.q2
  have i:=hF.q64
  have hN:=hs.1
  by_cases hV:VMat o.Size o.Rows
  ·have k:=(ZlZ hm p i hs).eq hV
   have n1:=hV.n1;have w2:=hV.w2;have w1:=hV.w1
   by_cases h8:(o.Rows.length:Int)<=8
   ·obtain ⟨cs,ci,k1,k2,k3⟩:=Zom p i o.Rows.length 1 ω ω ω
    have c1:Zi5 o.Size (o.Rows.length:Int)=some cs:=k1
    by_cases hz:cs=0
    ·have:ZaH ⟨f,o.Rows⟩=some false:=by
      unfold ZaH Zdm
      simp (disch:=omega) only [pz,eF,k,hm.szs,c1]
     rw [this] at c;cases c
    ·have a2:=ZE6 p i ω k1 hz
     obtain ⟨R,piv,d,r,r2,r3,r4⟩:=Ztt hF hs hV.mat ω n1
     obtain ⟨b,s1,s3⟩:=Zpz (a:=R) (b:=o.Rows) ω r4
     have:ZaH ⟨f,o.Rows⟩=some b:=by
      unfold ZaH Zdm
      simp (disch:=omega) only [pz,eF,k,hm.szs,c1,r,s1]
     rw [this] at c
     rw [s3.1 (Option.some.inj c)] at r
     exact ⟨f,inv,hF,hm.szi,hm.szs,hV,h8,a2,r,l,v,by rw [this,c],x⟩
   ·have:ZaH ⟨f,o.Rows⟩=some false:=by
     unfold ZaH Zdm
     simp (disch:=omega) only [pz,eF,k]
    rw [this] at c;cases c
  ·have k:=(ZlZ hm p i hs).ne hV
   have:ZaH ⟨f,o.Rows⟩=some false:=by
    unfold ZaH Zdm
    simp (disch:=omega) only [pz,eF,k]
   rw [this] at c;cases c
 ·have l:Zbi o=some ⟨⟨0,0,[]⟩,[]⟩:=by
   unfold Zbi
   rw [h1]
   simp (disch:=omega) only [pz,]
  rw [l] at j
  obtain rfl:=Option.some.inj j
  have:ZaH ⟨⟨0,0,[]⟩,[]⟩=some false:=rfl
  rw [this] at c;cases c
end Go.Proofs.YtepnljbkgjbbmaaGreatDoor
