import Derived.Test.YtepnljbkgjbbmaaGreatDoorPuJb
import Derived.Test.YtepnljbkgjbbmaaGreatDoorPuJa
import Derived.Test.YtepnljbkgjbbmaaGreatDoorPuTxt
import Derived.Test.YtepnljbkgjbbmaaGreatDoorPuFam
open Go.IntKind renaming i64->ε
namespace Go.Proofs.YtepnljbkgjbbmaaGreatDoor
open Go Go.Vc
set_option linter.unusedSimpArgs false
set_option linter.unusedVariables false
structure VMat (q:Int) (m:List (List Int)):Prop where
 n1:1<=(m.length:Int)
 n2:(m.length:Int)<=32
 w1:1<=((ix m 0).length:Int)
 w2:((ix m 0).length:Int)<=32
 row:∀ i,0<=i->i<(m.length:Int)->((ix m i).length:Int)=(ix m 0).length/\In q (ix m i)
theorem VMat.mat {q:Int} {m:List (List Int)} (h:VMat q m):Mat q (ix m 0).length m:=⟨fun i a b=>(h.row i a b).1,fun i a b=>(h.row i a b).2,by have:=h.n2;omega,by have:=h.w2;omega⟩
theorem Zto {f:Ze} {q:Int} (hs:Za8 f=some q) (o:2<=q) (j:q<=64) {v:List Int} (hv:(v.length:Int)<=1048576):IsQ (ZlD f v) (In q v):=by
 unfold ZlD
 rw [hs]
 obtain ⟨c,l,q2⟩:=ZcA (B:=ZfW v q) (P:=fun k=>0<=ix v k/\ix v k<=q-1) (t:=true) (f:=false) (i:=0) (n:=v.length) ω
  (fun k a b c=>by simp (disch:=omega) only [pz,ZfW,in_ok]) (fun k a b c=>by simp (disch:=omega) only [pz,ZfW,in_ok]) (by simp (disch:=omega) only [pz,ZfW])
 refine ⟨c,?_,q2.trans ⟨fun h i a b=>?_,fun h i a b=>?_⟩⟩
 ·show loop (ZfW v q) 0=some c
  rw [l];cases c<;>rfl
 ·have:=h i a b;omega
 ·have:=h i a b;omega
theorem Zjh {f:Ze} {q:Int} (hm:Made q f) (p:2<=q) (c:q<=64) {m:List (List Int)} (hs:Sz2 m):IsQ (ZkG f m) (VMat q m):=by
 have hN:=hs.1
 unfold ZkG Zm9
 rw [hm.oks]
 by_cases h1:(m.length:Int)=0
 ·simp (disch:=omega) only [pz,];exact IsQ.f fun h=>by have:=h.n1;omega
 ·by_cases s:(m.length:Int)<=32
  ·by_cases y:((ix m 0).length:Int)=0
   ·simp (disch:=omega) only [pz,];exact IsQ.f fun h=>by have:=h.w1;omega
   ·by_cases u:((ix m 0).length:Int)<=32
    ·simp (disch:=omega) only [pz,]
     refine (Zar (P:=fun i=>((ix m i).length:Int)=(ix m 0).length/\In q (ix m i)) (n:=m.length) (Q:=True) ω ?_ ?_ fun _=>?_).congr ⟨fun g=>⟨by omega,s,by omega,u,g.1⟩,fun g=>⟨g.row,trivial⟩⟩
     ·intro i k l j
      have o:=(Zto hm.szs p c (hs.row k l)).eq j.2
      have:=j.1
      simp (disch:=omega) only [pz,Zh2,o]
     ·intro i k l j
      by_cases hl:((ix m i).length:Int)=(ix m 0).length
      ·have o:=(Zto hm.szs p c (hs.row k l)).ne fun h=>j ⟨hl,h⟩
       simp (disch:=omega) only [pz,Zh2,o]
      ·simp (disch:=omega) only [pz,Zh2]
     ·rw [Zc (r:=true) (by simp (disch:=omega) only [pz,Zh2])];exact IsQ.t trivial
    ·simp (disch:=omega) only [pz,];exact IsQ.f fun h=>u h.w2
  ·simp (disch:=omega) only [pz,];exact IsQ.f fun h=>s h.n2
theorem Zr7 {f:Ze} {q:Int} (hm:Made q f) (hq:2<=q) (y:q<=64) {m:List (List Int)} (hs:Sz2 m):IsQ (Zjw f m) (VMat q m):=by
 have hN:=hs.1
 have e:Ze.mk f.Prime f.Degree f.Poly=f:=rfl
 unfold Zjw ZmD
 rw [e,hm.oki]
 by_cases h1:(m.length:Int)=0
 ·simp (disch:=omega) only [pz,Z6,ZV];exact IsQ.f fun h=>by have:=h.n1;omega
 ·by_cases o:(m.length:Int)<=32
  ·by_cases h3:((ix m 0).length:Int)=0
   ·simp (disch:=omega) only [pz,Z6,ZW,ZV];exact IsQ.f fun h=>by have:=h.w1;omega
   ·by_cases p:((ix m 0).length:Int)<=32
    ·simp (disch:=omega) only [pz,Z6,ZW,ZV,hm.szi]
     have hc:=containsLL (s:=m) (fn:=fun j=>Zga j m q) (q:=fun r=>¬ ((r.length:Int)=(ix m 0).length/\In q r)) hN fun r hr=>by
      show IsQ (Zga r m q) _
      unfold Zga Zp2
      by_cases hl:(r.length:Int)=(ix m 0).length
      ·have hi:=(containsL (s:=r) (fn:=fun j=>Ze4 j q) (q:=fun x=>¬ (0<=x/\x<=q-1)) (hs.2 r hr) fun x c=>by
        show IsQ (Ze4 x q) _
        unfold Ze4
        by_cases c:0<=x/\x<=q-1
        ·simp (disch:=omega) only [pz,ZV];exact IsQ.f fun h=>h c
        ·simp (disch:=omega) only [pz,ZV];exact IsQ.t c).not.not
       have u:IsQ (((ZaU r fun j=>Ze4 j q).bind fun r=>some (!r)).bind fun r=>some (!r)) (¬ ((r.length:Int)=(ix m 0).length/\In q r)):=by
        refine hi.congr ⟨fun h g=>h fun ⟨x,c,l⟩=>?_,fun h g=>h ⟨hl,fun k a b=>?_⟩⟩
        ·obtain ⟨k,a,b,rfl⟩:=Z0 c
         have:=g.2 k a b
         exact l ⟨this.1,by omega⟩
        ·have:=Classical.byContradiction fun hh:¬ (0<=ix r k/\ix r k<=q-1)=>g ⟨ix r k,Zn a b,hh⟩
         omega
       simp (disch:=omega) only [pz,]
       exact u
      ·simp (disch:=omega) only [pz,]
       exact IsQ.t fun h=>hl h.1
     refine hc.not.congr ⟨fun g=>⟨by omega,o,by omega,p,fun i a b=>?_⟩,fun g=>?_⟩
     ·exact Classical.byContradiction fun hh=>g ⟨ix m i,Zn a b,hh⟩
     ·rintro ⟨x,c,l⟩
      obtain ⟨i,a,b,rfl⟩:=Z0 c
      exact l (g.row i a b)
    ·simp (disch:=omega) only [pz,Z6,ZW,ZV];exact IsQ.f fun h=>p h.w2
  ·simp (disch:=omega) only [pz,Z6,ZV];exact IsQ.f fun h=>o h.n2
theorem Zph {q:Int} (i:2<=q) (c:q<=64):∀ (e:Nat) (n:Int),e<=64->1<=n->n<=4096->∃ cs ci:Int,loop (ZbB q) ((e:Int),n)=some cs/\loop (ZaV q 4096) ((e:Int),n)=some ci/\(cs=0↔4096<ci)
 | 0,n,_,h1,j=>by
  refine ⟨n,n,Zc ?_,Zc ?_,by omega⟩
  ·simp (disch:=omega) only [pz,ZbB]
  ·simp (disch:=omega) only [pz,ZaV]
 | e+1,n,he,h1,j=>by
  have p:1*2<=n*q:=Int.mul_le_mul h1 i ω ω
  have s:n*q<=4096*64:=Int.mul_le_mul j c ω ω
  have y:((e+1:Nat):Int)-1=(e:Int):=ω
  have u:loop (ZaV q 4096) (((e+1:Nat):Int),n)=loop (ZaV q 4096) ((e:Int),n*q):=by
   refine Zv ?_
   simp (disch:=omega) only [pz,ZaV,ZfK,y]
  by_cases h:n*q<=4096
  ·obtain ⟨cs,ci,k,l,o⟩:=Zph i c e (n*q) ω ω h
   refine ⟨cs,ci,?_,by rw [u,l],o⟩
   rw [<-k]
   refine Zv ?_
   simp (disch:=omega) only [pz,ZbB,y]
  ·refine ⟨0,n*q,Zc ?_,?_,by omega⟩
   ·simp (disch:=omega) only [pz,ZbB]
   ·rw [u]
    refine Zc ?_
    cases e with
    | zero=>simp (disch:=omega) only [pz,ZaV]
    | succ e=>simp (disch:=omega) only [pz,ZaV]
theorem ZHo {a b:List (List Int)} (u:(a.length:Int)<=1048576) (o:∀ x∈a,(x.length:Int)<=1048576):IsQ (ZjV a b) (a=b):=by
 unfold ZjV
 refine IsQ.bind_id ?_
 unfold Zp4
 refine Zdc (by unfold M63;omega) (fun k x y i l=>?_) (by simp (disch:=omega) only [pz,ZiW])
 have h1:=ZY i
 have j:=ZY l
 have hs:=Zpz (a:=x) (b:=y) (o x (List.mem_of_getElem? i))
 by_cases h:x=y
 ·exact Zbk (c:=true) (by simp [h]) (by simp (disch:=omega) only [pz,ZiW,ZP i,ZP l,hs.eq h])
 ·exact Zbk (c:=false) (by simp [h]) (by simp (disch:=omega) only [pz,ZiW,ZP i,ZP l,hs.ne h])
theorem Zqn {o:Zg} (hs:Sz2 o.Rows):∃ cs ci b,Zbs o=some cs/\ZcY o=some ci/\ZaI cs=some b/\ZdV ci=some b:=by
 have hN:=hs.1
 unfold Zbs ZcY
 rw [Zb0 hs]
 rcases Zqm o.Size with ⟨f,hm⟩|⟨h1,e,k⟩
 ·obtain ⟨inv,hF⟩:=Zrn hm.gf
  have hp:=hF.fd.p2
  have i:=hF.q2
  have c:=hF.q64
  rw [hm.split,hm.mki,hm.mks]
  have e:Ze.mk f.Prime f.Degree f.Poly=f:=rfl
  suffices hh:∃ b,ZaI ⟨f,o.Rows⟩=some b/\ZdV ⟨f,o.Rows⟩=some b by
   obtain ⟨b,h1,k⟩:=hh
   refine ⟨⟨f,o.Rows⟩,⟨f,o.Rows⟩,b,?_,?_,h1,k⟩
   ·simp (disch:=omega) only [pz,e]
   ·simp (disch:=omega) only [pz,e]
  unfold ZaI ZdV Zdj ZpP
  by_cases hV:VMat o.Size o.Rows
  ·have j:=(Zjh hm i c hs).eq hV
   have q2:=(Zr7 hm i c hs).eq hV
   have n1:=hV.n1;have w2:=hV.w2
   by_cases h8:(o.Rows.length:Int)<=8
   ·obtain ⟨cs,ci,s,u,l⟩:=Zph i c o.Rows.length 1 ω ω ω
    have c1:ZjP o.Size (o.Rows.length:Int)=some cs:=s
    have c2:Zbo o.Size (o.Rows.length:Int) 4096=some ci:=u
    by_cases hz:cs=0
    ·have a1:=l.1 hz
     refine ⟨false,?_,?_⟩
     ·simp (disch:=omega) only [pz,e,j,hm.szs,c1]
     ·simp (disch:=omega) only [pz,e,q2,hm.szi,Z6,c2]
    ·have a1:¬ 4096<ci:=fun h=>hz (l.2 h)
     obtain ⟨R,piv,d,y,r2,r3,p⟩:=ZqA hF hs hV.mat ω n1
     have s1:=ZoS (a:=R) (b:=o.Rows) ω p
     have s2:=ZHo (a:=R) (b:=o.Rows) ω p
     have ht:=ZuU hF hm.szi
     obtain ⟨b,s1,s3⟩:=s1
     obtain ⟨b',s2,s4⟩:=s2
     have:b=b':=by rw [Bool.eq_iff_iff,s3,s4]
     subst this
     refine ⟨b,?_,?_⟩
     ·simp (disch:=omega) only [pz,e,j,hm.szs,c1,y,s1]
     ·simp (disch:=omega) only [pz,e,q2,hm.szi,Z6,c2,ht,r2,s2]
   ·refine ⟨false,?_,?_⟩
    ·simp (disch:=omega) only [pz,e,j]
    ·simp (disch:=omega) only [pz,e,q2]
  ·have j:=(Zjh hm i c hs).ne hV
   have q2:=(Zr7 hm i c hs).ne hV
   refine ⟨false,?_,?_⟩
   ·simp (disch:=omega) only [pz,e,j]
   ·simp (disch:=omega) only [pz,e,q2]
 ·rw [h1,k]
  refine ⟨⟨⟨0,0,[]⟩,[]⟩,⟨⟨0,0,[]⟩,o.Rows⟩,false,?_,?_,?_,?_⟩
  ·simp (disch:=omega) only [pz,]
  ·simp (disch:=omega) only [pz,]
  ·rfl
  ·rfl
theorem two_q {a b:Option Bool} {p:Prop} (o:IsQ a p) (i:IsQ b p):∃ c,a=some c/\b=some c:=by
 obtain ⟨c,h1,j⟩:=o
 obtain ⟨d,k,l⟩:=i
 have:c=d:=by rw [Bool.eq_iff_iff,j,l]
 subst this
 exact ⟨c,h1,k⟩
theorem Zjs {o:Zg} (hs:Sz2 o.Rows):∃ c,Zat o=some c/\Zb5 o=some c:=by
 have hN:=hs.1
 have e:Zg.mk o.Kind o.Size o.Rows=o:=rfl
 unfold Zat Zb5
 by_cases h1:o.Kind=1
 ·obtain ⟨c,i,q2⟩:=two_q (ZmQ hs) (ZoT hs)
  by_cases hl:(o.Rows.length:Int)=o.Size
  ·refine ⟨c,?_,?_⟩
   ·cases c<;>simp (disch:=omega) only [pz,i]
   ·simp (disch:=omega) only [pz,q2,Z6]
  ·refine ⟨false,?_,?_⟩
   ·cases c<;>simp (disch:=omega) only [pz,i]
   ·simp (disch:=omega) only [pz,q2,Z6]
 by_cases u:o.Kind=2
 ·obtain ⟨c,i,q2⟩:=two_q (ZuF (d:=⟨o.Size,o.Rows⟩) hs) (ZuT (d:=⟨o.Size,o.Rows⟩) hs)
  refine ⟨c,?_,?_⟩
  ·simp (disch:=omega) only [pz,i]
  ·simp (disch:=omega) only [pz,e,Zh7,Zb0 hs,q2]
 by_cases y:o.Kind=3
 ·obtain ⟨c,i,q2⟩:=two_q (ZyW hs) (ZBE hs)
  by_cases hl:(o.Rows.length:Int)=o.Size
  ·refine ⟨c,?_,?_⟩
   ·cases c<;>simp (disch:=omega) only [pz,i]
   ·simp (disch:=omega) only [pz,q2,Z6]
  ·refine ⟨false,?_,?_⟩
   ·cases c<;>simp (disch:=omega) only [pz,i]
   ·simp (disch:=omega) only [pz,q2,Z6]
 by_cases h4:o.Kind=4
 ·by_cases hl:0<(o.Rows.length:Int)
  ·obtain ⟨c,i,q2⟩:=two_q (ZwG (a:=⟨o.Size,(ix o.Rows 0).length,o.Rows⟩) hs) (ZBA (a:=⟨o.Size,(ix o.Rows 0).length,o.Rows⟩) hs)
   refine ⟨c,?_,?_⟩
   ·simp (disch:=omega) only [pz,ZkA,i]
   ·simp (disch:=omega) only [pz,e,ZnW,ZW,Zb0 hs,q2]
  ·refine ⟨false,?_,?_⟩
   ·simp (disch:=omega) only [pz,ZkA]
   ·simp (disch:=omega) only [pz,]
 by_cases h5:o.Kind=5
 ·obtain ⟨cs,ci,b,j,k,l,p⟩:=Zqn hs
  have s:ZZ.mk (Ze.mk cs.Field.Prime cs.Field.Degree cs.Field.Poly) cs.Rows=cs:=rfl
  refine ⟨b,?_,?_⟩
  ·simp (disch:=omega) only [pz,j,s,l]
  ·simp (disch:=omega) only [pz,e,k,p]
 by_cases h6:o.Kind=6
 ·obtain ⟨r,j,k,_⟩:=Zvg hs
  refine ⟨r.2,?_,?_⟩
  ·simp (disch:=omega) only [pz,j]
  ·simp (disch:=omega) only [pz,e,k]
 by_cases h7:o.Kind=7
 ·obtain ⟨c,i,q2⟩:=two_q (ZCc (g:=⟨o.Size,o.Rows⟩) hs) (ZAO (g:=⟨o.Size,o.Rows⟩) hs)
  refine ⟨c,?_,?_⟩
  ·simp (disch:=omega) only [pz,i]
  ·simp (disch:=omega) only [pz,e,ZmB,Zb0 hs,q2]
 ·refine ⟨false,?_,?_⟩
  ·simp (disch:=omega) only [pz,]
  ·simp (disch:=omega) only [pz,]
open Go Go.Vc Go.Lib
theorem gFitW {a b:ByteArray} (h:a.size+b.size<=4000000000000000000):gFit a b=some ():=by
 unfold gFit
 rw [if_pos]
 have:IntKind.i64.max=9223372036854775807:=rfl
 omega
def bl (l:List UInt8):ByteArray:=⟨l.toArray⟩
theorem Zh9 (b:ByteArray):bl b.data.toList=b:=by cases b;rfl
theorem Zq4 (l:List UInt8):(bl l).size=l.length:=by show l.toArray.size=_;simp
theorem Zjy (l r:List UInt8):bl l++bl r=bl (l++r):=by
 apply ByteArray.ext
 rw [ByteArray.data_append]
 show l.toArray++r.toArray=(l++r).toArray
 simp
theorem Zcf (a b:ByteArray):(a++b).size=a.size+b.size:=by simp
theorem ZDV (x s:ByteArray):joinB [x] s=x:=by
 unfold joinB
 rw [List.map_cons,List.map_nil,join_one]
theorem ZpB (x:ByteArray) (r:List ByteArray) (s:ByteArray):joinB (x::r) s=bl (x.data.toList++joinTail s.data.toList (r.map (·.data.toList))):=by
 unfold joinB
 rw [List.map_cons,join_cons];rfl
theorem Zx0 {l:List ByteArray} (h:l≠[]) (x s:ByteArray):joinB (l++[x]) s=joinB l s++s++x:=by
 cases l with
 | nil=>exact absurd rfl h
 | cons a r=>
  rw [List.cons_append,ZpB,ZpB,List.map_append]
  conv=>rhs;rw [<-Zh9 s,<-Zh9 x,Zjy,Zjy]
  congr 1
  rw [Zh9]
  simp [joinTail]
theorem ZsT {l:List ByteArray} {s:ByteArray} {m:Nat} (h:∀ x∈l,x.size<=m):(joinB l s).size<=(m+s.size)*l.length:=by
 cases l with
 | nil=>exact Nat.zero_le _
 | cons a r=>
  have hl:∀ (r:List ByteArray),(∀ x∈r,x.size<=m)->lens (r.map (·.data.toList))<=m*r.length:=by
   intro r
   induction r with
   | nil=>intro _;exact Nat.zero_le _
   | cons b t u=>
    intro i
    have h1:=u fun x c=>i x (List.mem_cons_of_mem _ c)
    have k:=i b (List.mem_cons_self ..)
    have j:b.data.toList.length=b.size:=by rw [Array.length_toList];rfl
    simp only [lens,List.map_cons,List.sum_cons,List.length_cons] at h1 ⊢
    rw [Nat.mul_succ]
    omega
  have h1:=hl r fun x c=>h x (List.mem_cons_of_mem _ c)
  have k:=h a (List.mem_cons_self ..)
  have j:a.data.toList.length=a.size:=by rw [Array.length_toList];rfl
  have o:s.data.toList.length=s.size:=by rw [Array.length_toList];rfl
  rw [ZpB,Zq4,List.length_append,joinTail_length,List.length_map,j,o,List.length_cons,Nat.add_mul,Nat.mul_succ,Nat.mul_succ]
  omega
theorem dgl:∀ (m u:Nat),u<10^(m+1)->(decDigits u).length<=m+1:=by
 intro m
 induction m with
 | zero=>
  intro u h
  rw [decDigits,dif_pos (by simpa using h)]
  exact Nat.le_refl _
 | succ m j=>
  intro u h
  rw [decDigits]
  split
  ·simp
  ·have e:10^(m+1+1)=10^(m+1)*10:=Nat.pow_succ ..
   have:=j (u/10) ω
   rw [List.length_append,List.length_singleton]
   omega
theorem ZFA {n:Int} (m:Nat) (h1:-10^(m+1)<n) (c:n<10^(m+1)):(itoaB n).size<=m+2:=by
 have e:(10:Int)^(m+1)=((10^(m+1):Nat):Int):=by simp
 rw [e] at h1 c
 show (itoa n).toArray.size<=_
 unfold itoa
 split
 ·have:=dgl m n.natAbs ω
  simp;omega
 ·have:=dgl m n.toNat ω
  simp;omega
theorem tq (k:Int):(0<=k->Int.tmod k 10=((k.natAbs%10:Nat):Int)/\Int.tdiv k 10=((k.natAbs/10:Nat):Int))/\(k<0->Int.tmod k 10=-((k.natAbs%10:Nat):Int)/\Int.tdiv k 10=-((k.natAbs/10:Nat):Int)):=by
 refine ⟨fun h=>?_,fun h=>?_⟩
 ·rw [Int.tmod_eq_emod_of_nonneg h,Int.tdiv_eq_ediv_of_nonneg h]
  omega
 ·obtain ⟨j,rfl⟩:∃ j,k=-j:=⟨-k,by omega⟩
  rw [Int.neg_tmod,Int.neg_tdiv,Int.tmod_eq_emod_of_nonneg ω,Int.tdiv_eq_ediv_of_nonneg ω]
  omega
def nums (l:List UInt8):List Int:=l.map fun b=>(b.toNat:Int)
theorem ZIo (l:List UInt8):gByt (nums l)=some (bl l):=by
 unfold gByt
 rw [if_pos]
 ·congr 1
  unfold bstr nums bl
  congr 2
  rw [List.map_map]
  conv=>rhs;rw [<-List.map_id l]
  refine List.map_congr_left fun x _=>?_
  simp
 ·intro x c
  obtain ⟨b,_,rfl⟩:=List.mem_map.1 c
  have:=b.toNat_lt
  omega
theorem Zxb {n0 k:Int} {l:List Int} (o:¬ k=0) (h1:-9223372036854775808<=k) (i:k<=9223372036854775807) (u:l.length<=100):
  Za1 n0 (l,k)=some (.inl (((48+k.natAbs%10:Nat):Int)::l,Int.tdiv k 10)):=by
 have hm:k.natAbs%10<10:=Nat.mod_lt _ ω
 have k1:∀ d:Int,d=((k.natAbs%10:Nat):Int)->Zhl l k d=some (.inl (((48+k.natAbs%10:Nat):Int)::l,Int.tdiv k 10)):=by
  intro d hd
  have w1:ε.wrap (48+d)=48+d:=Zaj ω ω
  have w2:IntKind.u8.wrap (48+d)=48+d:=u8_of ω ω
  have c:ε.wrap (Int.tdiv k 10)=Int.tdiv k 10:=by
   by_cases hp:0<=k
   ·have:=((tq k).1 hp).2;exact Zaj ω ω
   ·have:=((tq k).2 ω).2;exact Zaj ω ω
  have g:gApp 1 [48+d] l=some ([48+d]++l):=ZaR (by simp;omega) (by simp;omega)
  unfold Zhl
  rw [w1,w2,g]
  simp (disch:=omega) only [pz,c]
  rw [hd]
  simp
 by_cases hp:0<=k
 ·have hd:=((tq k).1 hp).1
  have j:¬ Int.tmod k 10<0:=ω
  simp (disch:=omega) only [pz,Za1,k1 _ hd]
 ·have hd:=((tq k).2 ω).1
  by_cases hz:Int.tmod k 10<0
  ·have w:ε.wrap (0-Int.tmod k 10)=0-Int.tmod k 10:=Zaj ω ω
   simp (disch:=omega) only [pz,Za1,w,k1 (0-Int.tmod k 10) ω]
  ·simp (disch:=omega) only [pz,Za1,k1 (Int.tmod k 10) ω]
theorem ZE0 (n0:Int):∀ (m:Nat) (k:Int) (o:List Int),¬ k=0->k.natAbs<10^m->-9223372036854775808<=k->k<=9223372036854775807->o.length+m<=100 ->
  loop (Za1 n0) (o,k)=loop (Za1 n0) (nums (decDigits k.natAbs)++o,0):=by
 intro m
 induction m with
 | zero=>intro k o u h;exact absurd (by simp at h;omega) u
 | succ m ih=>
  intro k o u h h1 j ho
  rw [Zv (Zxb u h1 j ω)]
  have hm:k.natAbs%10<10:=Nat.mod_lt _ ω
  have y:(Int.tdiv k 10).natAbs=k.natAbs/10:=by
   by_cases hp:0<=k
   ·have:=((tq k).1 hp).2;omega
   ·have:=((tq k).2 ω).2;omega
  have c:((UInt8.ofNat (48+k.natAbs%10)).toNat:Int)=((48+k.natAbs%10:Nat):Int):=by
   rw [UInt8.toNat_ofNat'];omega
  by_cases hz:k.natAbs<10
  ·have l:Int.tdiv k 10=0:=ω
   have i:k.natAbs%10=k.natAbs:=ω
   rw [l,decDigits,dif_pos hz]
   rw [i] at c ⊢
   unfold nums
   rw [List.map_cons,List.map_nil,c];rfl
  ·have e:10^(m+1)=10^m*10:=Nat.pow_succ ..
   rw [ih (Int.tdiv k 10) _ ω (by rw [y];omega) (by
    by_cases hp:0<=k
    ·have:=((tq k).1 hp).2;omega
    ·have:=((tq k).2 ω).2;omega) (by
    by_cases hp:0<=k
    ·have:=((tq k).1 hp).2;omega
    ·have:=((tq k).2 ω).2;omega) (by rw [List.length_cons];omega),y]
   conv=>rhs;rw [decDigits,dif_neg hz]
   unfold nums
   rw [List.map_append,List.map_cons,List.map_nil,c]
   simp
theorem dgn (u:Nat):0<(decDigits u).length:=by
 rw [decDigits];split<;>simp
theorem ZoB {n:Int} (h1:-9223372036854775808<=n) (i:n<=9223372036854775807):ZfG n=some (itoaB n):=by
 unfold ZfG
 by_cases c:n=0
 ·subst c
  rw [Zc (r:=⟨#[48]⟩) (by simp (disch:=omega) only [pz,Za1,List.length_nil])]
  congr 1
  unfold itoaB itoa
  rw [if_neg ω,decDigits,dif_pos (by decide)]
  rfl
 ·rw [ZE0 n 19 n [] c ω h1 i (by decide),List.append_nil]
  have hl:=dgn n.natAbs
  have j:(nums (decDigits n.natAbs)).length=(decDigits n.natAbs).length:=List.length_map ..
  have hs:=ZIo (decDigits n.natAbs)
  have hd:=dgl 19 n.natAbs ω
  have hz:¬ ((nums (decDigits n.natAbs)).length:Int)=0:=ω
  by_cases hp:n<0
  ·have k:gFit ⟨#[45]⟩ (bl (decDigits n.natAbs))=some ():=gFitW (by rw [Zq4];show 1+_<=_;omega)
   rw [Zc (r:=(⟨#[45]⟩:ByteArray)++bl (decDigits n.natAbs)) (by simp (disch:=omega) only [pz,Za1,hs,k])]
   congr 1
   unfold itoaB itoa
   rw [if_pos hp]
   exact Zjy [45] _
  ·rw [Zc (r:=bl (decDigits n.natAbs)) (by simp (disch:=omega) only [pz,Za1,hs])]
   congr 1
   unfold itoaB itoa
   rw [if_neg hp,show n.natAbs=n.toNat by omega]
   rfl
theorem ZnV {n:Int} (h1:-9223372036854775808<=n) (c:n<=9223372036854775807):ZfR n=some (itoaB n):=by
 unfold ZfR Zmb
 rw [if_pos ⟨rfl,h1,c⟩];rfl
open Go Go.Vc Go.Lib
theorem ZvV (b:ByteArray):(⟨#[]⟩:ByteArray)++b=b:=by
 have:=Zjy [] b.data.toList
 rw [Zh9] at this
 rw [show (⟨#[]⟩:ByteArray)=bl [] from rfl,this,List.nil_append,Zh9]
theorem Zsj {l:List ByteArray} {s:ByteArray} (h1:l.length<=140737488355328) (c:(joinB l s).size<=140737488355328):Zel l s=some (joinB l s):=by
 unfold Zel
 rw [if_pos ⟨h1,c⟩]
theorem Zqo {α:Type} [Inhabited α] {xs:List α} {f:α->ByteArray} {s:ByteArray} {k:Int} (c:0<k) (h1:k<(xs.length:Int)):
  joinB ((xs.take (k+1).toNat).map f) s=joinB ((xs.take k.toNat).map f) s++s++f (ix xs k):=by
 rw [Zap ω h1,List.map_append,List.map_cons,List.map_nil,Zx0]
 intro e
 have:=congrArg List.length e
 rw [List.length_map,List.length_take,List.length_nil] at this
 omega
theorem Zva {α:Type} [Inhabited α] {xs:List α} {f:α->ByteArray} {s:ByteArray} (h1:0<(xs.length:Int)):
  joinB ((xs.take ((0:Int)+1).toNat).map f) s=f (ix xs 0):=by
 rw [Zap ω h1]
 exact ZDV _ _
theorem ZBv {α j:Type} [Inhabited α] {xs:List α} {f:α->j} {k:Int} (c:0<=k) (h1:k<(xs.length:Int)):(xs.take (k+1).toNat).map f=(xs.take k.toNat).map f++[f (ix xs k)]:=by
 rw [Zap c h1,List.map_append];rfl
theorem jsize {α:Type} {xs:List α} {f:α->ByteArray} {s:ByteArray} {m N:Nat} (j:∀ x∈xs,(f x).size<=m) (hl:xs.length<=N) (i:Nat):(joinB ((xs.take i).map f) s).size<=(m+s.size)*N:=by
 refine Nat.le_trans (ZsT (m:=m) fun y k=>?_) (Nat.mul_le_mul_left _ ?_)
 ·obtain ⟨x,c,rfl⟩:=List.mem_map.1 k
  exact j x (List.mem_of_mem_take c)
 ·rw [List.length_map,List.length_take];omega
def InR (x:Int):Prop:=-999999999<=x/\x<=999999999
theorem ZbL {x:Int} (h:InR x):(itoaB x).size<=10:=ZFA 8 (by have:=h.1;omega) (by have:=h.2;omega)
noncomputable def tL (xs:List Int):ByteArray:=@ite _ (xs.length<=100/\∀ x∈xs,InR x) (Classical.propDecidable _) (if xs=[] then ⟨#[45]⟩ else joinB (xs.map itoaB) ⟨#[44]⟩) ⟨#[]⟩
theorem tL_t {xs:List Int} (h:xs.length<=100/\∀ x∈xs,InR x) (c:xs≠[]):tL xs=joinB (xs.map itoaB) ⟨#[44]⟩:=by unfold tL;rw [if_pos h,if_neg c]
theorem tL_n {xs:List Int} (c:xs=[]):tL xs=⟨#[45]⟩:=by
 subst c
 unfold tL
 rw [if_pos ⟨by decide,fun x i=>by cases i⟩,if_pos rfl]
theorem tL_f {xs:List Int} (h:¬ (xs.length<=100/\∀ x∈xs,InR x)):tL xs=⟨#[]⟩:=by unfold tL;rw [if_neg h]
theorem ZrW (xs:List Int):(tL xs).size<=1100:=by
 by_cases c:xs=[]
 ·rw [tL_n c];show 1<=_;omega
 ·by_cases h:xs.length<=100/\∀ x∈xs,InR x
  ·rw [tL_t h c]
   have:=jsize (xs:=xs) (f:=itoaB) (s:=⟨#[44]⟩) (m:=10) (N:=100) (fun x i=>ZbL (h.2 x i)) h.1 xs.length
   rw [List.take_length] at this
   exact this
  ·rw [tL_f h];show 0<=_;omega
theorem ZGf {n:Int} (c:0<=n) (P:Int->Prop):(∃ k,0<=k/\k<n/\P k/\∀ j,0<=j->j<k->¬ P j)\/∀ j,0<=j->j<n->¬ P j:=by
 rcases Zbj (σ:=Int) (ρ:=Unit) (B:=fun k=>some (.inl (k+1))) (fun k=>k) P c (fun k _ _ _=>rfl) with ⟨k,h1,i,l,o,_⟩|⟨h,_⟩
 ·exact .inl ⟨k,h1,i,l,o⟩
 ·exact .inr h
theorem ZBg {xs:List Int} {n:Int} (l:n<=(xs.length:Int)) (h:∀ j,0<=j->j<n->InR (ix xs j)):∀ x∈xs.take n.toNat,InR x:=by
 intro x k
 obtain ⟨i,c,h1,rfl⟩:=Z0 k
 rw [List.length_take] at h1
 rw [Zct c ω]
 exact h i c ω
theorem Zrx {xs:List Int} {n:Int} (p:0<=n) (hn:n<=(xs.length:Int)) (hl:xs.length<=100) (h:∀ j,0<=j->j<n->InR (ix xs j)):
  loop (ZbY xs) (⟨#[]⟩,0)=loop (ZbY xs) (joinB ((xs.take n.toNat).map itoaB) ⟨#[44]⟩,n):=by
 refine Zj (fun k:Int=>(joinB ((xs.take k.toNat).map itoaB) ⟨#[44]⟩,k)) p fun k k0 k1=>?_
 have hk:=h k k0 k1
 have hd:=ZoB (n:=ix xs k) (by have:=hk.1;omega) (by have:=hk.2;omega)
 have hz:=ZbL hk
 have a2:(xs.take k.toNat).length<=100:=by rw [List.length_take];omega
 have hj:=ZsT (l:=(xs.take k.toNat).map itoaB) (s:=⟨#[44]⟩) (m:=10) fun y hy=>by
  obtain ⟨x,u,rfl⟩:=List.mem_map.1 hy
  exact ZbL (ZBg (n:=k) ω (fun j a b=>h j a ω) x u)
 rw [List.length_map] at hj
 have i:(joinB ((xs.take k.toNat).map itoaB) ⟨#[44]⟩).size<=1100:=Nat.le_trans hj (Nat.mul_le_mul_left 11 a2)
 have hi:Z3 (ix xs k) (-999999999) 999999999=some true:=by
  have:=hk.1;have:=hk.2
  simp (disch:=omega) only [pz,Z3]
 by_cases o:k=0
 ·subst o
  rw [Zva ω]
  have c:gFit ⟨#[]⟩ (itoaB (ix xs 0))=some ():=gFitW (by show 0+_<=_;omega)
  have e0:joinB ((xs.take (0:Int).toNat).map itoaB) ⟨#[44]⟩=⟨#[]⟩:=rfl
  rw [e0]
  simp (disch:=omega) only [pz,ZbY,ZgR,hi,hd,c,ZvV]
 ·rw [Zqo ω ω]
  generalize joinB ((xs.take k.toNat).map itoaB) ⟨#[44]⟩=a0 at i
  have f1:gFit a0 ⟨#[44]⟩=some ():=gFitW (by show a0.size+1<=_;omega)
  have c:gFit (a0++⟨#[44]⟩) (itoaB (ix xs k))=some ():=gFitW (by rw [Zcf];show a0.size+1+_<=_;omega)
  simp (disch:=omega) only [pz,ZbY,ZgR,hi,hd,f1,c]
theorem ZtY {xs:List Int}:(∀ x∈xs,InR x)↔∀ j,0<=j->j<(xs.length:Int)->InR (ix xs j):=
 ⟨fun h j a b=>h _ (Zn a b),fun h x c=>by obtain ⟨i,a,b,rfl⟩:=Z0 c;exact h i a b⟩
theorem ZxU (xs:List Int):ZiV xs=some (tL xs):=by
 unfold ZiV
 by_cases hl:xs.length<=100
 ·by_cases c:xs=[]
  ·rw [tL_n c];subst c;simp (disch:=omega) only [pz,List.length_nil]
  ·have hp:0<(xs.length:Int):=by
    cases xs with
    | nil=>exact absurd rfl c
    | cons a t=>simp
   rcases ZGf (n:=xs.length) ω (fun k=>¬ InR (ix xs k)) with ⟨k,k0,k1,hk,i⟩|i
   ·rw [tL_f fun h=>hk (ZtY.1 h.2 k k0 k1)]
    have e:=Zrx (xs:=xs) (n:=k) k0 ω hl fun j a b=>Classical.not_not.1 (i j a b)
    have hi:Z3 (ix xs k) (-999999999) 999999999=some false:=by
     by_cases h1:-999999999<=ix xs k
     ·have:¬ ix xs k<=999999999:=fun o=>hk ⟨h1,o⟩
      simp (disch:=omega) only [pz,Z3]
     ·simp (disch:=omega) only [pz,Z3]
    have l:loop (ZbY xs) (⟨#[]⟩,0)=some ⟨#[]⟩:=by
     rw [e]
     exact Zc (by simp (disch:=omega) only [pz,ZbY,hi])
    simp (disch:=omega) only [pz,l]
   ·have u:∀ j,0<=j->j<(xs.length:Int)->InR (ix xs j):=fun j a b=>Classical.not_not.1 (i j a b)
    rw [tL_t ⟨hl,ZtY.2 u⟩ c]
    have e:=Zrx (xs:=xs) (n:=xs.length) ω ω hl u
    rw [Int.toNat_natCast,List.take_length] at e
    have l:loop (ZbY xs) (⟨#[]⟩,0)=some (joinB (xs.map itoaB) ⟨#[44]⟩):=by
     rw [e]
     exact Zc (by simp (disch:=omega) only [pz,ZbY])
    simp (disch:=omega) only [pz,l]
 ·rw [tL_f fun h=>hl h.1]
  simp (disch:=omega) only [pz,]
theorem ZIx (xs:List Int):Zlt xs=some (tL xs):=by
 unfold Zlt
 by_cases hl:xs.length<=100
 ·have p:=containsL (s:=xs) (fn:=fun y0=>Zeo y0) (q:=fun x=>¬ InR x) ω fun x j=>by
   by_cases h1:-999999999<=x
   ·by_cases u:x<=999999999
    ·simp (disch:=omega) only [pz,Zeo,Zab]
     exact IsQ.f fun h=>h ⟨h1,u⟩
    ·simp (disch:=omega) only [pz,Zeo,Zab]
     exact IsQ.t fun h=>u h.2
   ·simp (disch:=omega) only [pz,Zeo,Zab]
    exact IsQ.t fun h=>h1 h.1
  by_cases ha:∀ x∈xs,InR x
  ·have c:=p.ne fun ⟨x,j,h⟩=>h (ha x j)
   by_cases o:xs=[]
   ·rw [tL_n o];subst o;simp (disch:=omega) only [pz,c,Zkj,List.length_nil]
   ·rw [tL_t ⟨hl,ha⟩ o]
    have hp:0<(xs.length:Int):=by
     cases xs with
     | nil=>exact absurd rfl o
     | cons a t=>simp
    have e:loop (ZeA xs) ([],0)=some (joinB (xs.map itoaB) ⟨#[44]⟩):=by
     have y:=Zj (B:=ZeA xs) (fun k:Int=>((xs.take k.toNat).map itoaB,k)) (i:=0) (n:=xs.length) ω fun k k0 k1=>by
      have hk:=ha _ (Zn k0 k1)
      have hd:=ZnV (n:=ix xs k) (by have:=hk.1;omega) (by have:=hk.2;omega)
      have a6:((xs.take k.toNat).map itoaB).length<=100:=by rw [List.length_map,List.length_take];omega
      rw [ZBv k0 k1]
      have hg:gApp 16 ((xs.take k.toNat).map itoaB) [itoaB (ix xs k)]=some ((xs.take k.toNat).map itoaB++[itoaB (ix xs k)]):=gApp1 ω ω
      simp (disch:=omega) only [pz,ZeA,hd,hg]
     rw [Int.toNat_natCast,List.take_length] at y
     refine y.trans (Zc ?_)
     have hj:=jsize (xs:=xs) (f:=itoaB) (s:=⟨#[44]⟩) (m:=10) (N:=100) (fun x j=>ZbL (ha x j)) hl xs.length
     rw [List.take_length] at hj
     have hq:=Zsj (l:=xs.map itoaB) (s:=⟨#[44]⟩) (by rw [List.length_map];omega) (Nat.le_trans hj (by decide))
     simp (disch:=omega) only [pz,ZeA,hq]
    simp (disch:=omega) only [pz,c,Zkj,e]
  ·have c:=p.eq (by
    refine Classical.byContradiction fun h=>ha fun x j=>Classical.not_not.1 fun hh=>h ⟨x,j,hh⟩)
   rw [tL_f fun h=>ha h.2]
   simp (disch:=omega) only [pz,c]
 ·rw [tL_f fun h=>hl h.1]
  simp (disch:=omega) only [pz,]
noncomputable def tR (rows:List (List Int)):ByteArray:=if rows=[] then ⟨#[110,111,110,101]⟩ else joinB (rows.map tL) ⟨#[47]⟩
set_option linter.unusedSectionVars false
theorem Zp6 {l:List Int} {lo hi:Int} (h:Rising l lo hi) {i:Int} (c:0<=i):∀ (d:Nat) (j:Int),j=i+1+d->j<(l.length:Int)->ix l i<ix l j
 | 0,j,hj,hl=>by
  have:=(h j ω hl).2 ω
  rw [show j-1=i by omega] at this
  exact this
 | d+1,j,hj,hl=>by
  have:=(h j ω hl).2 ω
  have k:=Zp6 h c d (j-1) ω ω
  omega
theorem ZGI {l:List Int} {lo hi:Int} (h:Rising l lo hi) {i j:Int} (c:0<=i) (h1:i<j) (k:j<(l.length:Int)):ix l i<ix l j:=Zp6 h c (j-i-1).toNat j ω k
def cntB (bs:List (List Int)) (p:List Int->Bool):Nat->Int
 | 0=>0
 | n+1=>cntB bs p n+if p (ix bs n) then 1 else 0
section
variable {d:Zaf} (hv:ValidD d)
include hv
end
def eT (e:Zb):ByteArray:=itoaB e.A++⟨#[45]⟩++itoaB e.B
noncomputable def gT (g:Za):ByteArray:=tL g.Colors++⟨#[59]⟩++joinB (g.Edges.map eT) ⟨#[44]⟩
section
variable {g:Za} (hg:ValidG g)
include hg
theorem Zpr {k:Int} (k0:0<=k) (k1:k<(g.Edges.length:Int)):InR (ix g.Edges k).A/\InR (ix g.Edges k).B:=by
 have:=(hg.edg k k0 k1).1
 have:=hg.cl
 unfold InR
 omega
theorem Zqg {k:Int} (k0:0<=k) (k1:k<(g.Edges.length:Int)):(eT (ix g.Edges k)).size<=21:=by
 obtain ⟨h1,c⟩:=Zpr hg k0 k1
 have:=ZbL h1
 have:=ZbL c
 unfold eT
 rw [Zcf,Zcf]
 show _+1+_<=21
 omega
theorem ZqY (i:Nat):(joinB ((g.Edges.take i).map eT) ⟨#[44]⟩).size<=22*512:=by
 refine jsize (xs:=g.Edges) (f:=eT) (s:=⟨#[44]⟩) (m:=21) (N:=512) (fun x c=>?_) (by have:=hg.el;omega) i
 obtain ⟨i,a,b,rfl⟩:=Z0 c
 exact Zqg hg a b
theorem Zzg:ZkV g=some (gT g):=by
 unfold ZkV
 have aa:=ZrW g.Colors
 have a9:=hg.el
 have u:gFit (tL g.Colors) ⟨#[59]⟩=some ():=gFitW (by show _+1<=_;omega)
 have hP:(tL g.Colors++(⟨#[59]⟩:ByteArray)).size<=1101:=by rw [Zcf];show _+1<=_;omega
 have hl:=ZxU g.Colors
 have e:loop (Zfw g) (tL g.Colors++(⟨#[59]⟩:ByteArray),0)=some (gT g):=by
  unfold gT
  generalize tL g.Colors++(⟨#[59]⟩:ByteArray)=P at hP
  have h:=Zj (B:=Zfw g) (fun k:Int=>(P++joinB ((g.Edges.take k.toNat).map eT) ⟨#[44]⟩,k)) (i:=0) (n:=g.Edges.length) ω fun k k0 k1=>by
   obtain ⟨hA,hB⟩:=Zpr hg k0 k1
   have dA:=ZoB (n:=(ix g.Edges k).A) (by have:=hA.1;omega) (by have:=hA.2;omega)
   have dB:=ZoB (n:=(ix g.Edges k).B) (by have:=hB.1;omega) (by have:=hB.2;omega)
   have zA:=ZbL hA
   have zB:=ZbL hB
   have hj:=ZqY hg k.toNat
   have l:gFit (itoaB (ix g.Edges k).A) ⟨#[45]⟩=some ():=gFitW (by show _+1<=_;omega)
   have o:gFit (itoaB (ix g.Edges k).A++⟨#[45]⟩) (itoaB (ix g.Edges k).B)=some ():=gFitW (by rw [Zcf];show _+1+_<=_;omega)
   have hz:(itoaB (ix g.Edges k).A++⟨#[45]⟩++itoaB (ix g.Edges k).B).size<=21:=Zqg hg k0 k1
   have a0:eT (ix g.Edges k)=itoaB (ix g.Edges k).A++⟨#[45]⟩++itoaB (ix g.Edges k).B:=rfl
   by_cases p:k=0
   ·subst p
    rw [Zva ω,a0]
    have c:P++joinB ((g.Edges.take (0:Int).toNat).map eT) ⟨#[44]⟩=P:=ByteArray.append_empty
    rw [c]
    have j:gFit P (itoaB (ix g.Edges 0).A++⟨#[45]⟩++itoaB (ix g.Edges 0).B)=some ():=gFitW ω
    simp (disch:=omega) only [pz,Zfw,ZgU,dA,dB,l,o,j]
   ·rw [Zqo ω ω,a0]
    generalize joinB ((g.Edges.take k.toNat).map eT) ⟨#[44]⟩=J at hj
    have ea:∀ E:ByteArray,P++(J++⟨#[44]⟩++E)=P++J++⟨#[44]⟩++E:=fun E=>by rw [<-ByteArray.append_assoc,<-ByteArray.append_assoc]
    rw [ea]
    have a3:(P++J).size<=20000:=by rw [Zcf];omega
    generalize P++J=Q at a3 ⊢
    have j:gFit Q ⟨#[44]⟩=some ():=gFitW (by show _+1<=_;omega)
    have y:gFit (Q++⟨#[44]⟩) (itoaB (ix g.Edges k).A++⟨#[45]⟩++itoaB (ix g.Edges k).B)=some ():=gFitW (by rw [Zcf];show _+1+_<=_;omega)
    simp (disch:=omega) only [pz,Zfw,ZgU,dA,dB,l,o,j,y]
  have c:(P,(0:Int))=(fun k:Int=>(P++joinB ((g.Edges.take k.toNat).map eT) ⟨#[44]⟩,k)) 0:=by
   have s:P++joinB ((g.Edges.take (0:Int).toNat).map eT) ⟨#[44]⟩=P:=ByteArray.append_empty
   dsimp only
   rw [s]
  rw [c,h]
  refine Zc ?_
  rw [Int.toNat_natCast,List.take_length]
  simp (disch:=omega) only [pz,Zfw]
 simp (disch:=omega) only [pz,hl,u,e]
theorem ZBs:ZjS g=some (gT g):=by
 unfold ZjS
 have a9:=ZrW g.Colors
 have a8:=hg.el
 have a7:=hg.cl
 have hv:=(Zlc (g:=g) ω ω).eq hg
 have j:gFit (tL g.Colors) ⟨#[59]⟩=some ():=gFitW (by show _+1<=_;omega)
 have hP:(tL g.Colors++(⟨#[59]⟩:ByteArray)).size<=1101:=by rw [Zcf];show _+1<=_;omega
 have hl:=ZIx g.Colors
 have y:=ZqY hg g.Edges.length
 rw [List.take_length] at y
 have c:=Zsj (l:=g.Edges.map eT) (s:=⟨#[44]⟩) (by rw [List.length_map];omega) (Nat.le_trans y (by decide))
 have e:loop (Zfi g) ([],0)=some (gT g):=by
  have h:=Zj (B:=Zfi g) (fun k:Int=>((g.Edges.take k.toNat).map eT,k)) (i:=0) (n:=g.Edges.length) ω fun k k0 k1=>by
   obtain ⟨hA,hB⟩:=Zpr hg k0 k1
   have dA:=ZnV (n:=(ix g.Edges k).A) (by have:=hA.1;omega) (by have:=hA.2;omega)
   have dB:=ZnV (n:=(ix g.Edges k).B) (by have:=hB.1;omega) (by have:=hB.2;omega)
   have zA:=ZbL hA
   have zB:=ZbL hB
   have o:gFit (itoaB (ix g.Edges k).A) ⟨#[45]⟩=some ():=gFitW (by show _+1<=_;omega)
   have p:gFit (itoaB (ix g.Edges k).A++⟨#[45]⟩) (itoaB (ix g.Edges k).B)=some ():=gFitW (by rw [Zcf];show _+1+_<=_;omega)
   have a4:eT (ix g.Edges k)=itoaB (ix g.Edges k).A++⟨#[45]⟩++itoaB (ix g.Edges k).B:=rfl
   have a3:((g.Edges.take k.toNat).map eT).length<=512:=by rw [List.length_map,List.length_take];omega
   rw [ZdR k0 k1,a4]
   generalize (g.Edges.take k.toNat).map eT=X at a3 ⊢
   have a2:gApp 16 X [itoaB (ix g.Edges k).A++⟨#[45]⟩++itoaB (ix g.Edges k).B]=some (X++[itoaB (ix g.Edges k).A++⟨#[45]⟩++itoaB (ix g.Edges k).B]):=gApp1 ω ω
   simp (disch:=omega) only [pz,Zfi,dA,dB,o,p,a2]
  refine h.trans (Zc ?_)
  rw [Int.toNat_natCast,List.take_length]
  unfold gT
  generalize joinB (g.Edges.map eT) ⟨#[44]⟩=J at y c ⊢
  have u:gFit (tL g.Colors++⟨#[59]⟩) J=some ():=gFitW ω
  simp (disch:=omega) only [pz,Zfi,hl,j,c,u]
 simp (disch:=omega) only [pz,hv,e]
end
theorem ZD5 (B:Int):Zi0 B=some (decide (1<=B/\B<=20000)):=by
 unfold Zi0
 rw [in_ok];rfl
theorem ZsB (B:Int):Zgn B=some (decide (1<=B/\B<=20000)):=by
 unfold Zgn
 rw [ZV];rfl
def s00:CSt:=⟨⟨[],[]⟩,[],0,0,false⟩
theorem ZCa {g:Za} (hg:ValidG g) {B:Int} (h1:1<=B) (j:B<=20000):∃ r,Zer g B=some r/\Zfs g B=some r:=by
 have an:=hg.cl
 have ao:=hg.el
 have ae:=(Zof (g:=g) ω ω).eq hg
 have ad:=(Zlc (g:=g) ω ω).eq hg
 have a6:=ZD5 B
 have a8:=ZsB B
 rw [decide_eq_true (And.intro h1 j)] at a6 a8
 have a9:=ZyA hg
 have a7:=ZAy hg
 have ac:=ZpI hg
 have a1:=ZlV g
 have a5:=ZtF (near:=nearM g) (c:=g.Colors) ac a1.symm
 have a3:=ZrB (near:=nearM g) (c:=g.Colors) ac a1.symm
 have hC:=Cel.ref (near:=nearM g) (cells:=g.Colors) a1.symm
 have hi:CInv B 0 s00:=⟨by show (0:Int)<=0+0;omega,by show (0:Int)<=0;omega,by show (0:Int)<=0;omega,by show (0:Int)<=B;omega⟩
 have i:Bst g s00:=fun h=>absurd rfl h
 have hm:(nearM g).length+1<=fuel:=by unfold fuel;omega
 have hd:(nearM g).length<(nearM g).length+1+cnt (refN (nearM g) g.Colors):=ω
 have rs:=Zuk hg j ((nearM g).length+1) fuel (refN (nearM g) g.Colors) s00 0 hm hC hd ω hi i
 have ri:=Zqe hg j ((nearM g).length+1) fuel (refN (nearM g) g.Colors) s00 0 hm hC hd ω hi i
 obtain ⟨k,ab⟩:=Zkm (g:=g) a1 B ((nearM g).length+1) (refN (nearM g) g.Colors) s00 hC hd i
 generalize srch g (nearM g) B ((nearM g).length+1) (refN (nearM g) g.Colors) s00=s at rs ri k ab
 have eG:Za.mk g.Colors g.Edges=g:=rfl
 have u:spS g (nearM g) B s00=⟨g,nearM g,⟨[],[]⟩,[],0,0,B,false⟩:=rfl
 have y:ipS g (nearM g) B s00=⟨⟨B,false⟩,g,nearM g,0,0,⟨[],[]⟩,[]⟩:=by
  show Zu.mk ⟨B-0,false⟩ _ _ _ _ _ _=_
  rw [Int.sub_zero];rfl
 rw [u] at rs
 rw [y] at ri
 have a4:ZmG ⟨g,nearM g,⟨[],[]⟩,[],0,0,B,false⟩ (refN (nearM g) g.Colors)=some (spS g (nearM g) B s):=rs
 have a2:Zpc ⟨⟨B,false⟩,g,nearM g,0,0,⟨[],[]⟩,[]⟩ (refN (nearM g) g.Colors)=some (ipS g (nearM g) B s):=ri
 unfold Zer Zfs ZkY Zkk Zl7 Zox
 generalize nearM g=near at a9 a7 a5 a3 a4 a2
 generalize refN near g.Colors=c0 at a5 a3 a4 a2
 by_cases hf:s.full=true
 ·refine ⟨(⟨#[]⟩,5),?_,?_⟩
  ·simp (disch:=omega) only [pz,eG,ae,a6,a9,a5,a4,spS,hf]
  ·simp (disch:=omega) only [pz,eG,ad,a8,a7,a3,a2,ipS,hf]
 ·have hf:s.full=false:=by simpa using hf
  have o:=ab hf
  obtain ⟨p,hp,ai⟩:=k o
  have af:ValidG s.best:=by rw [ai];exact ZkL hg hp
  have ts:=Zzg af
  have ti:=ZBs af
  have eB:Za.mk s.best.Colors s.best.Edges=s.best:=rfl
  have hx:gIdx s.perms 0=some (ix s.perms 0):=ZhO ω (by cases hh:s.perms with|nil=>exact absurd hh o|cons a l=>simp)
  refine ⟨(gT s.best,0),?_,?_⟩
  ·simp (disch:=omega) only [pz,eG,ae,a6,a9,a5,a4,spS,hf,eB,ts]
  ·simp (disch:=omega) only [pz,eG,ad,a8,a7,a3,a2,ipS,hf,eB,ti,hx]
theorem ZHD {g:Za} (i:g.Colors.length<=1000000) (he:g.Edges.length<=1000000) {B:Int} (h1:1<=B) (c:B<=20000):∃ r,Zer g B=some r/\Zfs g B=some r:=by
 by_cases hg:ValidG g
 ·exact ZCa hg h1 c
 ·have j:=(Zof (g:=g) ω ω).ne hg
  have l:=(Zlc (g:=g) ω ω).ne hg
  have k:Za.mk g.Colors g.Edges=g:=rfl
  refine ⟨(⟨#[]⟩,1),?_,?_⟩
  ·unfold Zer Zl7
   simp (disch:=omega) only [pz,k,j]
  ·unfold Zfs ZkY Zkk
   simp (disch:=omega) only [pz,k,l]
def wd (f:Ze) (q w:Int) (m:List (List Int)):Nat->Int->List Int
 | 0,_=>tabl w fun _=>0
 | i+1,n=>tabl w fun t=>sumA f (ix (wd f q w m i (n/q)) t) (mulA f (ix (ix m (i:Int)) t) (n%q)) 1
section
variable {f:Ze} {q:Int} {inv:List Int} (hF:Ff f q inv)
include hF
theorem add0 {a:Int} (c:0<=a) (i:a<q):sumA f a 0 1=a:=by
 have h:=hF.sub a 0 c i ω ω
 rw [hF.z2 0 ω ω,hF.z2 a c i] at h
 exact h.symm
variable {w:Int} {m:List (List Int)}
theorem ZhL (w0:0<=w):∀ (i:Nat) (n:Int),((wd f q w m i n).length:Int)=w
 | 0,_=>by rw [wd,Zl];omega
 | i+1,_=>by rw [wd,Zl];omega
theorem wd_in (w0:0<=w):∀ (i:Nat) (n:Int),In q (wd f q w m i n)
 | 0,n=>fun t c j=>by
  have:=ZhL hF (m:=m) w0 0 n
  have:=hF.q2
  rw [wd,ZH c ω];omega
 | i+1,n=>fun t c j=>by
  have:=ZhL hF (m:=m) w0 (i+1) n
  rw [wd,ZH c ω]
  exact Zj3 hF.fd hF.pw _ _ _
variable (hm:Mat q w m)
include hm
end
def wtN (r:List Int):Nat->Int
 | 0=>0
 | n+1=>wtN r n+if ix r (n:Int)=0 then 0 else 1
def wt (r:List Int):Int:=wtN r r.length
theorem gAppV {xs:List (List Int)} {y:List Int} (h:xs.length<=100000):gApp 24 xs [y]=some (xs++[y]):=gApp1 ω ω
theorem ZDI {xs:List Int} (hl:xs.length<=1000):Zml xs=some (tabl xs.length fun t=>ix xs ((xs.length:Int)-1-t)):=by
 unfold Zml
 have e:=Zj (B:=ZgH) (fun i:Int=>(i,(xs.length:Int)-1-i,tabl xs.length fun t=>if t<i\/(xs.length:Int)-1-i<t then ix xs ((xs.length:Int)-1-t) else ix xs t)) (i:=0) (n:=(xs.length:Int)/2) ω fun i k s=>by
  have u:((tabl xs.length fun t=>if t<i\/(xs.length:Int)-1-i<t then ix xs ((xs.length:Int)-1-t) else ix xs t).length:Int)=xs.length:=by rw [Zl];omega
  have x1:ix (tabl xs.length fun t=>if t<i\/(xs.length:Int)-1-i<t then ix xs ((xs.length:Int)-1-t) else ix xs t) i=ix xs i:=by rw [ZH k ω,if_neg ω]
  have x2:ix (tabl xs.length fun t=>if t<i\/(xs.length:Int)-1-i<t then ix xs ((xs.length:Int)-1-t) else ix xs t) ((xs.length:Int)-1-i)=ix xs ((xs.length:Int)-1-i):=by rw [ZH ω ω,if_neg ω]
  have hs:((tabl xs.length fun t=>if t<i\/(xs.length:Int)-1-i<t then ix xs ((xs.length:Int)-1-t) else ix xs t).set i.toNat (ix xs ((xs.length:Int)-1-i))).set ((xs.length:Int)-1-i).toNat (ix xs i)=tabl xs.length fun t=>if t<i+1\/(xs.length:Int)-1-(i+1)<t then ix xs ((xs.length:Int)-1-t) else ix xs t:=by
   rw [Zak (n:=(xs.length:Int)) (f:=fun t=>if t<i\/(xs.length:Int)-1-i<t then ix xs ((xs.length:Int)-1-t) else ix xs t) (g:=fun t=>if t<i+1\/(xs.length:Int)-1-i<t then ix xs ((xs.length:Int)-1-t) else ix xs t) k ω (fun t c j y=>by
    by_cases h:t<i\/(xs.length:Int)-1-i<t
    ·rw [if_pos h,if_pos ω]
    ·rw [if_neg h,if_neg ω]) (by rw [if_pos ω])]
   refine Zak ω ω (fun t c j y=>?_) ?_
   ·by_cases h:t<i+1\/(xs.length:Int)-1-i<t
    ·rw [if_pos h,if_pos ω]
    ·rw [if_neg h,if_neg ω]
   ·rw [if_pos ω,show (xs.length:Int)-1-((xs.length:Int)-1-i)=i by omega]
  have ej:(xs.length:Int)-1-i-1=(xs.length:Int)-1-(i+1):=ω
  generalize (tabl xs.length fun t=>if t<i\/(xs.length:Int)-1-i<t then ix xs ((xs.length:Int)-1-t) else ix xs t)=A at u x1 x2 hs ⊢
  have l:(A.set i.toNat (ix xs ((xs.length:Int)-1-i))).length=A.length:=List.length_set
  simp (disch:=omega) only [pz,ZgH,x1,x2,l,hs,ej]
 have o:((0:Int),ε.wrap ((xs.length:Int)-1),xs)=(fun i:Int=>(i,(xs.length:Int)-1-i,tabl xs.length fun t=>if t<i\/(xs.length:Int)-1-i<t then ix xs ((xs.length:Int)-1-t) else ix xs t)) 0:=by
  show _=((0:Int),_,_)
  rw [wr64 ω ω]
  congr 1
  congr 1
  ·omega
  ·refine (Zbg xs).symm.trans (ZM fun t c j=>?_)
   rw [if_neg ω]
 rw [o,e]
 have p:(tabl xs.length fun t=>if t<(xs.length:Int)/2\/(xs.length:Int)-1-(xs.length:Int)/2<t then ix xs ((xs.length:Int)-1-t) else ix xs t)=tabl xs.length fun t=>ix xs ((xs.length:Int)-1-t):=ZM fun t c j=>by
  by_cases h:t<(xs.length:Int)/2\/(xs.length:Int)-1-(xs.length:Int)/2<t
  ·rw [if_pos h]
  ·rw [if_neg h,show (xs.length:Int)-1-t=t by omega]
 refine Zc ?_
 simp (disch:=omega) only [pz,ZgH,p]
theorem pw_lo {p:Int} (hp:2<=p) {a b:Nat} (h:a<=b):pwN p a<=pwN p b:=by
 have:=Zl5 hp (m:=a) (b-a)
 rwa [show a+(b-a)=b by omega] at this
theorem pwU {q:Int} (q2:2<=q) {k:Nat} (hk:k<=64) (h:pwN q k<=4096):Zbo q (k:Int) 4096=some (pwN q k):=by
 unfold Zbo
 have e:=Zj (B:=ZaV q 4096) (fun j:Int=>((k:Int)-j,pwN q j.toNat)) (i:=0) (n:=(k:Int)) ω fun j o s=>by
  have h1:=pw_lo q2 (a:=j.toNat) (b:=k) ω
  have u:=pw_lo q2 (a:=j.toNat+1) (b:=k) ω
  have y:=Zbb (p:=q) q2 j.toNat
  have h4:=Zbb (p:=q) q2 (j.toNat+1)
  have ee:(k:Int)-j-1=(k:Int)-(j+1):=ω
  have c:pwN q (j+1).toNat=pwN q j.toNat*q:=by rw [show (j+1).toNat=j.toNat+1 by omega];rfl
  have h5:pwN q j.toNat*q<=4096:=by have:pwN q (j.toNat+1)=pwN q j.toNat*q:=rfl;omega
  have h6:1<=pwN q j.toNat*q:=by have:pwN q (j.toNat+1)=pwN q j.toNat*q:=rfl;omega
  rw [c]
  simp (disch:=omega) only [pz,ZaV,ZfK,ee]
 have l:((k:Int)-0,pwN q (0:Int).toNat)=((k:Int),(1:Int)):=by simp [pwN]
 rw [l] at e
 rw [e]
 exact Zc (by simp (disch:=omega) only [pz,ZaV])
theorem Zyv {q:Int} (q2:2<=q) (q64:q<=64) {k:Nat} (hk:k<=64) {cs:Int} (h:loop (ZbB q) ((k:Int),1)=some cs) (l:¬ cs=0):pwN q k<=4096:=by
 have st:∀ j:Nat,pwN q (j+1)=pwN q j*q:=fun _=>rfl
 have o:((k:Int),(1:Int))=(fun j:Int=>((k:Int)-j,pwN q j.toNat)) 0:=by simp [pwN]
 rw [o] at h
 rcases Zbj (B:=ZbB q) (fun j:Int=>((k:Int)-j,pwN q j.toNat)) (fun j=>4096<pwN q (j.toNat+1)) (i:=0) (n:=(k:Int)) ω (fun j s u y=>by
  have h3:=Zbb (p:=q) q2 j.toNat
  have h4:=Zbb (p:=q) q2 (j.toNat+1)
  have ee:(k:Int)-j-1=(k:Int)-(j+1):=ω
  have e2:pwN q (j+1).toNat=pwN q j.toNat*q:=by rw [show (j+1).toNat=j.toNat+1 by omega];rfl
  have c:=st j.toNat
  rw [e2]
  rw [c] at y h4
  simp (disch:=omega) only [pz,ZbB,ee]) with ⟨j,s,u,hj,hall,e⟩|⟨hall,_⟩
 ·refine absurd ?_ l
  have h3:=Zbb (p:=q) q2 j.toNat
  have h6:pwN q j.toNat<=4096:=by
   by_cases hz:j=0
   ·rw [hz];show (1:Int)<=4096;omega
   ·have:=hall (j-1) ω ω
    rw [show (j-1).toNat+1=j.toNat by omega] at this
    omega
  have c:=st j.toNat
  rw [c] at hj
  have h7:pwN q j.toNat*q<=4096*64:=Int.mul_le_mul h6 q64 ω ω
  have e1:loop (ZbB q) ((k:Int)-j,pwN q j.toNat)=some 0:=by
   refine Zc ?_
   simp (disch:=omega) only [pz,ZbB]
  rw [e] at h
  exact (Option.some.inj (h.symm.trans e1))
 ·by_cases hz:k=0
  ·rw [hz];show (1:Int)<=4096;omega
  ·have:=hall ((k:Int)-1) ω ω
   rw [show ((k:Int)-1).toNat+1=k by omega] at this
   omega
def cwN (ws:List (List Int)) (w:Int) (m:Nat):List Int:=tabl (w+1) fun y=>cntB ws (fun r=>decide (wt r=y)) m
section
variable {f:Ze} {q:Int} {inv:List Int} (hF:Ff f q inv)
include hF
theorem ZET {a b:List Int} (ha:In q a) (s:In q b) (hl:(a.length:Int)<=64) (he:b.length=a.length):Zkq f a b=some (tabl a.length fun t=>sumA f (ix a t) (ix b t) 1):=by
 have hq:=hF.q64
 have hp:=hF.fd.p2
 unfold Zkq
 have a0:=Zau (b:=8) (z:=(0:Int)) (n:=(a.length:Int)) ω ω ω
 have e:=Zj (B:=ZdL f a b) (fun t:Int=>(t,tabl a.length fun u=>if u<t then sumA f (ix a u) (ix b u) 1 else 0)) (i:=0) (n:=(a.length:Int)) ω fun t j k=>by
  obtain ⟨y,g2⟩:=ha t j k
  obtain ⟨g3,g4⟩:=s t j ω
  have hL:((tabl a.length fun u=>if u<t then sumA f (ix a u) (ix b u) 1 else 0).length:Int)=a.length:=by rw [Zl];omega
  have hs:(tabl a.length fun u=>if u<t then sumA f (ix a u) (ix b u) 1 else 0).set t.toNat (sumA f (ix a t) (ix b t) 1)=tabl a.length fun u=>if u<t+1 then sumA f (ix a u) (ix b u) 1 else 0:=by
   refine Zak j k (fun u l o hu=>?_) (by rw [if_pos ω])
   by_cases h:u<t
   ·rw [if_pos h,if_pos ω]
   ·rw [if_neg h,if_neg ω]
  generalize (tabl a.length fun u=>if u<t then sumA f (ix a u) (ix b u) 1 else 0)=A at hL hs ⊢
  by_cases hz:ix b t=0
  ·rw [hz,add0 hF y g2] at hs
   simp (disch:=omega) only [pz,ZdL,hs]
  ·have hS:=Zuh hF.fd (a:=ix a t) (b:=ix b t) (c:=1) ω ω ω ω ω ω
   simp (disch:=omega) only [pz,ZdL,hS,hs]
 have e0:(tabl a.length fun u=>if u<(0:Int) then sumA f (ix a u) (ix b u) 1 else 0)=List.replicate (a.length:Int).toNat 0:=by
  rw [Zfn]
  exact ZM fun u l _=>by rw [if_neg ω]
 have e1:(tabl a.length fun u=>if u<(a.length:Int) then sumA f (ix a u) (ix b u) 1 else 0)=tabl a.length fun t=>sumA f (ix a t) (ix b t) 1:=ZM fun u l o=>by rw [if_pos o]
 rw [e0,e1] at e
 have p:loop (ZdL f a b) (0,List.replicate (a.length:Int).toNat 0)=some (tabl a.length fun t=>sumA f (ix a t) (ix b t) 1):=e.trans (Zc (by simp (disch:=omega) only [pz,ZdL]))
 rw [Int.toNat_natCast] at a0 p
 simp (disch:=omega) only [pz,a0,p]
theorem ZCQ {v w:List Int} {c:Int} (hv:In q v) (hw:In q w) (hl:(v.length:Int)<=64) (he:w.length=v.length) (l:0<=c) (c1:c<q):
  ZcL (tabs f q inv) v w c=some (tabl v.length fun t=>sumA f (ix v t) (mulA f (ix w t) c) 1):=by
 have hq:=hF.q64
 unfold ZcL
 have a0:=Zj (B:=Zb7 (tabs f q inv) w c) (fun t=>(t,tabl v.length fun u=>if u<t then sumA f (ix v u) (mulA f (ix w u) c) 1 else ix v u)) (i:=0) (n:=v.length) ω fun t j k=>by
  obtain ⟨y,g2⟩:=hv t j k
  obtain ⟨o,p⟩:=hw t j ω
  have a9:(tabl v.length fun u=>if u<t then sumA f (ix v u) (mulA f (ix w u) c) 1 else ix v u).length=v.length:=by rw [Zl];omega
  have s:ix (tabl v.length fun u=>if u<t then sumA f (ix v u) (mulA f (ix w u) c) 1 else ix v u) t=ix v t:=by rw [ZH j k,if_neg ω]
  obtain ⟨m0,m1⟩:=Zc3 hF.fd hF.pw c (ix w t)
  have hs:(tabl v.length fun u=>if u<t then sumA f (ix v u) (mulA f (ix w u) c) 1 else ix v u).set t.toNat (sumA f (ix v t) (mulA f c (ix w t)) 1)=tabl v.length fun u=>if u<t+1 then sumA f (ix v u) (mulA f (ix w u) c) 1 else ix v u:=by
   apply Zak j k
   ·intro u u0 u1 u2
    by_cases h:u<t
    ·rw [if_pos h,if_pos (show u<t+1 by omega)]
    ·rw [if_neg h,if_neg (show ¬ u<t+1 by omega)]
   ·rw [if_pos ω,hF.comm c _ l c1 o p]
  have i2:gIdx (tabs f q inv).qadd (ix v t)=some (tabl q fun b=>sumA f (ix v t) b 1):=by rw [Zu8,Zay y g2]
  have i3:gIdx (tabs f q inv).qmul c=some (tabl q fun b=>mulA f c b):=by rw [Zmi,Zay l c1]
  have i4:gIdx (tabl q fun b=>mulA f c b) (ix w t)=some (mulA f c (ix w t)):=Zay o p
  have i5:gIdx (tabl q fun b=>sumA f (ix v t) b 1) (mulA f c (ix w t))=some (sumA f (ix v t) (mulA f c (ix w t)) 1):=Zay m0 m1
  simp (disch:=omega) only [pz,Zb7,s,i2,i3,i4,i5,hs]
 have e0:((0:Int),v)=(fun t=>(t,tabl v.length fun u=>if u<t then sumA f (ix v u) (mulA f (ix w u) c) 1 else ix v u)) 0:=by
  show _=((0:Int),_)
  congr 1
  refine (Zbg v).symm.trans (ZM fun t j k=>?_)
  rw [if_neg ω]
 rw [e0,a0]
 refine Zc ?_
 have e1:(tabl v.length fun u=>if u<(v.length:Int) then sumA f (ix v u) (mulA f (ix w u) c) 1 else ix v u)=tabl v.length fun t=>sumA f (ix v t) (mulA f (ix w t) c) 1:=ZM fun t j k=>by rw [if_pos k]
 simp (disch:=omega) only [pz,Zb7,e1]
variable {w:Int} {m:List (List Int)} (hm:Mat q w m)
include hm
theorem ZEu (w0:0<=w) (m1:1<=(m.length:Int)) (ag:∀ {g:Ze},True) {n:Int} (n0:0<=n) (n1:n<=4096):
  ∃ a0,Zle n q (m.length:Int)=some a0/\Zjo (tabs f q inv) m a0=some (wd f q w m m.length n):=by
 have s:=hF.q64
 have l:=hF.q2
 have ah:=hm.n
 have a5:=hm.w1
 have hd:=ZgO (p:=q) (a:=n) (k:=(m.length:Int)) n0 ω l s ω ω
 have a4:=ZaG (p:=q) (a:=n) (k:=(m.length:Int)) ω
 have hr:=ZDI (xs:=dig q m.length n) ω
 refine ⟨_,by unfold Zle;rw [hd,Option.bind_some,hr,Option.bind_some],?_⟩
 rw [a4]
 have o:=hm.len 0 ω ω
 have a2:=Zau (b:=8) (z:=(0:Int)) (n:=w) ω ω ω
 generalize hM:(tabl (m.length:Int) fun t=>ix (dig q m.length n) ((m.length:Int)-1-t))=a0
 have ai:(a0.length:Int)=m.length:=by rw [<-hM,Zl];omega
 have a6:∀ i,0<=i->i<(m.length:Int)->ix a0 i=qd q n ((m.length:Int)-(i+1)).toNat%q:=fun i c j=>by
  rw [<-hM,ZH c j,show (m.length:Int)-1-i=(m.length:Int)-(i+1) by omega]
  unfold dig
  exact ZH ω ω
 have e:=Zj (B:=Ze7 (tabs f q inv) m a0) (fun i:Int=>(i,wd f q w m i.toNat (qd q n ((m.length:Int)-i).toNat))) (i:=0) (n:=(m.length:Int)) ω fun i c j=>by
  have u:=a6 i c j
  have af:=(ZfM (p:=q) n0 l ((m.length:Int)-(i+1)).toNat).1
  have y:=Int.emod_nonneg (qd q n ((m.length:Int)-(i+1)).toNat) (b:=q) ω
  have c1:=Int.emod_lt_of_pos (qd q n ((m.length:Int)-(i+1)).toNat) (b:=q) ω
  have a7:=ZhL hF (m:=m) w0 i.toNat (qd q n ((m.length:Int)-i).toNat)
  have a8:=wd_in hF (m:=m) w0 i.toNat (qd q n ((m.length:Int)-i).toNat)
  have aj:=hm.len i c j
  have hA:=ZCQ hF (v:=wd f q w m i.toNat (qd q n ((m.length:Int)-i).toNat)) (w:=ix m i) a8 (hm.rng i c j) ω ω y c1
  have e2:qd q n ((m.length:Int)-i).toNat=qd q n ((m.length:Int)-(i+1)).toNat/q:=by
   rw [show ((m.length:Int)-i).toNat=((m.length:Int)-(i+1)).toNat+1 by omega];rfl
  have e3:wd f q w m (i+1).toNat (qd q n ((m.length:Int)-(i+1)).toNat)=tabl w fun t=>sumA f (ix (wd f q w m i.toNat (qd q n ((m.length:Int)-i).toNat)) t) (mulA f (ix (ix m i) t) (qd q n ((m.length:Int)-(i+1)).toNat%q)) 1:=by
   rw [show (i+1).toNat=i.toNat+1 by omega,wd,e2,show ((i.toNat:Nat):Int)=i by omega]
  rw [e3]
  rw [a7] at hA
  have eT:Z2.mk (tabs f q inv).qq (tabs f q inv).qadd (tabs f q inv).qsub (tabs f q inv).qmul (tabs f q inv).qinv=tabs f q inv:=rfl
  rw [<-u] at hA ⊢
  generalize tabs f q inv=T at hA eT ⊢
  generalize wd f q w m i.toNat (qd q n ((m.length:Int)-i).toNat)=V at hA ⊢
  simp (disch:=omega) only [pz,Ze7,eT,hA]
 have e0:wd f q w m (0:Int).toNat (qd q n ((m.length:Int)-0).toNat)=List.replicate w.toNat 0:=by
  rw [Zfn];rfl
 have e9:wd f q w m (m.length:Int).toNat (qd q n ((m.length:Int)-(m.length:Int)).toNat)=wd f q w m m.length n:=by
  rw [Int.sub_self,Int.toNat_natCast];rfl
 rw [e0,e9] at e
 have e1:loop (Ze7 (tabs f q inv) m a0) (0,List.replicate w.toNat 0)=some (wd f q w m m.length n):=e.trans (Zc (by simp (disch:=omega) only [pz,Ze7]))
 unfold Zjo
 simp (disch:=omega) only [pz,o,a2,e1]
theorem Zwd (w0:0<=w) (j:1<=(m.length:Int)) (hs:Zba f=some q) (hN:pwN q m.length<=4096):ZiP ⟨f,m⟩=some (tabl (pwN q m.length) (wd f q w m m.length)):=by
 have a4:=hm.n
 have ht:=ZuU hF hs
 have hp:=pwU hF.q2 (k:=m.length) ω hN
 have hP:=Zbb (p:=q) hF.q2 m.length
 have e:=Zj (B:=Ze0 ⟨f,m⟩ (tabs f q inv) m.length (pwN q m.length)) (fun n:Int=>(tabl n (wd f q w m m.length),n)) (i:=0) (n:=pwN q m.length) ω fun n n0 n1=>by
  obtain ⟨a3,h1,c⟩:=ZEu hF hm w0 j (fun {_}=>trivial) n0 ω
  have eT:Z2.mk (tabs f q inv).qq (tabs f q inv).qadd (tabs f q inv).qsub (tabs f q inv).qmul (tabs f q inv).qinv=tabs f q inv:=rfl
  have o:(tabs f q inv).qq=q:=rfl
  have u:Z2.mk q (tabs f q inv).qadd (tabs f q inv).qsub (tabs f q inv).qmul (tabs f q inv).qinv=tabs f q inv:=rfl
  have hl:(tabl n (wd f q w m m.length)).length=n.toNat:=Zl
  have hg:=gAppV (xs:=tabl n (wd f q w m m.length)) (y:=wd f q w m m.length n) ω
  rw [<-ZX n0] at hg
  generalize tabs f q inv=T at c eT u o ⊢
  simp (disch:=omega) only [pz,Ze0,u,o,h1,c,hg]
 have l:loop (Ze0 ⟨f,m⟩ (tabs f q inv) m.length (pwN q m.length)) ([],0)=some (tabl (pwN q m.length) (wd f q w m m.length)):=e.trans (Zc (by simp (disch:=omega) only [pz,Ze0]))
 have eF:Ze.mk f.Prime f.Degree f.Poly=f:=rfl
 have o:(tabs f q inv).qq=q:=rfl
 unfold ZiP
 simp (disch:=omega) only [pz,eF,ht,Z6,o,hp,l]
theorem Zzf (w0:0<=w) (m1:1<=(m.length:Int)) (hs:Za8 f=some q) (hN:pwN q m.length<=4096):ZjU ⟨f,m⟩=some (tabl (pwN q m.length) (wd f q w m m.length)):=by
 have au:=hm.n
 have a7:=hm.w1
 have c:=hF.q2
 have a0:=hF.q64
 have eF:Ze.mk f.Prime f.Degree f.Poly=f:=rfl
 have l:=hm.len 0 ω ω
 have a5:=Zau (b:=8) (z:=(0:Int)) (n:=w) ω ω ω
 have e:=Zj (B:=ZeE ⟨f,m⟩ q) (fun i:Int=>(tabl (pwN q i.toNat) (wd f q w m i.toNat),i)) (i:=0) (n:=(m.length:Int)) ω fun i o s=>by
  have aw:=hm.len i o s
  have a9:=hm.rng i o s
  have aa:=Zbb (p:=q) c i.toNat
  have ae:pwN q i.toNat*q<=4096:=by
   have h1:pwN q (i.toNat+1)=pwN q i.toNat*q:=rfl
   have h2:=pw_lo c (a:=i.toNat+1) (b:=m.length) ω
   omega
  have eP:pwN q (i+1).toNat=pwN q i.toNat*q:=by rw [show (i+1).toNat=i.toNat+1 by omega];rfl
  have hY:((tabl (pwN q i.toNat) (wd f q w m i.toNat)).length:Int)=pwN q i.toNat:=by rw [Zl];omega
  have a1:∀ k,0<=k->k<pwN q i.toNat->ix (tabl (pwN q i.toNat) (wd f q w m i.toNat)) k=wd f q w m i.toNat k:=fun k k0 k1=>ZH k0 k1
  have hM:((tabl q fun x=>scl f (ix m i) x).length:Int)=q:=by rw [Zl];omega
  have ac:∀ x,0<=x->x<q->ix (tabl q fun x=>scl f (ix m i) x) x=scl f (ix m i) x:=fun x x0 x1=>ZH x0 x1
  rw [eP]
  generalize ab:tabl (pwN q i.toNat) (wd f q w m i.toNat)=Y at hY a1 ⊢
  generalize pwN q i.toNat=P at aa ae hY a1 ab ⊢
  have ax:P*1<=P*q:=Int.mul_le_mul_of_nonneg_left ω ω
  have b4:∀ k,0<=k->k<P->loop (Zfd ⟨f,m⟩ q Y (tabl q fun x=>scl f (ix m i) x) k) (tabl (k*q) (wd f q w m (i+1).toNat),0)=some (.inl (tabl ((k+1)*q) (wd f q w m (i+1).toNat),k+1)):=fun k k0 k1=>by
   have ar:0<=k*q:=Int.mul_nonneg k0 ω
   have a8:(k+1)*q<=P*q:=Int.mul_le_mul_of_nonneg_right ω ω
   have u:(k+1)*q=k*q+q:=by rw [Int.add_mul,Int.one_mul]
   have e:=Zj (B:=Zfd ⟨f,m⟩ q Y (tabl q fun x=>scl f (ix m i) x) k) (fun x:Int=>(tabl (k*q+x) (wd f q w m (i+1).toNat),x)) (i:=0) (n:=q) ω fun x x0 x1=>by
    have hl:((tabl (k*q+x) (wd f q w m (i+1).toNat)).length:Int)=k*q+x:=by rw [Zl];omega
    have ag:=a1 k k0 k1
    have a4:=ac x x0 x1
    have ad:=ZhL hF (m:=m) w0 i.toNat k
    have af:=wd_in hF (m:=m) w0 i.toNat k
    have av:(scl f (ix m i) x).length=(ix m i).length:=Zif
    have a2:=ZET hF (a:=wd f q w m i.toNat k) (b:=scl f (ix m i) x) af (Zk2 hF) ω ω
    have eW:(tabl ((wd f q w m i.toNat k).length:Int) fun t=>sumA f (ix (wd f q w m i.toNat k) t) (ix (scl f (ix m i) x) t) 1)=wd f q w m (i+1).toNat (k*q+x):=by
     rw [show (i+1).toNat=i.toNat+1 by omega,wd,ad]
     have j:(k*q+x)/q=k:=by rw [Int.add_comm,Int.add_mul_ediv_right _ _ ω,Int.ediv_eq_zero_of_lt x0 x1];omega
     have e2:(k*q+x)%q=x:=by rw [Int.add_comm,Int.add_mul_emod_self_right,Int.emod_eq_of_lt x0 x1]
     rw [j,e2,show ((i.toNat:Nat):Int)=i by omega]
     refine ZM fun t t0 t1=>?_
     congr 1
     exact ZH t0 ω
    rw [eW] at a2
    have hg:=gAppV (xs:=tabl (k*q+x) (wd f q w m (i+1).toNat)) (y:=wd f q w m (i+1).toNat (k*q+x)) ω
    rw [<-ZX ω] at hg
    have ea:k*q+(x+1)=k*q+x+1:=ω
    rw [ea]
    simp (disch:=omega) only [pz,Zfd,ag,a4,eF,a2,hg]
   rw [Int.add_zero] at e
   rw [e,u]
   exact Zc (by simp (disch:=omega) only [pz,Zfd])
  have b3:loop (ZfT ⟨f,m⟩ q Y i (tabl q fun x=>scl f (ix m i) x)) ([],0)=some (.inr (.inl (tabl (P*q) (wd f q w m (i+1).toNat),i+1))):=by
   have e:=Zj (B:=ZfT ⟨f,m⟩ q Y i (tabl q fun x=>scl f (ix m i) x)) (fun k:Int=>(tabl (k*q) (wd f q w m (i+1).toNat),k)) (i:=0) (n:=P) ω fun k k0 k1=>by
    have:=b4 k k0 k1
    simp (disch:=omega) only [pz,ZfT,this]
   rw [Int.zero_mul] at e
   exact e.trans (Zc (by simp (disch:=omega) only [pz,ZfT]))
  have b2:loop (ZeW ⟨f,m⟩ q Y i) ([],0)=some (.inl (tabl (P*q) (wd f q w m (i+1).toNat),i+1)):=by
   have e:=Zj (B:=ZeW ⟨f,m⟩ q Y i) (fun x:Int=>(tabl x fun x=>scl f (ix m i) x,x)) (i:=0) (n:=q) ω fun x x0 x1=>by
    have ah:=Zp5 hF a9 ω x0 x1
    have hl:((tabl x fun x=>scl f (ix m i) x).length:Int)=x:=by rw [Zl];omega
    have hg:=gAppV (xs:=tabl x fun x=>scl f (ix m i) x) (y:=scl f (ix m i) x) ω
    rw [<-ZX (f:=fun x=>scl f (ix m i) x) x0] at hg
    simp (disch:=omega) only [pz,ZeW,eF,ah,hg]
   exact e.trans (Zc (by simp (disch:=omega) only [pz,ZeW,b3]))
  simp (disch:=omega) only [pz,ZeE,b2]
 have e0:tabl (pwN q (0:Int).toNat) (wd f q w m (0:Int).toNat)=[List.replicate w.toNat 0]:=by
  rw [Zfn];rfl
 rw [e0,Int.toNat_natCast] at e
 have j:loop (ZeE ⟨f,m⟩ q) ([List.replicate w.toNat 0],0)=some (tabl (pwN q m.length) (wd f q w m m.length)):=e.trans (Zc (by simp (disch:=omega) only [pz,ZeE]))
 unfold ZjU
 simp (disch:=omega) only [pz,eF,l,a5,hs,j]
end
structure CodeV (o:Zg) (f:Ze) (inv:List Int):Prop where
 F:Ff f o.Size inv
 si:Zba f=some o.Size
 ss:Za8 f=some o.Size
 M:VMat o.Size o.Rows
 r8:(o.Rows.length:Int)<=8
 few:pwN o.Size o.Rows.length<=4096
 form:ZhN f o.Rows=some o.Rows
 cs:Zbs o=some ⟨f,o.Rows⟩
 ci:ZcY o=some ⟨f,o.Rows⟩
 oks:ZaI ⟨f,o.Rows⟩=some true
 oki:ZdV ⟨f,o.Rows⟩=some true
theorem Zyq {o:Zg} (hs:Sz2 o.Rows) (h:Zat o=some true) (hk:o.Kind=5):∃ f inv,CodeV o f inv:=by
 obtain ⟨cs,ci,b,j,u,c,g4⟩:=Zqn hs
 have e2:ZZ.mk (Ze.mk cs.Field.Prime cs.Field.Degree cs.Field.Poly) cs.Rows=cs:=rfl
 have y:Zat o=some b:=by unfold Zat;simp (disch:=omega) only [pz,j,e2,c]
 rw [h] at y
 obtain rfl:b=true:=(Option.some.inj y).symm
 rcases Zqm o.Size with ⟨f,hm⟩|⟨h1,e,h2⟩
 ·obtain ⟨inv,hF⟩:=Zrn hm.gf
  have eF:Ze.mk f.Prime f.Degree f.Poly=f:=rfl
  have l:Zbs o=some ⟨f,o.Rows⟩:=by
   have hp:=hF.fd.p2
   unfold Zbs
   rw [hm.split]
   simp (disch:=omega) only [pz,hm.mks,eF]
  have a2:ZcY o=some ⟨f,o.Rows⟩:=by
   unfold ZcY
   rw [Zb0 hs,hm.mki]
   simp (disch:=omega) only [pz,eF]
  rw [l] at j
  rw [a2] at u
  obtain rfl:=Option.some.inj j
  obtain rfl:=Option.some.inj u
  have p:=hF.q2
  have i:=hF.q64
  have hN:=hs.1
  by_cases hV:VMat o.Size o.Rows
  ·have k:=(Zjh hm p i hs).eq hV
   have n1:=hV.n1;have w2:=hV.w2;have w1:=hV.w1
   by_cases h8:(o.Rows.length:Int)<=8
   ·obtain ⟨cs,ci,k1,k2,k3⟩:=Zph p i o.Rows.length 1 ω ω ω
    have c1:ZjP o.Size (o.Rows.length:Int)=some cs:=k1
    by_cases hz:cs=0
    ·have:ZaI ⟨f,o.Rows⟩=some false:=by
      unfold ZaI Zdj
      simp (disch:=omega) only [pz,eF,k,hm.szs,c1]
     rw [this] at c;cases c
    ·have a3:=Zyv p i ω k1 hz
     obtain ⟨R,piv,d,s,r2,r3,r4⟩:=ZqA hF hs hV.mat ω n1
     obtain ⟨b,s1,s3⟩:=ZoS (a:=R) (b:=o.Rows) ω r4
     have:ZaI ⟨f,o.Rows⟩=some b:=by
      unfold ZaI Zdj
      simp (disch:=omega) only [pz,eF,k,hm.szs,c1,s,s1]
     rw [this] at c
     rw [s3.1 (Option.some.inj c)] at s
     exact ⟨f,inv,hF,hm.szi,hm.szs,hV,h8,a3,s,l,a2,by rw [this,c],g4⟩
   ·have:ZaI ⟨f,o.Rows⟩=some false:=by
     unfold ZaI Zdj
     simp (disch:=omega) only [pz,eF,k]
    rw [this] at c;cases c
  ·have k:=(Zjh hm p i hs).ne hV
   have:ZaI ⟨f,o.Rows⟩=some false:=by
    unfold ZaI Zdj
    simp (disch:=omega) only [pz,eF,k]
   rw [this] at c;cases c
 ·have l:Zbs o=some ⟨⟨0,0,[]⟩,[]⟩:=by
   unfold Zbs
   rw [h1]
   simp (disch:=omega) only [pz,]
  rw [l] at j
  obtain rfl:=Option.some.inj j
  have:ZaI ⟨⟨0,0,[]⟩,[]⟩=some false:=rfl
  rw [this] at c;cases c
def bipR (v m:Int) (rel:Int->Int->Bool) (x:Int):List Zb:=((idP m).filter fun i=>rel x i).map fun i=>⟨x,v+i⟩
def bipK (v m:Int) (rel:Int->Int->Bool) (k:Int):List Zb:=(idP k).flatMap (bipR v m rel)
theorem ZiN (v m:Int) (rel:Int->Int->Bool) (x:Int):(bipR v m rel x).length<=m.toNat:=by
 unfold bipR
 rw [List.length_map]
 have:=List.length_filter_le (fun i=>rel x i) (idP m)
 rwa [Zag] at this
theorem Zrc {v k:Int} {rel:Int->Int->Bool} {x:Int} (h:0<=k):bipR v (k+1) rel x=bipR v k rel x++(if rel x k=true then [⟨x,v+k⟩] else []):=by
 unfold bipR idP
 rw [ZX h,List.filter_append,List.map_append]
 by_cases c:rel x k=true
 ·rw [if_pos c];simp [c]
 ·rw [if_neg c];simp [c]
theorem Zl1 {v m k:Int} {rel:Int->Int->Bool} (h:0<=k):bipK v m rel (k+1)=bipK v m rel k++bipR v m rel k:=by
 unfold bipK idP
 rw [ZX h,List.flatMap_append]
 simp
theorem ZGG {v m k:Int} {rel:Int->Int->Bool} {e:Zb}:e∈bipK v m rel k↔(0<=e.A/\e.A<k)/\∃ i,(0<=i/\i<m)/\rel e.A i=true/\e.B=v+i:=by
 unfold bipK bipR
 rw [List.mem_flatMap]
 constructor
 ·rintro ⟨a,o,he⟩
  obtain ⟨i,hi,rfl⟩:=List.mem_map.1 he
  rw [List.mem_filter] at hi
  exact ⟨ZR.1 o,i,ZR.1 hi.1,hi.2,rfl⟩
 ·rintro ⟨h1,i,c,j,l⟩
  refine ⟨e.A,ZR.2 h1,List.mem_map.2 ⟨i,List.mem_filter.2 ⟨ZR.2 c,j⟩,?_⟩⟩
  cases e
  simp only [Zb.mk.injEq,true_and]
  exact l.symm
theorem Zvb (v m k:Int) (rel:Int->Int->Bool):(bipK v m rel k).Pairwise eLess:=by
 unfold bipK
 rw [List.pairwise_flatMap]
 refine ⟨fun a o=>?_,(Zc2 k).imp fun {a b} j x c y l=>?_⟩
 ·unfold bipR
  rw [List.pairwise_map]
  exact ((Zc2 m).filter _).imp fun h=>.inr ⟨rfl,by show v+_<v+_;omega⟩
 ·unfold bipR at c l
  obtain ⟨_,_,rfl⟩:=List.mem_map.1 c
  obtain ⟨_,_,rfl⟩:=List.mem_map.1 l
  exact .inl j
theorem pw_nd {l:List Zb} (h:l.Pairwise eLess):l.Nodup:=h.imp fun {a b} h e=>by subst e;unfold eLess at h;omega
def setE (v:Int) (sets:List (List Int)) (k:Int):List Zb:=(idP k).flatMap fun i=>(ix sets i).map fun x=>⟨x,v+i⟩
theorem ZsE {v k:Int} {sets:List (List Int)} (h:0<=k):setE v sets (k+1)=setE v sets k++(ix sets k).map fun x=>⟨x,v+k⟩:=by
 unfold setE idP
 rw [ZX h,List.flatMap_append]
 simp
structure Sts (v:Int) (sets:List (List Int)):Prop where
 v0:0<=v
 v1:v<=64
 m:(sets.length:Int)<=4096
 len:∀ s∈sets,s.length<=64
 nd:∀ s∈sets,s.Nodup
 rng:∀ s∈sets,∀ x∈s,0<=x/\x<v
section
variable {v:Int} {sets:List (List Int)} (h:Sts v sets)
include h
theorem Zsg {e:Zb}:e∈setE v sets sets.length↔∃ i,(0<=i/\i<(sets.length:Int))/\e.A∈ix sets i/\e.B=v+i:=by
 have _:=h
 unfold setE
 rw [List.mem_flatMap]
 constructor
 ·rintro ⟨i,hi,he⟩
  obtain ⟨x,c,rfl⟩:=List.mem_map.1 he
  exact ⟨i,ZR.1 hi,c,rfl⟩
 ·rintro ⟨i,hi,c,j⟩
  refine ⟨i,ZR.2 hi,List.mem_map.2 ⟨e.A,c,?_⟩⟩
  cases e
  simp only [Zb.mk.injEq,true_and]
  exact j.symm
theorem Zrk {e:Zb}:e∈setE v sets sets.length↔e∈bipK v sets.length (fun x i=>decide (x∈ix sets i)) v:=by
 rw [Zsg h,ZGG]
 constructor
 ·rintro ⟨i,hi,c,j⟩
  have:=h.rng _ (Zn hi.1 hi.2) _ c
  exact ⟨this,i,hi,by simpa using c,j⟩
 ·rintro ⟨_,i,hi,c,j⟩
  exact ⟨i,hi,by simpa using c,j⟩
theorem ZIz:srtE ((setE v sets sets.length).map mkE)=bipK v sets.length (fun x i=>decide (x∈ix sets i)) v:=by
 refine (Zlf (Zvb _ _ _ _) fun z=>?_).symm
 have hm:∀ e∈setE v sets sets.length,mkE e=e:=fun e he=>by
  obtain ⟨i,hi,c,j⟩:=(Zsg h).1 he
  have:=h.rng _ (Zn hi.1 hi.2) _ c
  unfold mkE
  cases e
  simp only [Zb.mk.injEq]
  dsimp only at j this
  omega
 rw [List.mem_map,<-Zrk h]
 constructor
 ·intro hz;exact ⟨z,hz,hm z hz⟩
 ·rintro ⟨e,he,rfl⟩;rw [hm e he];exact he
theorem ZAB:(setE v sets sets.length).length=(bipK v sets.length (fun x i=>decide (x∈ix sets i)) v).length:=by
 refine List.Perm.length_eq ((List.perm_ext_iff_of_nodup ?_ (pw_nd (Zvb _ _ _ _))).2 fun e=>Zrk h)
 unfold setE List.Nodup
 rw [List.pairwise_flatMap]
 refine ⟨fun i hi=>?_,(Zc2 _).imp fun {a b} j x c y k e=>?_⟩
 ·have hi:=ZR.1 hi
  rw [List.pairwise_map]
  refine (h.nd _ (Zn hi.1 hi.2)).imp fun {a b} j e=>j ?_
  simp only [Zb.mk.injEq] at e
  exact e.1
 ·obtain ⟨_,_,rfl⟩:=List.mem_map.1 c
  obtain ⟨_,_,rfl⟩:=List.mem_map.1 k
  simp only [Zb.mk.injEq] at e
  omega
end
def cols (z o:Int):List Int:=tabl (z+o) fun i=>if i<z then 0 else 1
theorem ZqZ {z o:Int}:(cols z o).length=(z+o).toNat:=Zl
theorem Zw2 {z o:Int} (p:0<=z) (s:0<=o) (h:z+o<=1000000):ZiO z o=some (cols z o):=by
 unfold ZiO
 have u:gMake 8 (0:Int) (ε.wrap (z+o)) (ε.wrap (z+o))=some (tabl (z+o) fun i=>if z<=i/\i<z then 1 else 0):=by
  rw [wr64 ω ω,Zau ω ω ω]
  congr 1
  refine ZaH (by rw [List.length_replicate,Zl]) fun i j l=>?_
  rw [List.length_replicate] at l
  rw [Zcg j ω,ZH j ω,if_neg ω]
 rw [u,Option.bind_some]
 have h1:=Zj (B:=Zg7 z o) (fun k=>(k,tabl (z+o) fun i=>if z<=i/\i<k then (1:Int) else 0)) (i:=z) (n:=z+o) ω fun k k0 k1=>by
  have hs:(tabl (z+o) fun i=>if z<=i/\i<k then (1:Int) else 0).set k.toNat 1=tabl (z+o) fun i=>if z<=i/\i<k+1 then (1:Int) else 0:=by
   refine Zak ω k1 (fun i j l hi=>?_) ?_
   ·by_cases c:z<=i/\i<k
    ·rw [if_pos c,if_pos ω]
    ·rw [if_neg c,if_neg ω]
   ·rw [if_pos ω]
  have y:(tabl (z+o) fun i=>if z<=i/\i<k then (1:Int) else 0).length=(z+o).toNat:=Zl
  generalize (tabl (z+o) fun i=>if z<=i/\i<k then (1:Int) else 0)=X at hs y ⊢
  simp (disch:=omega) only [pz,Zg7,hs]
 rw [h1]
 have e:(tabl (z+o) fun i=>if z<=i/\i<z+o then (1:Int) else 0)=cols z o:=ZM fun i j l=>by
  by_cases c:i<z
  ·rw [if_pos c,if_neg ω]
  ·rw [if_neg c,if_pos ω]
 rw [e]
 exact Zc (by simp (disch:=omega) only [pz,Zg7])
def nilG:Za:=⟨[],[]⟩
theorem Ztc {cs:List Int} {es:List Zb} (h:es.length<=1000000):Zf8 cs es=some (if (cs.length:Int)>64 then (nilG,5) else if (es.length:Int)>512 then (nilG,5) else (⟨cs,srtE (es.map mkE)⟩,0)):=by
 unfold Zf8 ZpN
 have hs:=ZsU h
 by_cases c:(cs.length:Int)>64
 ·rw [if_pos c];simp (disch:=omega) only [pz,];rfl
 ·by_cases d:(es.length:Int)>512
  ·rw [if_neg c,if_pos d];simp (disch:=omega) only [pz,];rfl
  ·rw [if_neg c,if_neg d];simp (disch:=omega) only [pz,hs]
def bipG (v m:Int) (rel:Int->Int->Bool):Za×Int:=if v+m>64 then (nilG,5) else if ((bipK v m rel v).length:Int)>512 then (nilG,5) else (⟨cols v m,bipK v m rel v⟩,0)
theorem Zr5 {v:Int} {sets:List (List Int)} (h:Sts v sets):ZgL v sets=some (bipG v sets.length fun x i=>decide (x∈ix sets i)):=by
 unfold ZgL
 have p:=h.v0
 have a7:=h.v1
 have hm:=h.m
 obtain ⟨⟨a0,j⟩,⟨h1,u,h3⟩,h4⟩:=Zim (B:=Zhj v sets) (fun k q=>q.2=k/\q.1=setE v sets k/\(q.1.length:Int)<=64*k) (i:=0) (n:=sets.length) ω (s:=(([]:List Zb),(0:Int))) ⟨rfl,rfl,by simp⟩ fun k q k0 k1 ⟨y,l,g3⟩=>by
  obtain ⟨a0,j⟩:=q
  dsimp only at y l g3
  subst y
  have ag:=h.len _ (Zn k0 k1)
  have a4:=Zj (B:=Ze5 v j (ix sets j)) (fun i=>(a0++((ix sets j).take i.toNat).map (fun x=>Zb.mk x (v+j)),i)) (i:=0) (n:=(ix sets j).length) ω fun i i0 i1=>by
   have hl:(a0++((ix sets j).take i.toNat).map (fun x=>Zb.mk x (v+j))).length<=1000000:=by rw [List.length_append,List.length_map,List.length_take];omega
   have a6:((ix sets j).take (i+1).toNat).map (fun x=>Zb.mk x (v+j))=_:=ZdR i0 i1
   rw [a6,<-List.append_assoc]
   generalize a0++((ix sets j).take i.toNat).map (fun x=>Zb.mk x (v+j))=X at hl ⊢
   simp (disch:=omega) only [pz,Ze5]
  have e0:(a0,(0:Int))=(fun i:Int=>(a0++((ix sets j).take i.toNat).map (fun x=>Zb.mk x (v+j)),i)) 0:=by simp
  have a2:loop (Ze5 v j (ix sets j)) (a0,0)=some (.inl (setE v sets (j+1),j+1)):=by
   rw [e0,a4]
   refine Zc ?_
   rw [Int.toNat_natCast,List.take_length,ZsE k0,<-l]
   simp (disch:=omega) only [pz,Ze5]
  refine ⟨(setE v sets (j+1),j+1),by simp (disch:=omega) only [pz,Zhj,a2],rfl,rfl,?_⟩
  dsimp only
  rw [ZsE k0,<-l,List.length_append,List.length_map]
  omega
 dsimp only at h1 u h3
 rw [h4]
 subst h1
 have a5:=Zw2 (z:=v) (o:=sets.length) p ω ω
 have a1:=Ztc (cs:=cols v sets.length) (es:=a0) ω
 have a3:=ZqZ (z:=v) (o:=sets.length)
 have a8:=ZAB h
 have hr:(if ((cols v sets.length).length:Int)>64 then (nilG,(5:Int)) else if (a0.length:Int)>512 then (nilG,5) else (⟨cols v sets.length,srtE (a0.map mkE)⟩,0))=bipG v sets.length fun x i=>decide (x∈ix sets i):=by
  unfold bipG
  rw [a3,u,a8,ZIz h]
  by_cases c:v+(sets.length:Int)>64
  ·rw [if_pos c,if_pos ω]
  ·rw [if_neg c,if_neg ω]
 rw [hr] at a1
 refine Zc ?_
 unfold Zhj
 dsimp only
 have e9:∀ r:Za×Int,(Za.mk r.1.Colors r.1.Edges,r.2)=r:=fun r=>rfl
 simp (disch:=omega) only [pz,Z6,a5,a1,e9]
theorem ZzD {d:Zaf} (h:Sts d.Points d.Blocks):ZlM d=some (bipG d.Points d.Blocks.length fun x i=>decide (x∈ix d.Blocks i)):=by
 unfold ZlM bipG
 have j:=h.v0
 have a5:=h.v1
 have hm:=h.m
 by_cases c:d.Points+(d.Blocks.length:Int)>64
 ·rw [if_pos c];simp (disch:=omega) only [pz,];rfl
 rw [if_neg c]
 have h1:=Zj (B:=ZeN d) (fun k=>(k,tabl k fun i=>if i<d.Points then (0:Int) else 1)) (i:=0) (n:=d.Points) j fun k k0 k1=>by
  have hl:(tabl k fun i=>if i<d.Points then (0:Int) else 1).length<=64:=by rw [Zl];omega
  have a0:(tabl (k+1) fun i=>if i<d.Points then (0:Int) else 1)=_:=ZX k0
  rw [if_pos k1] at a0
  rw [a0]
  generalize (tabl k fun i=>if i<d.Points then (0:Int) else 1)=X at hl ⊢
  simp (disch:=omega) only [pz,ZeN]
 have l:=Zj (B:=Zdi d) (fun k=>(k,tabl (d.Points+k) fun i=>if i<d.Points then (0:Int) else 1)) (i:=0) (n:=d.Blocks.length) ω fun k k0 k1=>by
  have hl:(tabl (d.Points+k) fun i=>if i<d.Points then (0:Int) else 1).length<=64:=by rw [Zl];omega
  have a0:(tabl (d.Points+k+1) fun i=>if i<d.Points then (0:Int) else 1)=_:=ZX ω
  rw [if_neg ω] at a0
  rw [<-Int.add_assoc,a0]
  generalize (tabl (d.Points+k) fun i=>if i<d.Points then (0:Int) else 1)=X at hl ⊢
  simp (disch:=omega) only [pz,Zdi]
 generalize a3:(fun (x:Int) (i:Int)=>decide (x∈ix d.Blocks i))=rel
 have a8:∀ k:Int,0<=k->k<=d.Points->((bipK d.Points d.Blocks.length rel k).length:Int)<=64*k:=by
  intro k k0 k1
  obtain ⟨n,rfl⟩:∃ n:Nat,k=n:=⟨k.toNat,by omega⟩
  clear k0
  induction n with
  | zero=>simp [bipK,idP,tabl]
  | succ n ih=>
   have:=ih ω
   have l:=ZiN d.Points d.Blocks.length rel (n:Int)
   rw [show ((n+1:Nat):Int)=(n:Int)+1 by omega,Zl1 ω,List.length_append]
   omega
 have y:=Zj (B:=ZdK d (cols d.Points d.Blocks.length)) (fun k=>(k,bipK d.Points d.Blocks.length rel k)) (i:=0) (n:=d.Points) j fun k k0 k1=>by
  have ag:=a8 k k0 ω
  have a7:=Zj (B:=Zde d k) (fun i=>(i,bipK d.Points d.Blocks.length rel k++bipR d.Points i rel k)) (i:=0) (n:=d.Blocks.length) ω fun i o i1=>by
   have hl:=ZiN d.Points i rel k
   have p:(bipK d.Points d.Blocks.length rel k++bipR d.Points i rel k).length<=100000:=by rw [List.length_append];omega
   have a0:=Zrc (v:=d.Points) (rel:=rel) (x:=k) o
   have ae:=h.len _ (Zn o i1)
   have a2:=Znz (s:=ix d.Blocks i) (v:=k) ω
   have u:rel k i=decide (k∈ix d.Blocks i):=by rw [<-a3]
   by_cases cc:k∈ix d.Blocks i
   ·have hh:=a2.eq cc
    rw [if_pos (by rw [u];simpa using cc)] at a0
    rw [a0,<-List.append_assoc]
    generalize bipK d.Points d.Blocks.length rel k++bipR d.Points i rel k=X at p ⊢
    simp (disch:=omega) only [pz,Zde,hh]
   ·have hh:=a2.ne cc
    rw [if_neg (by rw [u];simpa using cc),List.append_nil] at a0
    rw [a0]
    simp (disch:=omega) only [pz,Zde,hh]
  have e0:((0:Int),bipK d.Points d.Blocks.length rel k)=(fun i:Int=>(i,bipK d.Points d.Blocks.length rel k++bipR d.Points i rel k)) 0:=by
   show _=((0:Int),_++bipR d.Points 0 rel k)
   rw [show bipR d.Points 0 rel k=[] from rfl,List.append_nil]
  have a4:loop (Zde d k) (0,bipK d.Points d.Blocks.length rel k)=some (.inl (k+1,bipK d.Points d.Blocks.length rel (k+1))):=by
   rw [e0,a7]
   refine Zc ?_
   rw [Zl1 k0]
   simp (disch:=omega) only [pz,Zde]
  simp (disch:=omega) only [pz,ZdK,a4]
 have e1:((0:Int),([]:List Int))=(fun k:Int=>(k,tabl k fun i=>if i<d.Points then (0:Int) else 1)) 0:=rfl
 have e2:((0:Int),tabl d.Points fun i=>if i<d.Points then (0:Int) else 1)=(fun k:Int=>(k,tabl (d.Points+k) fun i=>if i<d.Points then (0:Int) else 1)) 0:=by
  show _=((0:Int),tabl (d.Points+0) _)
  rw [Int.add_zero]
 have e3:((0:Int),([]:List Zb))=(fun k:Int=>(k,bipK d.Points d.Blocks.length rel k)) 0:=rfl
 have k3:loop (ZdK d (cols d.Points d.Blocks.length)) (0,([]:List Zb))=some (.inr (.inr (if ((bipK d.Points d.Blocks.length rel d.Points).length:Int)>512 then (nilG,5) else (⟨cols d.Points d.Blocks.length,bipK d.Points d.Blocks.length rel d.Points⟩,0)))):=by
  rw [e3,y]
  refine Zc ?_
  by_cases cc:((bipK d.Points d.Blocks.length rel d.Points).length:Int)>512
  ·rw [if_pos cc];simp (disch:=omega) only [pz,ZdK];rfl
  ·rw [if_neg cc];simp (disch:=omega) only [pz,ZdK]
 have k2:loop (Zdi d) (0,tabl d.Points fun i=>if i<d.Points then (0:Int) else 1)=some (.inr (if ((bipK d.Points d.Blocks.length rel d.Points).length:Int)>512 then (nilG,5) else (⟨cols d.Points d.Blocks.length,bipK d.Points d.Blocks.length rel d.Points⟩,0))):=by
  rw [e2,l]
  refine Zc ?_
  show Zdi d ((d.Blocks.length:Int),cols d.Points d.Blocks.length)=_
  simp (disch:=omega) only [pz,Zdi,k3]
 have k1:loop (ZeN d) (0,([]:List Int))=some (if ((bipK d.Points d.Blocks.length rel d.Points).length:Int)>512 then (nilG,5) else (⟨cols d.Points d.Blocks.length,bipK d.Points d.Blocks.length rel d.Points⟩,0)):=by
  rw [e1,h1]
  exact Zc (by simp (disch:=omega) only [pz,ZeN,k2])
 simp (disch:=omega) only [pz,k1]
theorem Zu5 {α:Type} {n:Int} {f:Int->α} {y:α} (h:y∈tabl n f):∃ i,f i=y:=by
 unfold tabl at h
 obtain ⟨j,_,e⟩:=List.mem_map.1 h
 exact ⟨_,e⟩
def supp (r:List Int):List Int:=(idP r.length).filter fun x=>decide (¬ ix r x=0)
theorem ZyE {r:List Int} (j:r.length<=1000):Zlu r=some (supp r):=by
 unfold Zlu
 have h:=Zj (B:=Zfv r) (fun k=>((idP k).filter fun x=>decide (¬ ix r x=0),k)) (i:=0) (n:=r.length) ω fun k k0 k1=>by
  have hl:((idP k).filter fun x=>decide (¬ ix r x=0)).length<=1000:=by
   have:=List.length_filter_le (fun x=>decide (¬ ix r x=0)) (idP k)
   rw [Zag] at this;omega
  have hs:(idP (k+1)).filter (fun x=>decide (¬ ix r x=0))=((idP k).filter fun x=>decide (¬ ix r x=0))++(if ¬ ix r k=0 then [k] else []):=by
   unfold idP
   rw [ZX k0,List.filter_append]
   by_cases c:ix r k=0
   ·rw [if_neg (Classical.not_not.2 c)];simp [c]
   ·rw [if_pos c];simp [c]
  rw [hs]
  generalize ((idP k).filter fun x=>decide (¬ ix r x=0))=X at hl ⊢
  by_cases c:ix r k=0
  ·rw [if_neg (Classical.not_not.2 c),List.append_nil]
   simp (disch:=omega) only [pz,Zfv]
  ·rw [if_pos c]
   simp (disch:=omega) only [pz,Zfv]
 exact h.trans (Zc (by simp (disch:=omega) only [pz,Zfv];rfl))
theorem Zxj {v m k:Int} {c r2:Int->Int->Bool} (h:∀ x i,0<=x->x<k->0<=i->i<m->c x i=r2 x i):bipK v m c k=bipK v m r2 k:=by
 unfold bipK
 have:∀ l:List Int,(∀ x∈l,0<=x/\x<k)->l.flatMap (bipR v m c)=l.flatMap (bipR v m r2):=fun l=>by
  induction l with
  | nil=>intro _;rfl
  | cons a l o=>
   intro hl
   rw [List.flatMap_cons,List.flatMap_cons,o fun x j=>hl x (.tail _ j)]
   congr 1
   unfold bipR
   congr 1
   refine List.filter_congr fun i hi=>?_
   have:=hl a (.head _)
   have:=ZR.1 hi
   exact h _ _ ω ω ω ω
 exact this _ fun x j=>ZR.1 j
theorem ZDS {v m:Int} {c r2:Int->Int->Bool} (h:∀ x i,0<=x->x<v->0<=i->i<m->c x i=r2 x i):bipG v m c=bipG v m r2:=by
 unfold bipG
 rw [Zxj h]
section
variable {e:List Int} {ws:List (List Int)} (he:(e.length:Int)<=64) (hl:∀ r∈ws,(r.length:Int)=e.length) (hi:∀ r∈ws,In 2 r) (w1:1<=(ws.length:Int)) (wN:(ws.length:Int)<=4096)
include he hl hi w1 wN
theorem ZIn:Sts e.length ((ws.drop 1).map supp) where
 v0:=ω
 v1:=he
 m:=by rw [List.length_map,List.length_drop];omega
 len:=fun s hs=>by
  obtain ⟨r,j,rfl⟩:=List.mem_map.1 hs
  have:=hl r (List.mem_of_mem_drop j)
  unfold supp
  have i:=List.length_filter_le (fun x=>decide (¬ ix r x=0)) (idP r.length)
  rw [Zag] at i;omega
 nd:=fun s hs=>by
  obtain ⟨r,j,rfl⟩:=List.mem_map.1 hs
  exact (Zlg _).filter _
 rng:=fun s hs x c=>by
  obtain ⟨r,j,rfl⟩:=List.mem_map.1 hs
  have:=hl r (List.mem_of_mem_drop j)
  unfold supp at c
  have:=ZR.1 (List.mem_filter.1 c).1
  omega
theorem ZG0:(bif decide ((ε.wrap ((ε.wrap ((e.length:Int)+(ws.length:Int)))-1):Int)>64) then
   some (((Za.mk ([]:List Int) ([]:List Zb)),(5:Int)))
  else loop (ZdP e ws) (0,([]:List Int)))=some (bipG e.length ((ws.drop 1).map supp).length fun x i=>decide (x∈ix ((ws.drop 1).map supp) i)):=by
 have a2:(((ws.drop 1).map supp).length:Int)=(ws.length:Int)-1:=by rw [List.length_map,List.length_drop];omega
 have a4:∀ x i:Int,0<=x->x<(e.length:Int)->0<=i->i<(ws.length:Int)-1->decide (x∈ix ((ws.drop 1).map supp) i)=decide (ix (ix ws (i+1)) x=1):=fun x i x0 x1 j o=>by
  have hm:ix ws (i+1)∈ws:=Zn ω ω
  have h1:=hl _ hm
  have l:=hi _ hm x x0 ω
  rw [Zgb j (by rw [List.length_drop];omega),show ws.drop 1=ws.drop (1:Int).toNat from rfl,Zm4 ω j,Int.add_comm 1 i]
  unfold supp
  rw [decide_eq_decide,List.mem_filter,ZR,decide_eq_true_eq]
  omega
 rw [ZDS (r2:=fun x i=>decide (ix (ix ws (i+1)) x=1)) (by rw [a2];exact a4),a2]
 generalize hR:(fun (x:Int) (i:Int)=>decide (ix (ix ws (i+1)) x=1))=rel
 have v0:(0:Int)<=e.length:=ω
 generalize hv:(e.length:Int)=v at *
 generalize hm:(ws.length:Int)-1=m at *
 unfold bipG
 by_cases c:v+m>64
 ·rw [if_pos c];simp (disch:=omega) only [pz,];rfl
 rw [if_neg c]
 have h1:=Zj (B:=ZdP e ws) (fun k=>(k,tabl k fun i=>if i<v then (0:Int) else 1)) (i:=0) (n:=v) v0 fun k k0 k1=>by
  have hl:(tabl k fun i=>if i<v then (0:Int) else 1).length<=64:=by rw [Zl];omega
  have a0:(tabl (k+1) fun i=>if i<v then (0:Int) else 1)=_:=ZX k0
  rw [if_pos k1] at a0
  rw [a0]
  generalize (tabl k fun i=>if i<v then (0:Int) else 1)=X at hl ⊢
  simp (disch:=omega) only [pz,ZdP]
 have l:=Zj (B:=Zdh e ws) (fun k=>(k,tabl (v+(k-1)) fun i=>if i<v then (0:Int) else 1)) (i:=1) (n:=ws.length) ω fun k k0 k1=>by
  have hl:(tabl (v+(k-1)) fun i=>if i<v then (0:Int) else 1).length<=64:=by rw [Zl];omega
  have a0:(tabl (v+(k-1)+1) fun i=>if i<v then (0:Int) else 1)=_:=ZX ω
  rw [if_neg ω] at a0
  rw [show v+(k+1-1)=v+(k-1)+1 by omega,a0]
  generalize (tabl (v+(k-1)) fun i=>if i<v then (0:Int) else 1)=X at hl ⊢
  simp (disch:=omega) only [pz,Zdh]
 have a7:∀ k:Int,0<=k->k<=v->((bipK v m rel k).length:Int)<=64*k:=by
  intro k k0 k1
  obtain ⟨n,rfl⟩:∃ n:Nat,k=n:=⟨k.toNat,by omega⟩
  clear k0
  induction n with
  | zero=>simp [bipK,idP,tabl]
  | succ n ih=>
   have:=ih ω
   have l:=ZiN v m rel (n:Int)
   rw [show ((n+1:Nat):Int)=(n:Int)+1 by omega,Zl1 ω,List.length_append]
   omega
 have u:=Zj (B:=Zd9 e ws (cols v m)) (fun k=>(k,bipK v m rel k)) (i:=0) (n:=v) v0 fun k k0 k1=>by
  have ag:=a7 k k0 ω
  have a6:=Zj (B:=Zdu e ws k) (fun i=>(i,bipK v m rel k++bipR v (i-1) rel k)) (i:=1) (n:=ws.length) ω fun i j o=>by
   have a3:=ZiN v (i-1) rel k
   have p:(bipK v m rel k++bipR v (i-1) rel k).length<=100000:=by rw [List.length_append];omega
   have a0:=Zrc (v:=v) (rel:=rel) (x:=k) (k:=i-1) ω
   have ae:=hl _ (Zn (xs:=ws) (i:=i) ω o)
   have s:rel k (i-1)=decide (ix (ix ws i) k=1):=by rw [<-hR];show decide (ix (ix ws (i-1+1)) k=1)=_;rw [Int.sub_add_cancel]
   have ei:i+1-1=i-1+1:=ω
   have ew:v+i-1=v+(i-1):=ω
   rw [ei]
   by_cases cc:ix (ix ws i) k=1
   ·rw [if_pos (by rw [s];simpa using cc)] at a0
    rw [a0,<-List.append_assoc]
    generalize bipK v m rel k++bipR v (i-1) rel k=X at p ⊢
    simp (disch:=omega) only [pz,Zdu,hv,ew]
   ·rw [if_neg (by rw [s];simpa using cc),List.append_nil] at a0
    rw [a0]
    simp (disch:=omega) only [pz,Zdu]
  have y:((1:Int),bipK v m rel k)=(fun i:Int=>(i,bipK v m rel k++bipR v (i-1) rel k)) 1:=by
   show _=((1:Int),_++bipR v 0 rel k)
   rw [show bipR v 0 rel k=[] from rfl,List.append_nil]
  have a5:loop (Zdu e ws k) (1,bipK v m rel k)=some (.inl (k+1,bipK v m rel (k+1))):=by
   rw [y,a6]
   refine Zc ?_
   rw [hm,Zl1 k0]
   simp (disch:=omega) only [pz,Zdu]
  simp (disch:=omega) only [pz,Zd9,a5,hv]
 have e1:((0:Int),([]:List Int))=(fun k:Int=>(k,tabl k fun i=>if i<v then (0:Int) else 1)) 0:=rfl
 have e2:((1:Int),tabl v fun i=>if i<v then (0:Int) else 1)=(fun k:Int=>(k,tabl (v+(k-1)) fun i=>if i<v then (0:Int) else 1)) 1:=by
  show _=((1:Int),tabl (v+0) _)
  rw [Int.add_zero]
 have e3:((0:Int),([]:List Zb))=(fun k:Int=>(k,bipK v m rel k)) 0:=rfl
 have k3:loop (Zd9 e ws (cols v m)) (0,([]:List Zb))=some (.inr (.inr (if ((bipK v m rel v).length:Int)>512 then (nilG,5) else (⟨cols v m,bipK v m rel v⟩,0)))):=by
  rw [e3,u]
  refine Zc ?_
  by_cases cc:((bipK v m rel v).length:Int)>512
  ·rw [if_pos cc];simp (disch:=omega) only [pz,Zd9,hv];rfl
  ·rw [if_neg cc];simp (disch:=omega) only [pz,Zd9,hv]
 have k2:loop (Zdh e ws) (1,tabl v fun i=>if i<v then (0:Int) else 1)=some (.inr (if ((bipK v m rel v).length:Int)>512 then (nilG,5) else (⟨cols v m,bipK v m rel v⟩,0))):=by
  rw [e2,l]
  refine Zc ?_
  rw [hm]
  show Zdh e ws ((ws.length:Int),cols v m)=_
  simp (disch:=omega) only [pz,Zdh,k3]
 have k1:loop (ZdP e ws) (0,([]:List Int))=some (if ((bipK v m rel v).length:Int)>512 then (nilG,5) else (⟨cols v m,bipK v m rel v⟩,0)):=by
  rw [e1,h1]
  exact Zc (by simp (disch:=omega) only [pz,ZdP,k2,hv])
 simp (disch:=omega) only [pz,k1]
end
theorem ZH3 {o:Zg} (hs:Sz2 o.Rows) {f:Ze} {inv:List Int} (h:CodeV o f inv):∃ r,Zf9 ⟨f,o.Rows⟩=some r/\ZhU ⟨f,o.Rows⟩=some r/\(r=(nilG,6)\/∃ v m rel,0<=v/\0<=m/\r=bipG v m rel):=by
 have eF:Ze.mk f.Prime f.Degree f.Poly=f:=rfl
 have eC:ZZ.mk f o.Rows=⟨f,o.Rows⟩:=rfl
 have a4:=h.si
 have a3:=h.ss
 have ab:=h.oki
 by_cases j:o.Size=2
 ·have n1:=h.M.n1
  have w1:=h.M.w1
  have w2:=h.M.w2
  have hF:=h.F
  have hM:=h.M.mat
  have ac:=Zwd hF hM ω n1 a4 h.few
  have aa:=Zzf hF hM ω n1 a3 h.few
  have aj:=h.few
  have hP:=Zbb (p:=o.Size) hF.q2 o.Rows.length
  have a0:=hM.len 0 ω ω
  generalize hW:tabl (pwN o.Size o.Rows.length) (wd f o.Size (ix o.Rows 0).length o.Rows o.Rows.length)=W at ac aa
  have al:(W.length:Int)=pwN o.Size o.Rows.length:=by rw [<-hW,Zl];omega
  have a2:∀ r∈W,(r.length:Int)=(ix o.Rows 0).length:=fun r hr=>by
   rw [<-hW] at hr
   obtain ⟨n,rfl⟩:=Zu5 hr
   exact ZhL hF ω _ _
  have a8:∀ r∈W,In 2 r:=fun r hr=>by
   rw [<-hW] at hr
   obtain ⟨n,rfl⟩:=Zu5 hr
   have:=wd_in hF (m:=o.Rows) (w:=(ix o.Rows 0).length) ω o.Rows.length n
   rw [j] at this ⊢
   exact this
  clear hW
  have hg:=ZG0 (e:=ix o.Rows 0) (ws:=W) ω a2 a8 ω ω
  have a9:=Zr5 (ZIn (e:=ix o.Rows 0) (ws:=W) ω a2 a8 ω ω)
  have a5:=ZlB (xs:=W) (lo:=1) ω ω
  have eD:W.drop (1:Int).toNat=W.drop 1:=rfl
  rw [eD] at a5
  have ai:((W.drop 1).length:Int)=(W.length:Int)-1:=by rw [List.length_drop];omega
  have c:∀ r∈W.drop 1,(r.length:Int)=(ix o.Rows 0).length:=fun r hr=>a2 r (List.mem_of_mem_drop hr)
  refine ⟨bipG (ix o.Rows 0).length ((W.drop 1).map supp).length fun x i=>decide (x∈ix ((W.drop 1).map supp) i),?_,?_,.inr ⟨_,_,_,Int.natCast_nonneg (ix o.Rows 0).length,Int.natCast_nonneg ((W.drop 1).map supp).length,rfl⟩⟩
  ·unfold Zf9
   have l:ε.wrap (((ix o.Rows 0).length:Int)+(W.length:Int))=(ix o.Rows 0).length+(W.length:Int):=wr64 ω ω
   have s:ε.wrap (((ix o.Rows 0).length:Int)+(W.length:Int)-1)=(ix o.Rows 0).length+(W.length:Int)-1:=wr64 ω ω
   rw [l,s] at hg
   simp (disch:=omega) only [pz,eF,a3,aa]
   exact hg
  ·generalize W.drop 1=D at a9 a5 ai c
   have ag:=Zj (B:=Zem ⟨f,o.Rows⟩ D) (fun k=>((D.take k.toNat).map supp,k)) (i:=0) (n:=D.length) ω fun k k0 k1=>by
    have hm:=c _ (Zn k0 k1)
    have ah:=ZyE (r:=ix D k) ω
    have hl:((D.take k.toNat).map supp).length<=10000:=by rw [List.length_map,List.length_take];omega
    rw [ZdR k0 k1]
    generalize (D.take k.toNat).map supp=X at hl ⊢
    have af:=gAppV (xs:=X) (y:=supp (ix D k)) ω
    simp (disch:=omega) only [pz,Zem,ah,af]
   have ad:loop (Zem ⟨f,o.Rows⟩ D) ([],0)=some (bipG (ix o.Rows 0).length (D.map supp).length fun x i=>decide (x∈ix (D.map supp) i)):=by
    refine ag.trans (Zc ?_)
    rw [Int.toNat_natCast,List.take_length]
    have u:∀ r:Za×Int,(Za.mk r.1.Colors r.1.Edges,r.2)=r:=fun r=>rfl
    simp (disch:=omega) only [pz,Zem,ZpW,ZW,a9,u]
   unfold ZhU
   simp (disch:=omega) only [pz,eF,ab,a4,ac,a5,ad]
 ·refine ⟨_,?_,?_,.inl rfl⟩
  ·unfold Zf9
   simp (disch:=omega) only [pz,eF,a3]
   rfl
  ·unfold ZhU
   simp (disch:=omega) only [pz,eF,ab,a4]
   rfl
def sqP (n:Int) (a:List (List Int)) (l x y:Int):Bool:=decide (l=x\/l=n+y\/l=2*n+ix (ix a x) y)
def sqR (n:Int) (a:List (List Int)) (l x k:Int):List Zb:=((idP k).filter fun y=>sqP n a l x y).map fun y=>⟨l,3*n+x*n+y⟩
def sqX (n:Int) (a:List (List Int)) (l k:Int):List Zb:=(idP k).flatMap fun x=>sqR n a l x n
def sqL (n:Int) (a:List (List Int)) (k:Int):List Zb:=(idP k).flatMap fun l=>sqX n a l n
def sqC (n:Int):List Int:=tabl (3*n+n*n) fun v=>if v<3*n then v/n else 3
theorem ZFf {n l x k:Int} {a:List (List Int)} (h:0<=k):sqR n a l x (k+1)=sqR n a l x k++(if sqP n a l x k=true then [⟨l,3*n+x*n+k⟩] else []):=by
 unfold sqR idP
 rw [ZX h,List.filter_append,List.map_append]
 by_cases c:sqP n a l x k=true
 ·rw [if_pos c];simp [c]
 ·rw [if_neg c];simp [c]
theorem ZrT {n l k:Int} {a:List (List Int)} (h:0<=k):sqX n a l (k+1)=sqX n a l k++sqR n a l k n:=by
 unfold sqX idP
 rw [ZX h,List.flatMap_append]
 simp
theorem Zs2 {n k:Int} {a:List (List Int)} (h:0<=k):sqL n a (k+1)=sqL n a k++sqX n a k n:=by
 unfold sqL idP
 rw [ZX h,List.flatMap_append]
 simp
theorem ZsG (n l x k:Int) (a:List (List Int)):(sqR n a l x k).length<=k.toNat:=by
 unfold sqR
 rw [List.length_map]
 have:=List.length_filter_le (fun y=>sqP n a l x y) (idP k)
 rwa [Zag] at this
theorem ZrU {n:Int} (c:n<=6) (l:Int) (a:List (List Int)) (k:Nat):(sqX n a l k).length<=6*k:=by
 induction k with
 | zero=>simp [sqX,idP,tabl]
 | succ k j=>
  have:=ZsG n l k n a
  rw [show ((k+1:Nat):Int)=(k:Int)+1 by omega,ZrT ω,List.length_append]
  omega
theorem ZrR {n:Int} (n0:0<=n) (c:n<=6) (a:List (List Int)) (k:Nat):(sqL n a k).length<=36*k:=by
 induction k with
 | zero=>simp [sqL,idP,tabl]
 | succ k j=>
  have:=ZrU c k a n.toNat
  rw [show ((n.toNat:Nat):Int)=n by omega] at this
  rw [show ((k+1:Nat):Int)=(k:Int)+1 by omega,Zs2 ω,List.length_append]
  omega
theorem Zvl {n k:Int} {a:List (List Int)} {e:Zb}:e∈sqL n a k↔(0<=e.A/\e.A<k)/\∃ x y,(0<=x/\x<n)/\(0<=y/\y<n)/\sqP n a e.A x y=true/\e.B=3*n+x*n+y:=by
 unfold sqL sqX sqR
 rw [List.mem_flatMap]
 constructor
 ·rintro ⟨l,hl,he⟩
  obtain ⟨x,c,he⟩:=List.mem_flatMap.1 he
  obtain ⟨y,j,rfl⟩:=List.mem_map.1 he
  rw [List.mem_filter] at j
  exact ⟨ZR.1 hl,x,y,ZR.1 c,ZR.1 j.1,j.2,rfl⟩
 ·rintro ⟨h1,x,y,c,j,hp,o⟩
  refine ⟨e.A,ZR.2 h1,List.mem_flatMap.2 ⟨x,ZR.2 c,List.mem_map.2 ⟨y,List.mem_filter.2 ⟨ZR.2 j,hp⟩,?_⟩⟩⟩
  cases e
  simp only [Zb.mk.injEq,true_and]
  exact o.symm
theorem ZzQ (n k:Int) (n0:0<=n) (a:List (List Int)):(sqL n a k).Pairwise eLess:=by
 unfold sqL
 rw [List.pairwise_flatMap]
 refine ⟨fun l hl=>?_,(Zc2 k).imp fun {l l'} a4 x c y hy=>?_⟩
 ·unfold sqX
  rw [List.pairwise_flatMap]
  refine ⟨fun x c=>?_,(Zc2 n).imp fun {x x'} a7 u hu v hv=>?_⟩
  ·unfold sqR
   rw [List.pairwise_map]
   exact ((Zc2 n).filter _).imp fun h=>.inr ⟨rfl,by show _+_<_+_;omega⟩
  ·unfold sqR at hu hv
   obtain ⟨y,hy,rfl⟩:=List.mem_map.1 hu
   obtain ⟨y',a1,rfl⟩:=List.mem_map.1 hv
   have h1:=ZR.1 (List.mem_filter.1 hy).1
   have p:=ZR.1 (List.mem_filter.1 a1).1
   have i:(x+1)*n<=x'*n:=Int.mul_le_mul_of_nonneg_right ω n0
   rw [Int.add_mul,Int.one_mul] at i
   exact .inr ⟨rfl,by show 3*n+x*n+y<3*n+x'*n+y';omega⟩
 ·have fA:∀ {l:Int} {e:Zb},e∈sqX n a l n->e.A=l:=fun he=>by
   obtain ⟨x,c,he⟩:=List.mem_flatMap.1 he
   obtain ⟨y,hy,rfl⟩:=List.mem_map.1 he
   rfl
  have j:=fA c
  have o:=fA hy
  exact .inl (by rw [j,o];exact a4)
def sqT (n:Int) (a:List (List Int)) (x y:Int):List Zb:=[⟨x,3*n+n*x+y⟩,⟨n+y,3*n+n*x+y⟩,⟨2*n+ix (ix a x) y,3*n+n*x+y⟩]
def sqU (n:Int) (a:List (List Int)) (x k:Int):List Zb:=(idP k).flatMap fun y=>sqT n a x y
def sqE (n:Int) (a:List (List Int)) (k:Int):List Zb:=(idP k).flatMap fun x=>sqU n a x n
theorem ZrD {n x k:Int} {a:List (List Int)} (h:0<=k):sqU n a x (k+1)=sqU n a x k++sqT n a x k:=by
 unfold sqU idP
 rw [ZX h,List.flatMap_append]
 simp
theorem Zs8 {n k:Int} {a:List (List Int)} (h:0<=k):sqE n a (k+1)=sqE n a k++sqU n a k n:=by
 unfold sqE idP
 rw [ZX h,List.flatMap_append]
 simp
theorem Zvo (n x:Int) (a:List (List Int)) (k:Nat):(sqU n a x k).length=3*k:=by
 induction k with
 | zero=>simp [sqU,idP,tabl]
 | succ k j=>
  rw [show ((k+1:Nat):Int)=(k:Int)+1 by omega,ZrD ω,List.length_append,j]
  simp [sqT];omega
theorem ZqI {n:Int} (n0:0<=n) (c:n<=6) (a:List (List Int)) (k:Nat):(sqE n a k).length<=18*k:=by
 induction k with
 | zero=>simp [sqE,idP,tabl]
 | succ k j=>
  have:=Zvo n k a n.toNat
  rw [show ((n.toNat:Nat):Int)=n by omega] at this
  rw [show ((k+1:Nat):Int)=(k:Int)+1 by omega,Zs8 ω,List.length_append]
  omega
section
variable {a:List (List Int)} (h:ValidSq a) (h6:(a.length:Int)<=6)
include h h6
theorem ZoC {x y:Int} (x0:0<=x) (x1:x<(a.length:Int)) (c:0<=y) (k:y<(a.length:Int)):((ix a x).length:Int)=a.length/\0<=ix (ix a x) y/\ix (ix a x) y<(a.length:Int):=by
 obtain ⟨i,r2,j⟩:=h.row _ (Zn x0 x1)
 have:=j.rng _ (Zn (xs:=ix a x) c ω)
 exact ⟨i,this.1,by omega⟩
theorem ZEd:srtE ((sqE a.length a a.length).map mkE)=sqL a.length a (3*a.length):=by
 have n1:=h.n1
 have o:∀ z:Zb,z∈sqE a.length a a.length↔z∈sqL a.length a (3*a.length):=fun z=>by
  rw [Zvl]
  unfold sqE sqU sqT
  rw [List.mem_flatMap]
  constructor
  ·rintro ⟨x,c,hz⟩
   obtain ⟨y,k,hz⟩:=List.mem_flatMap.1 hz
   have c:=ZR.1 c
   have k:=ZR.1 k
   obtain ⟨_,i,j⟩:=ZoC h h6 c.1 c.2 k.1 k.2
   rw [List.mem_cons,List.mem_cons,List.mem_singleton] at hz
   rcases hz with rfl|rfl|rfl
   ·exact ⟨by dsimp only;omega,x,y,c,k,by simp [sqP],by show (_:Int)=_;simp only [];rw [Int.mul_comm (a.length:Int) x]⟩
   ·exact ⟨by dsimp only;omega,x,y,c,k,by simp [sqP],by show (_:Int)=_;simp only [];rw [Int.mul_comm (a.length:Int) x]⟩
   ·exact ⟨by dsimp only;omega,x,y,c,k,by simp [sqP],by show (_:Int)=_;simp only [];rw [Int.mul_comm (a.length:Int) x]⟩
  ·rintro ⟨h1,x,y,c,k,hp,l⟩
   refine ⟨x,ZR.2 c,List.mem_flatMap.2 ⟨y,ZR.2 k,?_⟩⟩
   unfold sqP at hp
   rw [decide_eq_true_eq] at hp
   rw [List.mem_cons,List.mem_cons,List.mem_singleton]
   cases z
   simp only [Zb.mk.injEq]
   dsimp only at hp l
   rw [Int.mul_comm (a.length:Int) x]
   rcases hp with hp|hp|hp
   ·exact .inl ⟨hp,l⟩
   ·exact .inr (.inl ⟨hp,l⟩)
   ·exact .inr (.inr ⟨hp,l⟩)
 have hm:∀ z∈sqE a.length a a.length,mkE z=z:=fun z hz=>by
  obtain ⟨h1,x,y,c,k,hp,l⟩:=Zvl.1 ((o z).1 hz)
  have u:0<=x*(a.length:Int):=Int.mul_nonneg c.1 ω
  unfold mkE
  cases z
  simp only [Zb.mk.injEq]
  dsimp only at h1 l
  omega
 refine (Zlf (ZzQ _ _ ω _) fun z=>?_).symm
 rw [List.mem_map,<-o]
 constructor
 ·intro hz;exact ⟨z,hz,hm z hz⟩
 ·rintro ⟨e,he,rfl⟩;rw [hm e he];exact he
theorem ZES:Zjv a false=some ⟨sqC a.length,sqL a.length a (3*a.length)⟩:=by
 unfold Zjv
 have n1:=h.n1
 have a3:(a.length:Int)*a.length<=36:=by
  have:=Int.mul_le_mul h6 h6 ω (by omega:(0:Int)<=6)
  omega
 have o:0<=(a.length:Int)*a.length:=Int.mul_nonneg ω ω
 generalize c:(a.length:Int)=n at n1 h6 a3 o ⊢
 have h1:=Zj (B:=ZhK a false) (fun k=>(k,tabl k fun v=>if v<3*n then v/n else 3)) (i:=0) (n:=3*n) ω fun k k0 k1=>by
  have hl:(tabl k fun v=>if v<3*n then v/n else 3).length<=18:=by rw [Zl];omega
  have a0:(tabl (k+1) fun v=>if v<3*n then v/n else 3)=_:=ZX k0
  rw [if_pos k1] at a0
  have hd:Int.tdiv k n=k/n:=Int.tdiv_eq_ediv_of_nonneg k0
  have a6:0<=k/n:=Int.ediv_nonneg k0 ω
  have a7:k/n<3:=Int.ediv_lt_of_lt_mul ω ω
  rw [a0]
  generalize (tabl k fun v=>if v<3*n then v/n else 3)=X at hl ⊢
  simp (disch:=omega) only [pz,ZhK,Zi5,c,hd]
 have h2:=Zj (B:=ZdS a) (fun k=>(k,tabl (3*n+k) fun v=>if v<3*n then v/n else 3)) (i:=0) (n:=n*n) ω fun k k0 k1=>by
  have hl:(tabl (3*n+k) fun v=>if v<3*n then v/n else 3).length<=54:=by rw [Zl];omega
  have a0:(tabl (3*n+k+1) fun v=>if v<3*n then v/n else 3)=_:=ZX ω
  rw [if_neg ω] at a0
  rw [<-Int.add_assoc,a0]
  generalize (tabl (3*n+k) fun v=>if v<3*n then v/n else 3)=X at hl ⊢
  simp (disch:=omega) only [pz,ZdS,c]
 have h3:=Zj (B:=Zfe a (sqC n)) (fun k=>(k,sqL n a k)) (i:=0) (n:=3*n) ω fun l l0 l1=>by
  have hL:=ZrR ω h6 a l.toNat
  rw [show ((l.toNat:Nat):Int)=l by omega] at hL
  have hx:=Zj (B:=Zfp a l) (fun x=>(x,sqL n a l++sqX n a l x)) (i:=0) (n:=n) ω fun x x0 x1=>by
   have hX:=ZrU h6 l a x.toNat
   rw [show ((x.toNat:Nat):Int)=x by omega] at hX
   have a4:0<=x*n:=Int.mul_nonneg x0 ω
   have a5:x*n<=n*n:=Int.mul_le_mul_of_nonneg_right ω ω
   have hy:=Zj (B:=Zb3 a l x) (fun y=>(y,sqL n a l++sqX n a l x++sqR n a l x y)) (i:=0) (n:=n) ω fun y p y1=>by
    obtain ⟨s,u,e3⟩:=ZoC h ω x0 ω p (show y<(a.length:Int) by omega)
    have hR:=ZsG n l x y a
    have hl:(sqL n a l++sqX n a l x++sqR n a l x y).length<=100000:=by rw [List.length_append,List.length_append];omega
    have a0:=ZFf (n:=n) (l:=l) (x:=x) (a:=a) p
    by_cases hp:l=x\/l=n+y\/l=2*n+ix (ix a x) y
    ·rw [if_pos (by unfold sqP;simpa using hp)] at a0
     rw [a0,<-List.append_assoc]
     generalize sqL n a l++sqX n a l x++sqR n a l x y=X at hl ⊢
     by_cases c1:l=x
     ·simp (disch:=omega) only [pz,Zb3,ZcB,c]
     ·by_cases c2:l=n+y
      ·simp (disch:=omega) only [pz,Zb3,ZcB,c]
      ·simp (disch:=omega) only [pz,Zb3,ZcB,c]
    ·rw [if_neg (by unfold sqP;simpa using hp),List.append_nil] at a0
     rw [a0]
     simp (disch:=omega) only [pz,Zb3,ZcB,c]
   have j:((0:Int),sqL n a l++sqX n a l x)=(fun y:Int=>(y,sqL n a l++sqX n a l x++sqR n a l x y)) 0:=by
    show _=((0:Int),_++sqR n a l x 0)
    rw [show sqR n a l x 0=[] from rfl,List.append_nil]
   have a1:loop (Zb3 a l x) (0,sqL n a l++sqX n a l x)=some (.inl (x+1,sqL n a l++sqX n a l (x+1))):=by
    rw [j,hy]
    refine Zc ?_
    rw [ZrT x0,<-List.append_assoc]
    simp (disch:=omega) only [pz,Zb3,c]
   simp (disch:=omega) only [pz,Zfp,c,a1]
  have j:((0:Int),sqL n a l)=(fun x:Int=>(x,sqL n a l++sqX n a l x)) 0:=by
   show _=((0:Int),_++sqX n a l 0)
   rw [show sqX n a l 0=[] from rfl,List.append_nil]
  have a1:loop (Zfp a l) (0,sqL n a l)=some (.inl (l+1,sqL n a (l+1))):=by
   rw [j,hx]
   refine Zc ?_
   rw [Zs2 l0]
   simp (disch:=omega) only [pz,Zfp,c]
  simp (disch:=omega) only [pz,Zfe,c,a1]
 have s:((0:Int),([]:List Int))=(fun k:Int=>(k,tabl k fun v=>if v<3*n then v/n else 3)) 0:=rfl
 have u:((0:Int),tabl (3*n) fun v=>if v<3*n then v/n else 3)=(fun k:Int=>(k,tabl (3*n+k) fun v=>if v<3*n then v/n else 3)) 0:=by
  show _=((0:Int),tabl (3*n+0) _)
  rw [Int.add_zero]
 have e3:((0:Int),([]:List Zb))=(fun k:Int=>(k,sqL n a k)) 0:=rfl
 have k3:loop (Zfe a (sqC n)) (0,([]:List Zb))=some (.inr (.inr ⟨sqC n,sqL n a (3*n)⟩)):=by
  rw [e3,h3]
  exact Zc (by simp (disch:=omega) only [pz,Zfe,c])
 have k2:loop (ZdS a) (0,tabl (3*n) fun v=>if v<3*n then v/n else 3)=some (.inr ⟨sqC n,sqL n a (3*n)⟩):=by
  rw [u,h2]
  refine Zc ?_
  show ZdS a (n*n,sqC n)=_
  simp (disch:=omega) only [pz,ZdS,c,k3]
 rw [s,h1]
 exact Zc (by simp (disch:=omega) only [pz,ZhK,c,k2])
theorem Zz1 (hs:Sz2 a):Zez a false=some (⟨sqC a.length,sqL a.length a (3*a.length)⟩,0):=by
 unfold Zez
 have hv:=(ZoT hs).eq h
 have n1:=h.n1
 have aa:(a.length:Int)*a.length<=36:=by
  have:=Int.mul_le_mul h6 h6 ω (by omega:(0:Int)<=6)
  omega
 have j:0<=(a.length:Int)*a.length:=Int.mul_nonneg ω ω
 have a1:=ZEd h h6
 have a9:=ZqI ω h6 a a.length
 generalize hn:(a.length:Int)=n at n1 h6 aa j a1 a9 ⊢
 have h1:=Zj (B:=Zdd a false n) (fun k=>(tabl k fun v=>if v<3*n then v/n else 3,k)) (i:=0) (n:=3*n+n*n) ω fun k k0 k1=>by
  have hl:(tabl k fun v=>if v<3*n then v/n else 3).length<=54:=by rw [Zl];omega
  have a0:(tabl (k+1) fun v=>if v<3*n then v/n else 3)=_:=ZX k0
  have hd:Int.tdiv k n=k/n:=Int.tdiv_eq_ediv_of_nonneg k0
  have a5:0<=k/n:=Int.ediv_nonneg k0 ω
  have a6:k/n<=k:=Int.ediv_le_self _ k0
  have hw:ε.wrap (k/n)=k/n:=wr64 ω ω
  have l:(if (3:Int)<k/n then 3 else k/n)=if k<3*n then k/n else 3:=by
   by_cases c:k<3*n
   ·have o:k/n<3:=Int.ediv_lt_of_lt_mul ω ω
    rw [if_pos c,if_neg ω]
   ·have o:3<=k/n:=Int.le_ediv_of_mul_le ω ω
    rw [if_neg c]
    by_cases d:3<k/n
    ·rw [if_pos d]
    ·rw [if_neg d];omega
  rw [<-l] at a0
  rw [a0]
  generalize (tabl k fun v=>if v<3*n then v/n else 3)=X at hl ⊢
  simp (disch:=omega) only [pz,Zdd,ZgP,hd,hw]
 have h2:=Zj (B:=Zen a n (sqC n)) (fun k=>(sqE n a k,k)) (i:=0) (n:=n) ω fun x x0 x1=>by
  have hE:=ZqI ω h6 a x.toNat
  rw [show ((x.toNat:Nat):Int)=x by omega] at hE
  have a2:0<=n*x:=Int.mul_nonneg ω x0
  have a3:n*x<=n*n:=Int.mul_le_mul_of_nonneg_left ω ω
  have hy:=Zj (B:=ZfI a n x) (fun y=>(sqE n a x++sqU n a x y,y)) (i:=0) (n:=n) ω fun y p y1=>by
   obtain ⟨s,e2,u⟩:=ZoC h ω x0 ω p (show y<(a.length:Int) by omega)
   have hU:=Zvo n x a y.toNat
   rw [show ((y.toNat:Nat):Int)=y by omega] at hU
   have hl:(sqE n a x++sqU n a x y).length<=1000:=by rw [List.length_append];omega
   have a0:=ZrD (n:=n) (x:=x) (a:=a) p
   rw [a0,<-List.append_assoc]
   generalize sqE n a x++sqU n a x y=X at hl ⊢
   have a7:gApp 16 X (sqT n a x y)=some (X++sqT n a x y):=ZaR (by simp [sqT];omega) (by simp [sqT];omega)
   unfold sqT at a7 ⊢
   simp (disch:=omega) only [pz,ZfI,a7]
  have e0:(sqE n a x,(0:Int))=(fun y:Int=>(sqE n a x++sqU n a x y,y)) 0:=by
   show _=(_++sqU n a x 0,(0:Int))
   rw [show sqU n a x 0=[] from rfl,List.append_nil]
  have a8:loop (ZfI a n x) (sqE n a x,0)=some (.inl (sqE n a (x+1),x+1)):=by
   rw [e0,hy]
   refine Zc ?_
   rw [Zs8 x0]
   simp (disch:=omega) only [pz,ZfI]
  simp (disch:=omega) only [pz,Zen,a8]
 have s:(([]:List Int),(0:Int))=(fun k:Int=>(tabl k fun v=>if v<3*n then v/n else 3,k)) 0:=rfl
 have u:(([]:List Zb),(0:Int))=(fun k:Int=>(sqE n a k,k)) 0:=rfl
 have ai:(sqC n).length=(3*n+n*n).toNat:=Zl
 have a4:=Ztc (cs:=sqC n) (es:=sqE n a n) ω
 rw [if_neg ω,if_neg ω,a1] at a4
 have k3:loop (Zen a n (sqC n)) (([]:List Zb),0)=some (.inr (⟨sqC n,sqL n a (3*n)⟩,0)):=by
  rw [u,h2]
  exact Zc (by simp (disch:=omega) only [pz,Zen,a4])
 have k1:loop (Zdd a false n) (([]:List Int),0)=some (⟨sqC n,sqL n a (3*n)⟩,0):=by
  rw [s,h1]
  refine Zc ?_
  show Zdd a false n (sqC n,3*n+n*n)=_
  simp (disch:=omega) only [pz,Zdd,k3]
 simp (disch:=omega) only [pz,hv,Z6,hn,k1]
end
theorem ZHv {a:List (List Int)} (h:ValidSq a) (hs:Sz2 a):∃ r,Zhh a false=some r/\Zez a false=some r/\r.1.Colors.length<=64/\r.1.Edges.length<=1000:=by
 have c:=(ZmQ hs).eq h
 have n1:=h.n1
 by_cases h6:(a.length:Int)<=6
 ·have s:=ZES h h6
  have j:(a.length:Int)*a.length<=36:=by
   have:=Int.mul_le_mul h6 h6 ω (by omega:(0:Int)<=6)
   omega
  have hl:=ZrR (n:=a.length) ω h6 a (3*a.length)
  refine ⟨_,?_,Zz1 h h6 hs,?_,?_⟩
  ·unfold Zhh
   simp (disch:=omega) only [pz,c,s]
  ·show (sqC a.length).length<=64
   unfold sqC
   rw [Zl];omega
  ·show (sqL a.length a (3*a.length)).length<=1000
   rw [show ((3*a.length:Nat):Int)=3*(a.length:Int) by omega] at hl
   omega
 ·refine ⟨(nilG,5),?_,?_,by simp [nilG],by simp [nilG]⟩
  ·unfold Zhh
   simp (disch:=omega) only [pz,c];rfl
  ·unfold Zez
   have hv:=(ZoT hs).eq h
   simp (disch:=omega) only [pz,hv,Z6];rfl
def marks (k:Int) (n:Nat):List Int:=(List.range n).map fun (j:Nat)=>k+(j:Int)
theorem ZcH (k:Int) (n:Nat):(marks k n).length=n:=by unfold marks;simp
theorem ZDh {k:Int} {n j:Nat} (h:j<n):(marks k n)[j]?=some (k+(j:Int)):=by
 unfold marks;rw [List.getElem?_map,List.getElem?_range h];rfl
theorem ZER {xs:List Int} {k:Int} (h:xs.length<=4194304) (u:0<=k) (h1:k<=9100000000000000000):Zlv xs k=some (k+(xs.length:Int),marks k xs.length):=by
 unfold Zlv
 let f:Nat->Int×Int×List Int:=fun j=>(k+(j:Int),(j:Int),marks k j++xs.drop j)
 have o:f 0=(k,0,xs):=by simp [f,marks]
 have p:f xs.length=(k+(xs.length:Int),(xs.length:Int),marks k xs.length):=by simp only [f];rw [List.drop_length,List.append_nil]
 rw [<-o,Zdb f xs.length fun j y=>?_,p]
 ·refine Zc ?_
  rw [Zk3]
  have:decide ((xs.length:Int)<((marks k xs.length).length:Int))=false:=by rw [ZcH];simp
  rw [this];rfl
 ·obtain ⟨x,c⟩:=ZaC (xs:=xs) (k:=j) y
  have hl:(marks k j++xs.drop j).length=xs.length:=by rw [List.length_append,ZcH,List.length_drop];omega
  have s:(marks k j++xs.drop j)[j]?=some x:=by
   rw [List.getElem?_append_right (by rw [ZcH];omega),ZcH,Nat.sub_self,List.getElem?_drop];simpa using c
  simp only [f]
  rw [Zk3]
  have:decide ((j:Int)<((marks k j++xs.drop j).length:Int))=true:=by rw [hl];simpa using y
  rw [this,Zav s]
  simp only [cond_true,Option.bind_some]
  rw [wrapN y (by unfold M63;omega),Zaj ω ω,Int.toNat_natCast]
  have hs:(marks k j++xs.drop j).set j (k+(j:Int))=marks k (j+1)++xs.drop (j+1):=by
   rw [List.set_append,if_neg (by rw [ZcH];omega),ZcH,Nat.sub_self]
   have hd:xs.drop j=x::xs.drop (j+1):=by
    rw [List.drop_eq_getElem_cons y]
    congr 1
    have:=List.getElem?_eq_getElem (l:=xs) (i:=j) y
    rw [c] at this;exact (Option.some.inj this).symm
   rw [hd]
   unfold marks
   rw [List.range_succ,List.map_append];simp
  rw [hs,show k+(j:Int)+1=k+((j+1:Nat):Int) by omega]
theorem ZyP {n:Nat} {k:Int} (h:n<=4194304) (l:0<=k) (h1:k<=9100000000000000000):Zlb (marks k n) k=some (k+(n:Int)):=by
 unfold Zlb
 let f:Nat->Int×Int:=fun j=>(k+(j:Int),(j:Int))
 have c:f 0=(k,0):=by simp [f]
 rw [<-c,Zdb f n fun j o=>?_]
 ·refine Zc ?_
  simp only [f]
  rw [Znr]
  have:decide ((n:Int)<((marks k n).length:Int))=false:=by rw [ZcH];simp
  rw [this];rfl
 ·simp only [f]
  rw [Znr]
  have:decide ((j:Int)<((marks k n).length:Int))=true:=by rw [ZcH];simpa using o
  rw [this,Zav (ZDh o)]
  simp only [cond_true,Option.bind_some]
  have i:((k+(j:Int)) !=(k+(j:Int)))=false:=by simp
  rw [i]
  simp only [cond_false]
  rw [wrapN o (by unfold M63;omega),Zaj ω ω,show k+(j:Int)+1=k+((j+1:Nat):Int) by omega]
def marksR:Int->List (List Int)->List (List Int)
 | _,[]=>[]
 | k,r::rs=>marks k r.length::marksR (k+r.length) rs
def total:List (List Int)->Nat
 | []=>0
 | r::rs=>r.length+total rs
theorem ZjG:∀ (xs:List (List Int)),(∀ r∈xs,r.length<=4194304)->total xs<=xs.length*4194304
 | [],_=>by simp [total]
 | r::rs,h=>by
  have h1:=h r (List.mem_cons_self ..)
  have i:=ZjG rs fun x c=>h x (List.mem_cons_of_mem _ c)
  simp only [total,List.length_cons];omega
theorem Zfm:∀ (k:Int) (xs:List (List Int)),(marksR k xs).length=xs.length
 | _,[]=>rfl
 | k,r::rs=>by simp [marksR,Zfm]
theorem ZtC {xs:List (List Int)} {j:Nat} {r:List Int} (h:xs[j]?=some r):total (xs.take (j+1))=total (xs.take j)+r.length:=by
 induction xs generalizing j with
 | nil=>simp at h
 | cons x xs k=>
  cases j with
  | zero=>simp at h;subst h;simp [total]
  | succ j=>simp only [List.take_succ_cons,total];rw [k (by simpa using h)];omega
theorem Zrq {xs:List (List Int)} {j:Nat} {r:List Int} (h:xs[j]?=some r):∀ k:Int,(marksR k xs)[j]?=some (marks (k+(total (xs.take j):Int)) r.length):=by
 induction xs generalizing j with
 | nil=>simp at h
 | cons x xs l=>
  intro k
  cases j with
  | zero=>simp at h;subst h;simp [marksR,total]
  | succ j=>
   simp only [marksR,List.getElem?_cons_succ,List.take_succ_cons,total]
   rw [l (by simpa using h)]
   congr 2;omega
theorem Zoe (xs:List (List Int)) (j:Nat):total (xs.take j)<=total xs:=by
 induction xs generalizing j with
 | nil=>simp [total]
 | cons x xs k=>
  cases j with
  | zero=>simp [total]
  | succ j=>simp only [List.take_succ_cons,total];have:=k j;omega
theorem Ztg {xs:List (List Int)} {k:Int} (h:xs.length<=4194304) (hr:∀ r∈xs,r.length<=4194304) (u:0<=k) (h1:k<=9000000000000000000):Zgd xs k=some (k+(total xs:Int),marksR k xs):=by
 have a1:=ZjG xs hr
 have a3:total xs<=17592186044416:=Nat.le_trans a1 ω
 unfold Zgd
 let f:Nat->Int×Int×List (List Int):=fun j=>(k+(total (xs.take j):Int),(j:Int),(marksR k xs).take j++xs.drop j)
 have o:f 0=(k,0,xs):=by simp [f,total]
 have p:f xs.length=(k+(total xs:Int),(xs.length:Int),marksR k xs):=by
  simp only [f];rw [List.take_length,List.drop_length,List.append_nil,List.take_of_length_le (by rw [Zfm];omega)]
 rw [<-o,Zdb f xs.length fun j hj=>?_,p]
 ·refine Zc ?_
  rw [ZjF]
  have:decide ((xs.length:Int)<((marksR k xs).length:Int))=false:=by rw [Zfm];simp
  rw [this];rfl
 ·obtain ⟨r,c⟩:=ZaC (xs:=xs) (k:=j) hj
  have y:((marksR k xs).take j).length=j:=by rw [List.length_take,Zfm];omega
  have hl:((marksR k xs).take j++xs.drop j).length=xs.length:=by rw [List.length_append,y,List.length_drop];omega
  have s:((marksR k xs).take j++xs.drop j)[j]?=some r:=by
   rw [List.getElem?_append_right ω,y,Nat.sub_self,List.getElem?_drop];simpa using c
  have a4:=Zoe xs j
  simp only [f]
  rw [ZjF]
  have:decide ((j:Int)<(((marksR k xs).take j++xs.drop j).length:Int))=true:=by rw [hl];simpa using hj
  rw [this,Zav s]
  simp only [cond_true,Option.bind_some]
  rw [ZER (hr r (List.mem_of_getElem? c)) ω ω]
  simp only [Option.bind_some]
  rw [wrapN hj (by unfold M63;omega),Int.toNat_natCast]
  have hs:((marksR k xs).take j++xs.drop j).set j (marks (k+(total (xs.take j):Int)) r.length)=(marksR k xs).take (j+1)++xs.drop (j+1):=by
   rw [List.set_append,if_neg ω,y,Nat.sub_self,List.take_add_one,Zrq c]
   have hd:xs.drop j=r::xs.drop (j+1):=by
    rw [List.drop_eq_getElem_cons hj]
    congr 1
    have:=List.getElem?_eq_getElem (l:=xs) (i:=j) hj
    rw [c] at this;exact (Option.some.inj this).symm
   rw [hd];simp
  rw [hs,ZtC c,show k+(total (xs.take j):Int)+(r.length:Int)=k+((total (xs.take j)+r.length:Nat):Int) by omega]
theorem ZsA {l:List Int} {hi:Int} (h:Rising l 0 hi):∀ n:Nat,(n:Int)<l.length->(n:Int)<=ix l n
 | 0,c=>(h 0 ω c).1.1
 | n+1,c=>by
  have:=ZsA h n ω
  have i:=(h ((n+1:Nat):Int) ω c).2 ω
  rw [show ((n+1:Nat):Int)-1=(n:Int) by omega] at i
  omega
theorem ZzY {l:List Int} {lo hi:Int} (h:Rising l lo hi):l.Nodup:=by
 unfold List.Nodup
 rw [List.pairwise_iff_getElem]
 intro i j hi u o
 have h1:=ZGI h (i:=(i:Int)) (j:=(j:Int)) ω ω ω
 have c:=Zah (xs:=l) (i:=(i:Int)) ω ω
 have k:=Zah (xs:=l) (i:=(j:Int)) ω ω
 rw [Int.toNat_natCast,List.getElem?_eq_getElem ω] at c k
 rw [Option.some.inj c,Option.some.inj k]
 omega
theorem ZGU {d:Zaf} (h:ValidD d):Sts d.Points d.Blocks where
 v0:=by have:=h.p1;omega
 v1:=by have:=h.p2;omega
 m:=by have:=h.len;omega
 len:=fun s hs=>by
  obtain ⟨k,k0,k1,rfl⟩:=Z0 hs
  have y:=(h.blk k k0 k1).2
  have o:=h.p2
  by_cases hz:(ix d.Blocks k).length=0
  ·omega
  ·have p:=ZsA y ((ix d.Blocks k).length-1) ω
   have u:=(y (((ix d.Blocks k).length-1:Nat):Int) ω ω).1.2
   omega
 nd:=fun s hs=>by
  obtain ⟨k,k0,k1,rfl⟩:=Z0 hs
  exact ZzY (h.blk k k0 k1).2
 rng:=fun s hs x c=>by
  obtain ⟨k,k0,k1,rfl⟩:=Z0 hs
  obtain ⟨j,i,l,rfl⟩:=Z0 c
  have:=((h.blk k k0 k1).2 j i l).1
  omega
theorem Zq6 {v m:Int} {rel:Int->Int->Bool} (v0:0<=v) (i:0<=m):(bipG v m rel).1.Colors.length<=1000/\(bipG v m rel).1.Edges.length<=1000:=by
 unfold bipG
 by_cases c:v+m>64
 ·rw [if_pos c];exact ⟨Nat.zero_le _,Nat.zero_le _⟩
 ·rw [if_neg c]
  by_cases d:((bipK v m rel v).length:Int)>512
  ·rw [if_pos d];exact ⟨Nat.zero_le _,Nat.zero_le _⟩
  ·rw [if_neg d]
   have j:=ZqZ (z:=v) (o:=m)
   exact ⟨by show (cols v m).length<=1000;omega,by show (bipK v m rel v).length<=1000;omega⟩
theorem ZDj {o:Zg} (hs:Sz2 o.Rows) (hv:Zat o=some true) (hi:Zb5 o=some true):∃ r,Zcn o=some r/\Zcp o=some r/\r.1.Colors.length<=1000/\r.1.Edges.length<=1000:=by
 have e:Zg.mk o.Kind o.Size o.Rows=o:=rfl
 have eG:∀ r:Za×Int,(Za.mk r.1.Colors r.1.Edges,r.2)=r:=fun r=>rfl
 have eH:∀ r:Za,Za.mk r.Colors r.Edges=r:=fun r=>rfl
 have hN:=hs.1
 by_cases h1:o.Kind=1
 ·have j:ValidSq o.Rows:=by
   refine Classical.byContradiction fun p=>?_
   have j:=(ZmQ hs).ne p
   have:Zat o=some false:=by unfold Zat;simp (disch:=omega) only [pz,j]
   rw [hv] at this;cases this
  obtain ⟨r,c,k,l,u⟩:=ZHv j hs
  refine ⟨r,?_,?_,by omega,u⟩
  ·unfold Zcn;simp (disch:=omega) only [pz,c,eG]
  ·unfold Zcp;simp (disch:=omega) only [pz,k,eG]
 by_cases h2:o.Kind=2
 ·have j:ValidD ⟨o.Size,o.Rows⟩:=by
   refine Classical.byContradiction fun p=>?_
   have j:=(ZuF (d:=⟨o.Size,o.Rows⟩) hs).ne p
   have:Zat o=some false:=by unfold Zat;simp (disch:=omega) only [pz,j]
   rw [hv] at this;cases this
  have a1:=ZGU j
  have c:=ZzD a1
  have k:=Zr5 a1
  have l:=(ZuT (d:=⟨o.Size,o.Rows⟩) hs).eq j
  have y:0<=o.Size:=a1.v0
  obtain ⟨z1,z2⟩:=Zq6 (v:=o.Size) (m:=(o.Rows.length:Int)) (rel:=fun x i=>decide (x∈ix o.Rows i)) y ω
  refine ⟨bipG o.Size o.Rows.length fun x i=>decide (x∈ix o.Rows i),?_,?_,z1,z2⟩
  ·unfold Zcn
   dsimp only at c
   simp (disch:=omega) only [pz,c,eG]
  ·unfold Zcp
   dsimp only at k
   simp (disch:=omega) only [pz,e,Zh7,Zb0 hs,ZnC,l,k,eG]
 by_cases h5:o.Kind=5
 ·obtain ⟨f,inv,s⟩:=Zyq hs hv h5
  obtain ⟨r,c,k,l⟩:=ZH3 hs s
  have a2:=s.cs
  have a4:=s.ci
  have eF:Ze.mk f.Prime f.Degree f.Poly=f:=rfl
  have hz:r.1.Colors.length<=1000/\r.1.Edges.length<=1000:=by
   rcases l with rfl|⟨v,m,rel,v0,m0,rfl⟩
   ·exact ⟨Nat.zero_le _,Nat.zero_le _⟩
   ·exact Zq6 v0 m0
  refine ⟨r,?_,?_,hz⟩
  ·unfold Zcn
   simp (disch:=omega) only [pz,a2,eF,c,eG]
  ·unfold Zcp
   simp (disch:=omega) only [pz,e,a4,k,eG]
 by_cases h6:o.Kind=6
 ·obtain ⟨r,c,k,l,u⟩:=Zvg hs
  have hr:r.2=true:=by
   have:Zat o=some r.2:=by unfold Zat;simp (disch:=omega) only [pz,c]
   rw [hv] at this
   exact (Option.some.inj this).symm
  have hz:=l hr
  refine ⟨(r.1,0),?_,?_,by dsimp only;omega,by dsimp only;omega⟩
  ·unfold Zcn
   simp (disch:=omega) only [pz,c,eH]
  ·unfold Zcp
   simp (disch:=omega) only [pz,e,Zmw,ZpK,hi,k,eH]
 ·refine ⟨(nilG,6),?_,?_,Nat.zero_le _,Nat.zero_le _⟩
  ·unfold Zcn;simp (disch:=omega) only [pz,];rfl
  ·unfold Zcp;simp (disch:=omega) only [pz,];rfl
theorem ZA5 {o:Zg} (hs:Sz2 o.Rows) (B:Int):∃ r,Zja o B=some r/\ZjT o B=some r:=by
 have e:Zg.mk o.Kind o.Size o.Rows=o:=rfl
 obtain ⟨c,h1,j⟩:=Zjs hs
 unfold Zja ZjT
 have k:=in_ok B 1 20000
 have i:=ZsB B
 cases c
 ·exact ⟨(⟨#[]⟩,1),by simp (disch:=omega) only [pz,e,h1],by simp (disch:=omega) only [pz,e,j]⟩
 by_cases hB:1<=B/\B<=20000
 ·rw [decide_eq_true hB] at k i
  obtain ⟨r,l,p,s,u⟩:=ZDj hs h1 j
  have eH:∀ r:Za,Za.mk r.Colors r.Edges=r:=fun r=>rfl
  by_cases y:r.2=0
  ·obtain ⟨x,k1,k2⟩:=ZHD (g:=r.1) ω ω hB.1 hB.2
   exact ⟨x,by simp (disch:=omega) only [pz,e,h1,k,l,eH,k1],by simp (disch:=omega) only [pz,e,j,i,p,eH,k2]⟩
  ·exact ⟨(⟨#[]⟩,r.2),by simp (disch:=omega) only [pz,e,h1,k,l],by simp (disch:=omega) only [pz,e,j,i,p]⟩
 ·rw [decide_eq_false hB] at k i
  exact ⟨(⟨#[]⟩,2),by simp (disch:=omega) only [pz,e,h1,k],by simp (disch:=omega) only [pz,e,j,i]⟩
theorem Zwu {a:Z1} (h:ZkO a):Sz2 (ZeT a).Rows:=by
 have e:(ZeT a).Rows=a.Rows:=by simp [ZeT]
 rw [e]
 exact ⟨by have:=h.1;omega,fun b c=>by have:=(h.2 b c).1;omega⟩
theorem ZeZ (s:ByteArray):(byts s).length=s.size:=by
 unfold byts
 rw [List.length_map,Array.length_toList];rfl
theorem Zpd {s:ByteArray} {i:Int} (j:0<=i) (h1:i<(s.size:Int)):∃ c:UInt8,gSt s i=some c/\(c.toNat:Int)=ix (byts s) i:=by
 have hl:i.toNat<s.size:=ω
 refine ⟨s[i.toNat],?_,?_⟩
 ·unfold gSt
  rw [if_pos j]
  exact getElem?_pos s i.toNat hl
 ·have k:i.toNat<(byts s).length:=by rw [ZeZ];exact hl
  have:(byts s)[i.toNat]?=some ((s[i.toNat]).toNat:Int):=by
   rw [List.getElem?_eq_getElem k]
   simp [byts]
   rfl
  have l:=Zah (xs:=byts s) j (by rw [ZeZ];exact h1)
  rw [this] at l
  exact Option.some.inj l
structure Nam (s:ByteArray):Prop where
 s1:1<=(s.size:Int)
 s2:(s.size:Int)<=10
 fst:97<=ix (byts s) 0/\ix (byts s) 0<=122
 all:∀ i,0<=i->i<(s.size:Int)->(97<=ix (byts s) i/\ix (byts s) i<=122)\/(48<=ix (byts s) i/\ix (byts s) i<=57)
theorem Zos (s:ByteArray):IsQ (ZhI s) (Nam s):=by
 unfold ZhI ZpZ
 by_cases p:(s.size:Int)=0
 ·have e:s=⟨#[]⟩:=by
   have:s.data=#[]:=Array.eq_empty_of_size_eq_zero (by have:s.size=s.data.size:=rfl;omega)
   cases s;simp at this;rw [this]
  rw [(Zbw s ⟨#[]⟩).2 e]
  exact IsQ.f fun h=>by have:=h.s1;omega
 ·have ne:(s.toList==(⟨#[]⟩:ByteArray).toList)=false:=by
   cases y:s.toList==(⟨#[]⟩:ByteArray).toList with
   | false=>rfl
   | true=>
    have:=(Zbw s ⟨#[]⟩).1 y
    rw [this] at p
    exact absurd rfl p
  rw [ne]
  by_cases k:(s.size:Int)<=10
  ·obtain ⟨c,j,he⟩:=Zpd (s:=s) (i:=0) ω ω
   by_cases hf:97<=ix (byts s) 0/\ix (byts s) 0<=122
   ·simp (disch:=omega) only [pz,j,Zbn,he]
    refine (Zar (P:=fun i=>(97<=ix (byts s) i/\ix (byts s) i<=122)\/(48<=ix (byts s) i/\ix (byts s) i<=57)) (n:=s.size) (Q:=True) ω ?_ ?_ fun _=>?_).congr ⟨fun g=>⟨by omega,k,hf,g.1⟩,fun g=>⟨g.all,trivial⟩⟩
    ·intro i l o g2
     obtain ⟨c,j,he⟩:=Zpd (s:=s) l o
     by_cases hl:97<=ix (byts s) i
     ·by_cases a1:ix (byts s) i<=122
      ·simp (disch:=omega) only [pz,Zc7,j,Zbn,Zdx,he]
      ·omega
     ·simp (disch:=omega) only [pz,Zc7,j,Zbn,Zdx,he]
    ·intro i l o g2
     obtain ⟨c,j,he⟩:=Zpd (s:=s) l o
     by_cases hl:97<=ix (byts s) i
     ·simp (disch:=omega) only [pz,Zc7,j,Zbn,Zdx,he]
     ·by_cases hd:48<=ix (byts s) i
      ·simp (disch:=omega) only [pz,Zc7,j,Zbn,Zdx,he]
      ·simp (disch:=omega) only [pz,Zc7,j,Zbn,Zdx,he]
    ·rw [Zc (r:=true) (by simp (disch:=omega) only [pz,Zc7])];exact IsQ.t trivial
   ·have u:IsQ (some false) (Nam s):=IsQ.f fun h=>hf h.fst
    by_cases hl:97<=ix (byts s) 0
    ·simp (disch:=omega) only [pz,j,Zbn,he];exact u
    ·simp (disch:=omega) only [pz,j,Zbn,he];exact u
  ·simp (disch:=omega) only [pz,]
   exact IsQ.f fun h=>k h.s2
theorem Zm3 (s:ByteArray):IsQ (Zgy s) (Nam s):=by
 have y:=ZeZ s
 unfold Zgy Zpp
 by_cases u:(s.size:Int)<1
 ·simp (disch:=omega) only [pz,]
  exact IsQ.f fun h=>by have:=h.s1;omega
 ·by_cases c:(s.size:Int)<=10
  ·simp (disch:=omega) only [pz,]
   refine (Zar (P:=fun i=>(97<=ix (byts s) i/\ix (byts s) i<=122)\/(¬ i=0/\48<=ix (byts s) i/\ix (byts s) i<=57)) (n:=s.size) (Q:=True) ω ?_ ?_ fun _=>?_).congr ⟨fun g=>⟨by omega,c,?_,fun i a b=>?_⟩,fun g=>⟨fun i a b=>?_,trivial⟩⟩
   ·intro i j k l
    by_cases hl:97<=ix (byts s) i
    ·by_cases p:ix (byts s) i<=122
     ·simp (disch:=omega) only [pz,ZbM,Za2,Za3]
     ·omega
    ·simp (disch:=omega) only [pz,ZbM,Za2,Za3]
   ·intro i j k l
    by_cases hl:97<=ix (byts s) i
    ·by_cases hz:i=0
     ·simp (disch:=omega) only [pz,ZbM,Za2,Za3]
     ·simp (disch:=omega) only [pz,ZbM,Za2,Za3]
    ·by_cases hz:i=0
     ·by_cases hd:48<=ix (byts s) i
      ·simp (disch:=omega) only [pz,ZbM,Za2,Za3]
      ·simp (disch:=omega) only [pz,ZbM,Za2,Za3]
     ·by_cases hd:48<=ix (byts s) i
      ·simp (disch:=omega) only [pz,ZbM,Za2,Za3]
      ·simp (disch:=omega) only [pz,ZbM,Za2,Za3]
   ·rw [Zc (r:=true) (by simp (disch:=omega) only [pz,ZbM])];exact IsQ.t trivial
   ·have:=g.1 0 ω ω;omega
   ·have:=g.1 i a b;omega
   ·have h1:=g.all i a b
    have o:=g.fst
    by_cases hz:i=0
    ·subst hz;exact .inl o
    ·omega
  ·simp (disch:=omega) only [pz,]
   exact IsQ.f fun h=>c h.s2
instance :Inhabited Zd:=⟨⟨⟨#[]⟩,⟨0,0,[]⟩,⟨#[]⟩⟩⟩
def ObjV (o:Zg):Prop:=Zat o=some true
theorem ZtR {o:Zg} (hs:Sz2 o.Rows):IsQ (Zat o) (ObjV o):=by
 obtain ⟨c,h1,i⟩:=Zjs hs
 refine ⟨c,h1,?_⟩
 unfold ObjV
 rw [h1]
 exact ⟨fun h=>by rw [h],fun h=>Option.some.inj h⟩
theorem Ztv {o:Zg} (hs:Sz2 o.Rows):IsQ (Zb5 o) (ObjV o):=by
 obtain ⟨c,h1,i⟩:=Zjs hs
 refine ⟨c,i,?_⟩
 unfold ObjV
 rw [h1]
 exact ⟨fun h=>by rw [h],fun h=>Option.some.inj h⟩
structure ItemV (x:Zd):Prop where
 nam:Nam x.Name
 obj:ObjV x.Object
 k1:1<=(x.Key.size:Int)
 k2:(x.Key.size:Int)<=4000
theorem ZpG {x:Zd} (hs:Sz2 x.Object.Rows):IsQ (Zkg x) (ItemV x):=by
 have e:Zg.mk x.Object.Kind x.Object.Size x.Object.Rows=x.Object:=rfl
 unfold Zkg
 by_cases h1:Nam x.Name
 ·have c:=(Zos x.Name).eq h1
  by_cases i:ObjV x.Object
  ·have q2:=(ZtR hs).eq i
   by_cases j:1<=(x.Key.size:Int)
   ·by_cases k:(x.Key.size:Int)<=4000
    ·simp (disch:=omega) only [pz,c,e,q2];exact IsQ.t ⟨h1,i,j,k⟩
    ·simp (disch:=omega) only [pz,c,e,q2];exact IsQ.f fun h=>k h.k2
   ·simp (disch:=omega) only [pz,c,e,q2];exact IsQ.f fun h=>j h.k1
  ·have q2:=(ZtR hs).ne i
   simp (disch:=omega) only [pz,c,e,q2];exact IsQ.f fun h=>i h.obj
 ·have c:=(Zos x.Name).ne h1
  simp (disch:=omega) only [pz,c];exact IsQ.f fun h=>h1 h.nam
theorem Zo8 {x:Zd} (hs:Sz2 x.Object.Rows):IsQ (Zjc x) (ItemV x):=by
 have e:Zg.mk x.Object.Kind x.Object.Size x.Object.Rows=x.Object:=rfl
 unfold Zjc
 by_cases h1:Nam x.Name
 ·have c:=(Zm3 x.Name).eq h1
  by_cases i:ObjV x.Object
  ·have q2:=(Ztv hs).eq i
   by_cases j:1<=(x.Key.size:Int)
   ·by_cases k:(x.Key.size:Int)<=4000
    ·simp (disch:=omega) only [pz,c,e,q2];exact IsQ.t ⟨h1,i,j,k⟩
    ·simp (disch:=omega) only [pz,c,e,q2];exact IsQ.f fun h=>k h.k2
   ·simp (disch:=omega) only [pz,c,e,q2];exact IsQ.f fun h=>j h.k1
  ·have q2:=(Ztv hs).ne i
   simp (disch:=omega) only [pz,c,e,q2];exact IsQ.f fun h=>i h.obj
 ·have c:=(Zm3 x.Name).ne h1
  simp (disch:=omega) only [pz,c];exact IsQ.f fun h=>h1 h.nam
theorem Ziu:∀ a b:List UInt8,(Op.bytesLess a b||a==b)=!Op.bytesLess b a
 | [],[]=>rfl
 | [],b::y=>rfl
 | a::x,[]=>rfl
 | a::x,b::y=>by
  have o:=Ziu x y
  show ((decide (a<b)||(a==b&&Op.bytesLess x y))||((a::x)==(b::y)))=!(decide (b<a)||(b==a&&Op.bytesLess y x))
  rw [show ((a::x)==(b::y))=(a==b&&x==y) from rfl]
  by_cases h:a=b
  ·subst h
   have h1:decide (a<a)=false:=by simp
   rw [h1,beq_self_eq_true]
   simpa using o
  ·have h1:(a==b)=false:=by simpa using h
   have c:(b==a)=false:=by simpa using fun e=>h e.symm
   rw [h1,c]
   simp only [Bool.false_and,Bool.or_false]
   have i:a<b\/b<a:=by
    rcases Nat.lt_or_gt_of_ne (fun e=>h (UInt8.toNat_inj.1 e)) with g|g
    ·exact .inl (UInt8.lt_iff_toNat_lt.2 g)
    ·exact .inr (UInt8.lt_iff_toNat_lt.2 g)
   rcases i with g|g
   ·have:¬ b<a:=fun l=>by
     have j:=UInt8.lt_iff_toNat_lt.1 g
     have k:=UInt8.lt_iff_toNat_lt.1 l
     omega
    simp [g,this]
   ·have:¬ a<b:=fun l=>by
     have j:=UInt8.lt_iff_toNat_lt.1 g
     have k:=UInt8.lt_iff_toNat_lt.1 l
     omega
    simp [g,this]
def Like (a b:Zd):Prop:=a.Object.Kind=b.Object.Kind/\a.Key=b.Key
theorem ZlJ (a b:Zd):IsQ (Zfr a b) (Like a b):=by
 unfold Zfr Like
 by_cases h:a.Object.Kind=b.Object.Kind
 ·simp (disch:=omega) only [pz,]
  exact ⟨_,rfl,by rw [Zbw];simp [h]⟩
 ·simp (disch:=omega) only [pz,]
  exact IsQ.f fun g=>h g.1
theorem ZrH (a b:Zd):IsQ (Zol a b) (Like a b):=ZlJ a b
def Szc (c:List Zd):Prop:=(c.length:Int)<=1048576/\∀ x∈c,Sz2 x.Object.Rows
structure At (c:List Zd) (i:Int):Prop where
 item:ItemV (ix c i)
 ord:0<i->Op.bytesLess (ix c (i-1)).Name.toList (ix c i).Name.toList=true
 new:∀ j,0<=j->j<i->¬ Like (ix c i) (ix c j)
structure CatV (c:List Zd):Prop where
 at_:∀ i,0<=i->i<(c.length:Int)->At c i
 n:(c.length:Int)<=24
theorem Zt3 {c:Zi} {i:Int} (hs:Szc c.Items) (l:0<=i) (h1:i<(c.Items.length:Int)):∃ b:Bool,Zg0 c i=some (bif b then .inl (i+1) else .inr false)/\(b=true↔∀ j,0<=j->j<i->¬ Like (ix c.Items i) (ix c.Items j)):=by
 have o:=hs.1
 unfold Zg0
 refine ZcA (B:=ZgA c i) (P:=fun j=>¬ Like (ix c.Items i) (ix c.Items j)) (t:=.inl (i+1)) (f:=.inr false) (i:=0) (n:=i) ω (fun k a b g=>?_) (fun k a b g=>?_) ?_
 ·have q:=(ZlJ (ix c.Items i) (ix c.Items k)).ne g
  simp (disch:=omega) only [pz,ZgA,q]
 ·have q:=(ZlJ (ix c.Items i) (ix c.Items k)).eq (Classical.byContradiction g)
  simp (disch:=omega) only [pz,ZgA,q]
 ·simp (disch:=omega) only [pz,ZgA]
theorem Zup {c:Zi} (hs:Szc c.Items):IsQ (Zjj c) (CatV c.Items):=by
 have y:=hs.1
 unfold Zjj
 refine (Zar (P:=At c.Items) (n:=c.Items.length) (Q:=(c.Items.length:Int)<=24) ω ?_ ?_ fun _=>?_).congr ⟨fun g=>⟨g.1,g.2⟩,fun g=>⟨g.at_,g.n⟩⟩
 ·intro i k l o
  have j:=(ZpG (hs.2 _ (Zn k l))).eq o.item
  obtain ⟨b,n1,n2⟩:=Zt3 hs k l
  rw [n2.2 o.new] at n1
  by_cases hi:0<i
  ·have u:=o.ord hi
   simp (disch:=omega) only [pz,Zca,j,u,n1]
  ·simp (disch:=omega) only [pz,Zca,j,n1]
 ·intro i k l o
  by_cases h1:ItemV (ix c.Items i)
  ·have j:=(ZpG (hs.2 _ (Zn k l))).eq h1
   obtain ⟨b,n1,n2⟩:=Zt3 hs k l
   by_cases hi:0<i
   ·cases u:Op.bytesLess (ix c.Items (i-1)).Name.toList (ix c.Items i).Name.toList with
    | false=>simp (disch:=omega) only [pz,Zca,j,u]
    | true=>
     have:b=false:=by
      cases b with
      | false=>rfl
      | true=>exact absurd ⟨h1,fun _=>u,n2.1 rfl⟩ o
     rw [this] at n1
     simp (disch:=omega) only [pz,Zca,j,u,n1]
   ·have:b=false:=by
     cases b with
     | false=>rfl
     | true=>exact absurd ⟨h1,fun h=>absurd h hi,n2.1 rfl⟩ o
    rw [this] at n1
    simp (disch:=omega) only [pz,Zca,j,n1]
  ·have j:=(ZpG (hs.2 _ (Zn k l))).ne h1
   simp (disch:=omega) only [pz,Zca,j]
 ·by_cases h:(c.Items.length:Int)<=24
  ·rw [Zc (r:=true) (by simp (disch:=omega) only [pz,Zca])];exact IsQ.t h
  ·rw [Zc (r:=false) (by simp (disch:=omega) only [pz,Zca])];exact IsQ.f h
theorem Zqx {c:List Zd} {x:Zd} {i:Int} (hN:(c.length:Int)<=1048576) (h0:0<=i) (h1:i<=(c.length:Int)):∃ r:Int,ZcT (c.take i.toNat) x=some r/\(r<0↔∀ j,0<=j->j<i->¬ Like x (ix c j)):=by
 unfold ZcT Zln
 have hl:(c.take i.toNat).length=i.toNat:=by rw [List.length_take];omega
 have hf:∀ y∈c.take i.toNat,IsQ (Zcc y x) (Like x y):=fun y _=>(ZrH x y).bind_id
 obtain ⟨r,s,u⟩:=ZoI (xs:=c.take i.toNat) (B:=Zch (c.take i.toNat) (fun l=>Zcc l x)) (f:=fun l=>Zcc l x) (q:=fun y=>Like x y) (by unfold M63;omega) hf
  (fun k y hy=>by
   have:=ZY hy
   simp (disch:=omega) only [pz,Zch]
   rw [ZP hy])
  (by simp (disch:=omega) only [pz,Zch])
 refine ⟨r,?_,?_⟩
 ·show (loop (Zch (c.take i.toNat) (fun l=>Zcc l x)) 0).bind _=_
  rw [s];rfl
 ·rcases u with ⟨h4,o⟩|⟨k,y,h4,o,h6,_⟩
  ·refine ⟨fun _ j p j1=>?_,fun _=>by omega⟩
   have:=o (ix c j) (by
    rw [<-Zct (i:=i) p j1]
    exact Zn p ω)
   exact this
  ·refine ⟨fun h=>by omega,fun h=>?_⟩
   have hk:=ZY o
   have e:=ZP o
   rw [Zct (i:=i) ω ω] at e
   rw [<-e] at h6
   exact absurd h6 (h k ω ω)
theorem Zxp {c:Zi} (hs:Szc c.Items):IsQ (ZkF c) (CatV c.Items):=by
 have hN:=hs.1
 have u:∀ x:Zd,Zd.mk x.Name (Zg.mk x.Object.Kind x.Object.Size x.Object.Rows) x.Key=x:=fun x=>rfl
 unfold ZkF
 have tk:∀ i:Int,0<=i->i<(c.Items.length:Int)->gSl c.Items 0 i=some (c.Items.take i.toNat):=fun i a b=>by
  rw [ZbG ω ω ω];rfl
 refine (Zar (P:=At c.Items) (n:=c.Items.length) (Q:=(c.Items.length:Int)<=24) ω ?_ ?_ fun _=>?_).congr ⟨fun g=>⟨g.1,g.2⟩,fun g=>⟨g.at_,g.n⟩⟩
 ·intro i j k p
  have l:=(Zo8 (hs.2 _ (Zn j k))).eq p.item
  obtain ⟨r,n1,n2⟩:=Zqx (x:=ix c.Items i) hN j (Int.le_of_lt k)
  have hr:=n2.2 p.new
  have ht:=tk i j k
  by_cases hi:0<i
  ·have y:=p.ord hi
   have o:=Ziu (ix c.Items i).Name.toList (ix c.Items (i-1)).Name.toList
   rw [y] at o
   simp (disch:=omega) only [pz,Zb4,u,l,o,ht,n1]
  ·simp (disch:=omega) only [pz,Zb4,u,l,ht,n1]
 ·intro i j k p
  have ht:=tk i j k
  by_cases h1:ItemV (ix c.Items i)
  ·have l:=(Zo8 (hs.2 _ (Zn j k))).eq h1
   obtain ⟨r,n1,n2⟩:=Zqx (x:=ix c.Items i) hN j (Int.le_of_lt k)
   by_cases hi:0<i
   ·have o:=Ziu (ix c.Items i).Name.toList (ix c.Items (i-1)).Name.toList
    cases y:Op.bytesLess (ix c.Items (i-1)).Name.toList (ix c.Items i).Name.toList with
    | false=>
     rw [y] at o
     simp (disch:=omega) only [pz,Zb4,u,l,o]
    | true=>
     rw [y] at o
     have:¬ r<0:=fun h=>p ⟨h1,fun _=>y,n2.1 h⟩
     simp (disch:=omega) only [pz,Zb4,u,l,o,ht,n1]
   ·have:¬ r<0:=fun h=>p ⟨h1,fun h=>absurd h hi,n2.1 h⟩
    simp (disch:=omega) only [pz,Zb4,u,l,ht,n1]
  ·have l:=(Zo8 (hs.2 _ (Zn j k))).ne h1
   simp (disch:=omega) only [pz,Zb4,u,l]
 ·by_cases h:(c.Items.length:Int)<=24
  ·rw [Zc (r:=true) (by simp (disch:=omega) only [pz,Zb4])];exact IsQ.t h
  ·rw [Zc (r:=false) (by simp (disch:=omega) only [pz,Zb4])];exact IsQ.f h
theorem ZEE {r:List (List Int)} (h:SmL (SmL (fun _=>True)) r):Sz2 (List.map (List.map fun x=>x) r):=by
 have e:List.map (List.map fun x=>x) r=r:=by simp
 rw [e]
 exact ⟨by have:=h.1;omega,fun b c=>by have:=(h.2 b c).1;omega⟩
theorem ZBa {a:Zae} (h:Zp0 a):Szc (Zhs a).Items:=by
 refine ⟨?_,fun x c=>?_⟩
 ·have:(Zhs a).Items.length=a.Items.length:=by simp [Zhs]
  have:=h.1
  omega
 ·obtain ⟨y,j,rfl⟩:=List.mem_map.1 (show x∈a.Items.map Zh4 from c)
  exact ZEE (h.2 y j)
theorem Ztf {c:Zi} (h:Szc c.Items):Zq2 c:=by
 refine ⟨by unfold M63;have:=h.1;omega,fun x i=>?_⟩
 have j:=h.2 x i
 exact ⟨by unfold M63;have:=j.1;omega,fun y k=>⟨by unfold M63;have:=j.2 y k;omega,fun _ _=>trivial⟩⟩
theorem Zz6 {xs:List (List Int)} {k:Int} (h:xs.length<=4194304) (hr:∀ r∈xs,r.length<=4194304) (p:0<=k) (h1:k<=9000000000000000000):ZlY (marksR k xs) k=some (k+(total xs:Int)):=by
 have u:=ZjG xs hr
 have a2:total xs<=17592186044416:=Nat.le_trans u ω
 unfold ZlY
 let f:Nat->Int×Int:=fun j=>(k+(total (xs.take j):Int),(j:Int))
 have i:f 0=(k,0):=by simp [f,total]
 have l:f xs.length=(k+(total xs:Int),(xs.length:Int)):=by simp only [f];rw [List.take_length]
 rw [<-i,Zdb f xs.length fun j hj=>?_,l]
 ·refine Zc ?_
  rw [Znc]
  have:decide ((xs.length:Int)<((marksR k xs).length:Int))=false:=by rw [Zfm];simp
  rw [this];rfl
 ·obtain ⟨r,c⟩:=ZaC (xs:=xs) (k:=j) hj
  have a3:=Zoe xs j
  have o:=Zoe xs (j+1)
  simp only [f]
  rw [Znc]
  have:decide ((j:Int)<((marksR k xs).length:Int))=true:=by rw [Zfm];simpa using hj
  rw [this,Zav (Zrq c k)]
  simp only [cond_true,Option.bind_some]
  rw [ZyP (hr r (List.mem_of_getElem? c)) ω ω]
  simp only [Option.bind_some]
  have y:decide (k+(total (xs.take j):Int)+(r.length:Int)<0)=false:=by simp;omega
  rw [y]
  simp only [cond_false]
  rw [wrapN hj (by unfold M63;omega),ZtC c,show k+(total (xs.take j):Int)+(r.length:Int)=k+((total (xs.take j)+r.length:Nat):Int) by omega]
theorem Zvq {a b:ByteArray} (h:a.size+b.size<=1000):gFit a b=some ():=by
 unfold gFit
 rw [if_pos]
 have:IntKind.i64.max=9223372036854775807:=rfl
 omega
theorem gByt1 {x:Int} (c:0<=x) (h1:x<=255):gByt [x]=some (bstr [x]):=by
 unfold gByt
 rw [if_pos]
 intro y j
 simp at j
 omega
theorem bstr1 (x:Int):(bstr [x]).size=1:=rfl
theorem ZFa (a b:ByteArray):(a++b).size=a.size+b.size:=by simp
theorem Zv0:∀ (n:Nat) (k:Int) (o:ByteArray),0<=k->k<10^n->k<=9223372036854775807->o.size+n<=100->∃ t,loop ZgX (k,o)=some t:=by
 have u:∀ o:ByteArray,o.size<=100->loop ZgX (0,o)=some ((⟨#[109]⟩:ByteArray)++o):=fun o h=>by
  have y:gFit ⟨#[109]⟩ o=some ():=Zvq (by show 1+o.size<=1000;omega)
  refine Zc ?_
  simp (disch:=omega) only [pz,ZgX,y]
 intro n
 induction n with
 | zero=>
  intro k o c h1 _ i
  have:k=0:=by simp at h1;omega
  subst this
  exact ⟨_,u o ω⟩
 | succ n ih=>
  intro k o c h1 l i
  by_cases hk:k=0
  ·subst hk;exact ⟨_,u o ω⟩
  ·have hm:Int.tmod k 10=k%10:=Int.tmod_eq_emod_of_nonneg c
   have hd:Int.tdiv k 10=k/10:=Int.tdiv_eq_ediv_of_nonneg c
   have w1:ε.wrap (48+k%10)=48+k%10:=Zaj ω ω
   have w2:IntKind.u8.wrap (48+k%10)=48+k%10:=u8_of ω ω
   have j:=gByt1 (x:=48+k%10) ω ω
   have y:gFit (bstr [48+k%10]) o=some ():=Zvq (by rw [bstr1];omega)
   have hp:k/10<10^n:=by
    have e:(10:Int)^(n+1)=10^n*10:=Int.pow_succ ..
    omega
   obtain ⟨t,ht⟩:=ih (k/10) (bstr [48+k%10]++o) ω hp ω (by rw [ZFa,bstr1];omega)
   refine ⟨t,?_⟩
   rw [<-ht]
   refine Zv ?_
   simp (disch:=omega) only [pz,ZgX,hm,hd,w1,w2,j,y]
theorem mtext {k:Int} (h1:k<=9223372036854775807):∃ t,Zb8 k=some t:=by
 unfold Zb8
 by_cases h:k<=0
 ·exact ⟨⟨#[109,48]⟩,by simp (disch:=omega) only [pz,]⟩
 ·obtain ⟨t,j⟩:=Zv0 19 k ⟨#[]⟩ ω ω h1 (by decide)
  exact ⟨t,by simp (disch:=omega) only [pz,j]⟩
noncomputable def mtx (k:Int):ByteArray:=(Zb8 k).getD ⟨#[]⟩
theorem Zlj {k:Int} (h1:k<=9223372036854775807):Zb8 k=some (mtx k):=by
 obtain ⟨t,j⟩:=mtext h1
 unfold mtx
 rw [j];rfl
instance :Inhabited ByteArray:=⟨⟨#[]⟩⟩
noncomputable def mIt (k:Int) (x:Zd):Zd:=⟨mtx k,⟨k+1,k+1+1,marksR (k+1+1+1) x.Object.Rows⟩,mtx (k+1+1+1+(total x.Object.Rows:Int))⟩
def kIt (k:Int) (x:Zd):Int:=k+1+1+1+(total x.Object.Rows:Int)+1
noncomputable def mItems:Int->List Zd->List Zd
 | _,[]=>[]
 | k,x::xs=>mIt k x::mItems (kIt k x) xs
def kItems:Int->List Zd->Int
 | k,[]=>k
 | k,x::xs=>kItems (kIt k x) xs
theorem ZrY:∀ (k:Int) (xs:List Zd),(mItems k xs).length=xs.length
 | _,[]=>rfl
 | k,x::xs=>by simp [mItems,ZrY]
theorem Zgl {r:List (List Int)} (h:Sz2 r):total r<=4398046511104:=by
 have h1:=h.1
 have i:=ZjG r fun x c=>by have:=h.2 x c;omega
 omega
theorem gMid {α:Type} {A C:List α} {y:α}:gIdx (A++y::C) (A.length:Int)=some y:=by
 unfold gIdx
 rw [if_pos ω,Int.toNat_natCast,List.getElem?_append_right (Nat.le_refl _),Nat.sub_self];rfl
theorem sMid {α:Type} {A C:List α} {y z:α}:(A++y::C).set A.length z=A++z::C:=by
 rw [List.set_append_right _ _ (Nat.le_refl _),Nat.sub_self];rfl
theorem iMid {α:Type} [Inhabited α] {A C:List α} {y:α}:ix (A++y::C) (A.length:Int)=y:=ixMid rfl
theorem Zzd {A C:List Zd} {b:Zd} {k:Int} (hs:Sz2 b.Object.Rows) (j:0<=k) (h1:k<=8900000000000000000) (u:A.length+C.length<=4194304):
  ZfB (k,(A.length:Int),A++b::C)=some (.inl (kIt k b,(A.length:Int)+1,A++mIt k b::C)):=by
 have hl:((A++b::C).length:Int)=(A.length:Int)+1+(C.length:Int):=by simp;omega
 have o:=Zgl hs
 have hm:=Ztg (xs:=b.Object.Rows) (k:=k+1+1+1) (by have:=hs.1;omega) (fun r l=>by have:=hs.2 r l;omega) ω ω
 have c:=Zlj (k:=k) ω
 have i:=Zlj (k:=k+1+1+1+(total b.Object.Rows:Int)) ω
 have w1:ε.wrap (k+1+1+1+(total b.Object.Rows:Int)+1)=k+1+1+1+(total b.Object.Rows:Int)+1:=Zaj ω ω
 simp (disch:=omega) only [pz,ZfB,gMid,iMid,sMid,c,hm,i,w1,mIt,kIt]
theorem ZBX:∀ (C A:List Zd) (k:Int),(∀ x∈C,Sz2 x.Object.Rows)->0<=k->k+C.length*4398046511108<=8900000000000000000->A.length+C.length<=4194304 ->
  loop ZfB (k,(A.length:Int),A++C)=some (kItems k C,A++mItems k C):=by
 intro C
 induction C with
 | nil=>
  intro A k _ c _ l
  refine Zc ?_
  have hl:(((A++[]).length:Nat):Int)=(A.length:Int):=by simp
  simp (disch:=omega) only [pz,ZfB,hl,kItems,mItems,List.append_nil]
 | cons b C o=>
  intro A k hs c h1 l
  rw [List.length_cons] at h1 l
  have i:=hs b (List.mem_cons_self ..)
  have u:=Zgl i
  rw [Zv (Zzd i c ω ω)]
  have e:A++mIt k b::C=(A++[mIt k b])++C:=by simp
  have el:(A.length:Int)+1=((A++[mIt k b]).length:Int):=by simp
  rw [e,el,o (A++[mIt k b]) (kIt k b) (fun x j=>hs x (List.mem_cons_of_mem _ j)) (by unfold kIt;omega) (by unfold kIt;omega) (by simp;omega)]
  simp [kItems,mItems]
theorem Zl3:∀ (C:List Zd) (k:Int),k<=kItems k C
 | [],k=>Int.le_refl _
 | x::C,k=>by
  have:=Zl3 C (kIt k x)
  unfold kItems
  unfold kIt at this ⊢
  omega
theorem Zs0 {c:Zi} (hs:Szc c.Items):Zgv c 1=some (kItems 1 c.Items,⟨mItems 1 c.Items⟩):=by
 have h:=ZBX c.Items [] 1 hs.2 ω (by have:=hs.1;omega) (by have:=hs.1;simp;omega)
 have e:Zny c.Items 1=some (kItems 1 c.Items,mItems 1 c.Items):=h
 unfold Zgv
 simp (disch:=omega) only [pz,e]
theorem ZGB {A D:List Zd} {b:Zd} {k:Int} (hs:Sz2 b.Object.Rows) (h0:0<=k) (h1:k<=8900000000000000000) (hA:A.length+D.length<=4194304):
  Ze3 (A++mIt k b::D) (k,(A.length:Int))=some (.inl (kIt k b,(A.length:Int)+1)):=by
 have hl:((A++mIt k b::D).length:Int)=(A.length:Int)+1+(D.length:Int):=by simp;omega
 have ht:=Zgl hs
 have hm:=Zz6 (xs:=b.Object.Rows) (k:=k+1+1+1) (by have:=hs.1;omega) (fun r hr=>by have:=hs.2 r hr;omega) ω ω
 have c:=Zlj (k:=k) ω
 have i:=Zlj (k:=k+1+1+1+(total b.Object.Rows:Int)) ω
 have w1:ε.wrap (k+1+1+1+(total b.Object.Rows:Int)+1)=k+1+1+1+(total b.Object.Rows:Int)+1:=Zaj ω ω
 have j:(mIt k b).Name=mtx k:=rfl
 have l:(mIt k b).Object.Kind=k+1:=rfl
 have o:(mIt k b).Object.Size=k+1+1:=rfl
 have p:(mIt k b).Object.Rows=marksR (k+1+1+1) b.Object.Rows:=rfl
 have s:(mIt k b).Key=mtx (k+1+1+1+(total b.Object.Rows:Int)):=rfl
 have u:((mtx k).toList==(mtx k).toList)=true:=by simp
 have y:((mtx (k+1+1+1+(total b.Object.Rows:Int))).toList==(mtx (k+1+1+1+(total b.Object.Rows:Int))).toList)=true:=by simp
 simp (disch:=omega) only [pz,Ze3,gMid,iMid,c,j,u,l,o,p,hm,i,s,y,w1,kIt]
theorem ZwF:∀ (C A:List Zd) (k:Int),(∀ x∈C,Sz2 x.Object.Rows)->0<=k->k+C.length*4398046511108<=8900000000000000000->A.length+C.length<=4194304 ->
  loop (Ze3 (A++mItems k C)) (k,(A.length:Int))=some (kItems k C):=by
 intro C
 induction C with
 | nil=>
  intro A k _ c _ l
  refine Zc ?_
  have hl:(((A++mItems k []).length:Nat):Int)=(A.length:Int):=by simp [mItems]
  simp (disch:=omega) only [pz,Ze3,hl,kItems]
 | cons b C u=>
  intro A k hs c h1 l
  rw [List.length_cons] at h1 l
  have i:=hs b (List.mem_cons_self ..)
  have y:=Zgl i
  have o:=ZGB (A:=A) (D:=mItems (kIt k b) C) i c ω (by rw [ZrY];omega)
  show loop (Ze3 (A++mIt k b::mItems (kIt k b) C)) _=_
  rw [Zv o]
  have e:A++mIt k b::mItems (kIt k b) C=(A++[mIt k b])++mItems (kIt k b) C:=by simp
  have el:(A.length:Int)+1=((A++[mIt k b]).length:Int):=by simp
  rw [e,el,u (A++[mIt k b]) (kIt k b) (fun x j=>hs x (List.mem_cons_of_mem _ j)) (by unfold kIt;omega) (by unfold kIt;omega) (by simp;omega)]
  rfl
theorem ZHS {c:List Zd} (hs:Szc c):Zf1 ⟨mItems 1 c⟩ 1=some (kItems 1 c):=by
 have h:=ZwF c [] 1 hs.2 ω (by have:=hs.1;omega) (by have:=hs.1;simp;omega)
 have e:Zm8 (mItems 1 c) 1=some (kItems 1 c):=h
 have j:=Zl3 c 1
 unfold Zf1
 simp (disch:=omega) only [pz,e]
def Bl (a b:ByteArray):Prop:=Op.bytesLess a.toList b.toList=true
instance (a b:ByteArray):Decidable (Bl a b):=inferInstanceAs (Decidable (_=true))
theorem ZFO (a:List UInt8):Op.bytesLess a a=false:=by
 have h:=Ziu a a
 have e:(a==a)=true:=by simp
 rw [e,Bool.or_true] at h
 cases c:Op.bytesLess a a with
 | false=>rfl
 | true=>rw [c] at h;cases h
theorem Zq7:∀ a b c:List UInt8,Op.bytesLess a b=true->Op.bytesLess b c=true->Op.bytesLess a c=true
 | a,[],c,h,_=>by cases a<;>cases h
 | _,_::_,[],_,k=>by cases k
 | [],_::_,_::_,_,_=>rfl
 | a::x,b::y,c::z,h,k=>by
  have l:(decide (a<b)||(a==b&&Op.bytesLess x y))=true:=h
  have k':(decide (b<c)||(b==c&&Op.bytesLess y z))=true:=k
  show (decide (a<c)||(a==c&&Op.bytesLess x z))=true
  simp only [Bool.or_eq_true,decide_eq_true_eq,Bool.and_eq_true,beq_iff_eq] at l k' ⊢
  have o:∀ {p q r:UInt8},p<q->q<r->p<r:=fun i j=>by
   have i:=UInt8.lt_iff_toNat_lt.1 i
   have j:=UInt8.lt_iff_toNat_lt.1 j
   exact UInt8.lt_iff_toNat_lt.2 ω
  rcases l with l|⟨rfl,l⟩
  ·rcases k' with k'|⟨rfl,k'⟩
   ·exact .inl (o l k')
   ·exact .inl l
  ·rcases k' with k'|⟨rfl,k'⟩
   ·exact .inl k'
   ·exact .inr ⟨rfl,Zq7 x y z l k'⟩
theorem Bl.trans {a b c:ByteArray} (h:Bl a b) (k:Bl b c):Bl a c:=Zq7 _ _ _ h k
theorem Bl.irr {a:ByteArray} (h:Bl a a):False:=by
 unfold Bl at h;rw [ZFO] at h;cases h
theorem Zy0 {c:List Zd} (o:CatV c):∀ (d:Nat) (i j:Int),0<=i->i<j->j<(c.length:Int)->j-i<=d->Bl (ix c i).Name (ix c j).Name:=by
 intro d
 induction d with
 | zero=>intro i j k h1 l p;omega
 | succ d y=>
  intro i j k h1 l p
  have u:Bl (ix c (j-1)).Name (ix c j).Name:=(o.at_ j ω l).ord ω
  by_cases h:i=j-1
  ·rw [h];exact u
  ·exact (y i (j-1) k ω ω ω).trans u
def Rise (c:List Zd):Prop:=∀ i j:Int,0<=i->i<j->j<(c.length:Int)->Bl (ix c i).Name (ix c j).Name
theorem CatV.rise {c:List Zd} (k:CatV c):Rise c:=fun i j l h1 o=>Zy0 k (j-i).toNat i j l h1 o ω
structure Plc (c:List Zd) (name:ByteArray) (k:Int) (b:Bool):Prop where
 k0:0<=k
 k1:k<=(c.length:Int)
 lo:∀ j,0<=j->j<k->Bl (ix c j).Name name
 hi:∀ j,k<=j->j<(c.length:Int)->¬ Bl (ix c j).Name name
 eq:b=true↔k<(c.length:Int)/\(ix c k).Name=name
theorem Plc.none {c:List Zd} {name:ByteArray} {k:Int} {b:Bool} (o:Rise c) (p:Plc c name k b) (i:b=false):∀ j,0<=j->j<(c.length:Int)->¬ (ix c j).Name=name:=fun j s h1 e=>by
 have y:k<=j:=by
  rcases Int.lt_or_le j k with g|g
  ·have:=p.lo j s g
   rw [e] at this
   exact this.irr.elim
  ·exact g
 by_cases u:k=j
 ·subst u
  rw [p.eq.2 ⟨h1,e⟩] at i;cases i
 ·have l:=o k j p.k0 ω h1
  rw [e] at l
  exact p.hi k (Int.le_refl _) ω l
theorem Zsa (x:Zd) (name:ByteArray):Zfa x name=some (if Bl x.Name name then -1 else if x.Name=name then 0 else 1):=by
 have n1:∀ s:ByteArray,Zie s=some false:=fun s=>by
  unfold Zie
  have:(s.toList==s.toList)=true:=by simp
  rw [this];rfl
 unfold Zfa ZoD
 by_cases h:Bl x.Name name
 ·have j:Op.bytesLess x.Name.toList name.toList=true:=h
  rw [if_pos h]
  simp (disch:=omega) only [pz,n1,j]
 ·have j:Op.bytesLess x.Name.toList name.toList=false:=by
   cases c:Op.bytesLess x.Name.toList name.toList with
   | false=>rfl
   | true=>exact absurd c h
  rw [if_neg h]
  by_cases e:x.Name=name
  ·have k:=(Zbw x.Name name).2 e
   rw [if_pos e]
   simp (disch:=omega) only [pz,n1,j,k,Bool.false_or]
  ·have k:(x.Name.toList==name.toList)=false:=by
    cases c:(x.Name.toList==name.toList) with
    | false=>rfl
    | true=>exact absurd ((Zbw _ _).1 c) e
   rw [if_neg e]
   simp (disch:=omega) only [pz,n1,j,k,Bool.false_or]
theorem ZGN {c:Zi} {name:ByteArray} (u:Rise c.Items) (hl:(c.Items.length:Int)<=1048576):∃ k b,ZkD c name=some (k,b)/\Plc c.Items name k b:=by
 unfold ZkD Zpm
 generalize a1:ZdN c.Items name (fun y y1=>Zfa y y1)=B
 have a8:∀ (d:Nat) (lo hi:Int),(hi-lo).toNat<=d->0<=lo->lo<=hi->hi<=(c.Items.length:Int)->(∀ j,0<=j->j<lo->Bl (ix c.Items j).Name name)->(∀ j,hi<=j->j<(c.Items.length:Int)->¬ Bl (ix c.Items j).Name name)->∃ k b,loop B (lo,hi)=some (k,b)/\Plc c.Items name k b:=by
  intro d
  induction d with
  | zero=>
   intro lo hi hd l h1 i p o
   obtain rfl:lo=hi:=ω
   by_cases a2:lo<(c.Items.length:Int)
   ·have a0:=Zsa (ix c.Items lo) name
    rw [if_neg (o lo (Int.le_refl _) a2)] at a0
    by_cases e:(ix c.Items lo).Name=name
    ·rw [if_pos e] at a0
     exact ⟨lo,true,Zc (by rw [<-a1];simp (disch:=omega) only [pz,ZdN,a0]),⟨l,i,p,o,by simp [a2,e]⟩⟩
    ·rw [if_neg e] at a0
     exact ⟨lo,false,Zc (by rw [<-a1];simp (disch:=omega) only [pz,ZdN,a0]),⟨l,i,p,o,by simp [e]⟩⟩
   ·exact ⟨lo,false,Zc (by rw [<-a1];simp (disch:=omega) only [pz,ZdN]),⟨l,i,p,o,by simp [a2]⟩⟩
  | succ d ih=>
   intro lo hi hd l h1 i p o
   by_cases a2:lo<hi
   ·have hm:=Zmx l h1 (show hi<=1048576 by omega)
    have a9:lo<=(lo+hi)/2/\(lo+hi)/2<hi:=ω
    have a0:=Zsa (ix c.Items ((lo+hi)/2)) name
    have s:gNn 1=some ():=rfl
    by_cases e:Bl (ix c.Items ((lo+hi)/2)).Name name
    ·rw [if_pos e] at a0
     have hB:B (lo,hi)=some (.inl ((lo+hi)/2+1,hi)):=by
      rw [<-a1]
      simp only [ZdN,hm,s]
      simp (disch:=omega) only [pz,a0]
     rw [Zv hB]
     refine ih _ _ ω ω ω i (fun j a b=>?_) o
     by_cases hj:j=(lo+hi)/2
     ·rw [hj];exact e
     ·exact (u j ((lo+hi)/2) a ω ω).trans e
    ·have a3:∃ r:Int,¬ r<0/\Zfa (ix c.Items ((lo+hi)/2)) name=some r:=by
      rw [if_neg e] at a0
      refine ⟨_,?_,a0⟩
      split<;>omega
     obtain ⟨r,hr,a7⟩:=a3
     have hB:B (lo,hi)=some (.inl (lo,(lo+hi)/2)):=by
      rw [<-a1]
      simp only [ZdN,hm,s]
      simp (disch:=omega) only [pz,a7]
     rw [Zv hB]
     refine ih _ _ ω l ω ω p fun j a b=>?_
     by_cases hj:j=(lo+hi)/2
     ·rw [hj];exact e
     ·exact fun g=>e ((u ((lo+hi)/2) j ω ω b).trans g)
   ·exact ih lo hi ω l h1 i p o
 obtain ⟨k,b,h1,i⟩:=a8 _ 0 c.Items.length (Nat.le_refl _) ω ω ω (fun j a b=>by omega) fun j a b=>by omega
 exact ⟨k,b,by simp (disch:=omega) only [pz,h1],i⟩
theorem ZqW {c:Zi} {name:ByteArray} {k:Int} {b:Bool} (u:Rise c.Items) (hl:(c.Items.length:Int)<=1048576) (p:Plc c.Items name k b):ZlC c name=some (bif b then k else -1):=by
 have ne:∀ {s:ByteArray},¬ s=name->(s.toList==name.toList)=false:=fun {s} h=>by
  cases y:(s.toList==name.toList) with
  | false=>rfl
  | true=>exact absurd ((Zbw _ _).1 y) h
 unfold ZlC
 cases b with
 | true=>
  obtain ⟨h1,h2⟩:=p.eq.1 rfl
  have k0:=p.k0
  have a0:=Zj (B:=ZdQ c name) (fun j=>j) (i:=0) (n:=k) p.k0 fun j l o=>by
   have:=ne (s:=(ix c.Items j).Name) fun e=>by
    have:=p.lo j l o
    rw [e] at this
    exact this.irr
   simp (disch:=omega) only [pz,ZdQ,this]
  rw [a0]
  refine Zc ?_
  have:=(Zbw (ix c.Items k).Name name).2 h2
  simp (disch:=omega) only [pz,ZdQ,this]
 | false=>
  have hn:=p.none u rfl
  have a0:=Zj (B:=ZdQ c name) (fun j=>j) (i:=0) (n:=c.Items.length) ω fun j l o=>by
   have:=ne (hn j l o)
   simp (disch:=omega) only [pz,ZdQ,this]
  rw [a0]
  refine Zc ?_
  simp (disch:=omega) only [pz,ZdQ]
theorem ZuV {x:Zd} (hs:Sz2 x.Object.Rows):ZdD x=some x:=by
 unfold ZdD
 have h:=ZqE hs
 simp (disch:=omega) only [pz,h]
theorem Zyo {x:Zd} (hs:Sz2 x.Object.Rows):Zke x=some x:=by
 unfold Zke ZfX
 have h:=Zb0 hs
 simp (disch:=omega) only [pz,h]
theorem Zye {c:Zi} (hs:Szc c.Items):ZjQ c=some c:=by
 have hN:=hs.1
 have u:∀ x:Zd,Zd.mk x.Name (Zg.mk x.Object.Kind x.Object.Size x.Object.Rows) x.Key=x:=fun x=>rfl
 unfold ZjQ
 have w:=Zj (B:=ZgQ c) (fun i=>(i,c.Items.take i.toNat)) (i:=0) (n:=c.Items.length) ω fun i j k=>by
  have l:=Zyo (hs.2 _ (Zn j k))
  have y:=Zap j k
  have hl:(c.Items.take i.toNat).length<=1048576:=by rw [List.length_take];omega
  simp (disch:=omega) only [pz,ZgQ,u,l,y]
 have o:((0:Int),List.take (Int.toNat 0) c.Items)=((0:Int),([]:List Zd)):=rfl
 rw [o] at w
 rw [w]
 refine Zc ?_
 simp (disch:=omega) only [pz,ZgQ]
noncomputable instance decLike (a b:Zd):Decidable (Like a b):=Classical.propDecidable _
noncomputable instance decLikeEx (n:Int) (f:Int->Zd) (y:Zd):Decidable (∃ j,0<=j/\j<n/\Like (f j) y):=Classical.propDecidable _
theorem Like.symm {a b:Zd} (h:Like a b):Like b a:=⟨h.1.symm,h.2.symm⟩
def insI (c:List Zd) (y:Zd) (k:Int):List Zd:=c.take k.toNat++[y]++c.drop k.toNat
theorem ZvH {c:List Zd} {y:Zd} {k:Int} (k1:k<=(c.length:Int)):((insI c y k).length:Int)=c.length+1:=by
 unfold insI
 rw [List.length_append,List.length_append,List.length_take,List.length_drop,List.length_singleton];omega
theorem ZEU {c:List Zd} {y:Zd} {k:Int} (hs:∀ x∈c,Sz2 x.Object.Rows) (j:Sz2 y.Object.Rows):∀ x∈insI c y k,Sz2 x.Object.Rows:=fun x i=>by
 unfold insI at i
 rcases List.mem_append.1 i with h|h
 ·rcases List.mem_append.1 h with h|h
  ·exact hs x (List.mem_of_mem_take h)
  ·rw [List.mem_singleton.1 h];exact j
 ·exact hs x (List.mem_of_mem_drop h)
theorem bl_or {a b:ByteArray}:(Op.bytesLess a.toList b.toList||a.toList==b.toList)=!Op.bytesLess b.toList a.toList:=Ziu _ _
theorem ZGe {a b:ByteArray} (h1:¬ Bl a b) (c:¬ a=b):Bl b a:=by
 have h:=@bl_or a b
 have i:Op.bytesLess a.toList b.toList=false:=by unfold Bl at h1;simpa using h1
 have j:(a.toList==b.toList)=false:=by
  cases hh:(a.toList==b.toList) with
  | false=>rfl
  | true=>exact absurd ((Zbw a b).1 hh) c
 rw [i,j] at h
 unfold Bl
 cases hh:Op.bytesLess b.toList a.toList with
 | true=>rfl
 | false=>rw [hh] at h;cases h
theorem ZAE {c:List Zd} {y:Zd} {k:Int} (hc:Rise c) (hs:∀ x∈c,Sz2 x.Object.Rows) (hy:Sz2 y.Object.Rows) (hl:(c.length:Int)<=24) (p:Plc c y.Name k false):
  ZfN ⟨c⟩ y=some (if ∃ j,0<=j/\j<(c.length:Int)/\Like (ix c j) y then (⟨[]⟩,6) else if (c.length:Int)+1>24 then (⟨[]⟩,5) else (⟨insI c y k⟩,0)):=by
 have k0:=p.k0;have k1:=p.k1
 have hn:=p.none hc rfl
 have f1:=ZqW (c:=⟨c⟩) hc (by show (c.length:Int)<=1048576;omega) p
 simp only [cond_false] at f1
 have oy:=ZuV hy
 have ox:∀ i,0<=i->i<(c.length:Int)->ZdD (ix c i)=some (ix c i):=fun i a b=>ZuV (hs _ (Zn a b))
 unfold ZfN
 simp (disch:=omega) only [pz,f1]
 have a7:∀ i,Zfr (ix c i) y=some (decide (Like (ix c i) y)):=fun i=>by
  have q:=ZlJ (ix c i) y
  by_cases g:Like (ix c i) y
  ·rw [q.eq g,decide_eq_true g]
  ·rw [q.ne g,decide_eq_false g]
 obtain ⟨f,hf⟩:∃ f:Int->Bool×Int×List Zd,f=fun i=>if i<=k then (false,i,c.take i.toNat) else (true,i,c.take k.toNat++[y]++(c.take i.toNat).drop k.toNat):=⟨_,rfl⟩
 have a0:∀ i,i<=k->f i=(false,i,c.take i.toNat):=fun i h=>by rw [hf];exact if_pos h
 have a1:∀ i,k<i->f i=(true,i,c.take k.toNat++[y]++(c.take i.toNat).drop k.toNat):=fun i h=>by rw [hf];exact if_neg ω
 have a6:∀ i,0<=i->i<(c.length:Int)->Like (ix c i) y->ZaZ ⟨c⟩ y (f i)=some (.inr (⟨[]⟩,6)):=fun i a b g=>by
  have hd:=a7 i
  rw [decide_eq_true g] at hd
  by_cases ac:i<=k
  ·rw [a0 i ac];simp (disch:=omega) only [pz,ZaZ,hd]
  ·rw [a1 i ω];simp (disch:=omega) only [pz,ZaZ,hd]
 have a5:∀ i,0<=i->i<(c.length:Int)->¬ Like (ix c i) y->ZaZ ⟨c⟩ y (f i)=some (.inl (f (i+1))):=fun i a b g=>by
  have hd:=a7 i
  rw [decide_eq_false g] at hd
  have ht:=Zap (xs:=c) a b
  have ho:=ox i a b
  have a2:=@bl_or (ix c i).Name y.Name
  rcases Int.lt_trichotomy i k with h|h|h
  ·rw [a0 i ω,a0 (i+1) ω]
   have s:Op.bytesLess y.Name.toList (ix c i).Name.toList=false:=by
    cases hh:Op.bytesLess y.Name.toList (ix c i).Name.toList with
    | false=>rfl
    | true=>exact ((p.lo i a h).trans hh).irr.elim
   rw [s] at a2
   have ae:(c.take i.toNat).length<=24:=by rw [List.length_take];omega
   simp (disch:=omega) only [pz,ZaZ,hd,a2,ZeP,ZeX,ho,ht]
  ·subst h
   rw [a0 i ω,a1 (i+1) ω]
   have s:Op.bytesLess y.Name.toList (ix c i).Name.toList=true:=ZGe (p.hi i ω b) (hn i a b)
   rw [s] at a2
   have ae:(c.take i.toNat).length<=24:=by rw [List.length_take];omega
   have a3:(c.take (i+1).toNat).drop i.toNat=[ix c i]:=by
    rw [ht,List.drop_append_of_le_length (by rw [List.length_take];omega),List.drop_of_length_le (by rw [List.length_take];omega),List.nil_append]
   have u:(c.take i.toNat++[y]).length<=25:=by rw [List.length_append,List.length_singleton];omega
   simp (disch:=omega) only [pz,ZaZ,hd,a2,ZeP,oy,ZeX,ho,a3]
  ·rw [a1 i h,a1 (i+1) ω]
   have a3:(c.take (i+1).toNat).drop k.toNat=(c.take i.toNat).drop k.toNat++[ix c i]:=by
    rw [ht,List.drop_append_of_le_length (by rw [List.length_take];omega)]
   have u:(c.take k.toNat++[y]++(c.take i.toNat).drop k.toNat).length<=50:=by rw [List.length_append,List.length_append,List.length_singleton,List.length_drop,List.length_take,List.length_take];omega
   simp (disch:=omega) only [pz,ZaZ,hd,ZeP,ZeX,ho,a3,<-List.append_assoc]
 have e0:((false:Bool),(0:Int),([]:List Zd))=f 0:=by rw [a0 0 k0];rfl
 rw [e0]
 rcases Zbj (B:=ZaZ ⟨c⟩ y) f (fun i=>Like (ix c i) y) (i:=0) (n:=c.length) ω a5 with ⟨i,h1,l,h3,h4,h5⟩|⟨h1,l⟩
 ·rw [h5,if_pos ⟨i,h1,l,h3⟩]
  exact Zc (a6 i h1 l h3)
 ·rw [l,if_neg fun ⟨j,a,b,g⟩=>h1 j a b g]
  refine Zc ?_
  have a4:∀ xs:List Zd,(xs.length:Int)=c.length+1->xs=insI c y k->ZfD xs=some (.inr (if (c.length:Int)+1>24 then (⟨[]⟩,5) else (⟨insI c y k⟩,0))):=fun xs hx e=>by
   by_cases h:(c.length:Int)+1>24
   ·rw [if_pos h];simp (disch:=omega) only [pz,ZfD]
   ·rw [if_neg h,<-e];simp (disch:=omega) only [pz,ZfD]
  by_cases hk:k=c.length
  ·rw [a0 _ ω]
   have o:c.take (c.length:Int).toNat=c:=by rw [Int.toNat_natCast,List.take_length]
   rw [o]
   have:=a4 (c++[y]) (by simp) (by unfold insI;rw [hk,o,Int.toNat_natCast,List.drop_length,List.append_nil])
   simp (disch:=omega) only [pz,ZaZ,oy,this]
  ·rw [a1 _ ω]
   have o:c.take (c.length:Int).toNat=c:=by rw [Int.toNat_natCast,List.take_length]
   rw [o]
   have:=a4 (c.take k.toNat++[y]++c.drop k.toNat) (ZvH k1) rfl
   simp (disch:=omega) only [pz,ZaZ,this]
theorem ZEI {c:List Zd} {y:Zd} {k:Int} (j:Rise c) (hl:(c.length:Int)<=24) (p:Plc c y.Name k true):ZfN ⟨c⟩ y=some (⟨[]⟩,4):=by
 have k0:=p.k0
 have i:=ZqW (c:=⟨c⟩) j (by show (c.length:Int)<=1048576;omega) p
 simp only [cond_true] at i
 unfold ZfN
 simp (disch:=omega) only [pz,i]
section
variable {d:Zi} (hd:(d.Items.length:Int)<=24) (hds:∀ x∈d.Items,Sz2 x.Object.Rows)
include hd hds
end
theorem ZwI {o:Zg} (hs:Sz2 o.Rows) (B:Int):∃ r,Zjx o B=some r/\ZkH o B=some r:=by
 have e:Zg.mk o.Kind o.Size o.Rows=o:=rfl
 obtain ⟨q,h1,i⟩:=ZA5 hs B
 unfold Zjx ZkH
 by_cases c:q.2=0
 ·by_cases d:(q.1.size:Int)>4000
  ·exact ⟨(⟨#[]⟩,5),by simp (disch:=omega) only [pz,h1],by simp (disch:=omega) only [pz,e,i]⟩
  ·exact ⟨(q.1,0),by simp (disch:=omega) only [pz,h1],by simp (disch:=omega) only [pz,e,i]⟩
 ·exact ⟨(⟨#[]⟩,q.2),by simp (disch:=omega) only [pz,h1],by simp (disch:=omega) only [pz,e,i]⟩
theorem Zxd {c:List Zd} {x:Zd} (hN:(c.length:Int)<=1048576):∃ r:Int,ZcT c x=some r/\(r=-1/\(∀ j,0<=j->j<(c.length:Int)->¬ Like (ix c j) x)\/0<=r/\r<(c.length:Int)/\Like (ix c r) x/\∀ j,0<=j->j<r->¬ Like (ix c j) x):=by
 unfold ZcT Zln
 obtain ⟨r,p,s⟩:=ZoI (xs:=c) (B:=Zch c (fun i=>Zcc i x)) (f:=fun i=>Zcc i x) (q:=fun y=>Like x y) (by unfold M63;omega) (fun y _=>(ZrH x y).bind_id)
  (fun k y hy=>by
   have:=ZY hy
   simp (disch:=omega) only [pz,Zch]
   rw [ZP hy])
  (by simp (disch:=omega) only [pz,Zch])
 have sy:∀ {a b:Zd},Like a b->Like b a:=fun h=>⟨h.1.symm,h.2.symm⟩
 refine ⟨r,?_,?_⟩
 ·show (loop (Zch c (fun i=>Zcc i x)) 0).bind _=_
  rw [p];rfl
 ·rcases s with ⟨o,l⟩|⟨k,y,o,l,h6,u⟩
  ·exact .inl ⟨o,fun j a b g=>l _ (Zn a b) (sy g)⟩
  ·have hk:=ZY l
   subst o
   refine .inr ⟨by omega,by omega,by rw [ZP l];exact sy h6,fun j a b g=>?_⟩
   obtain ⟨m,rfl⟩:=Int.eq_ofNat_of_zero_le a
   exact u m _ ω (Zah a ω) (sy g)
theorem Zw6 {c:Zi} (hs:Szc c.Items) (name:ByteArray) {o:Zg} (ho:Sz2 o.Rows) (B:Int):∃ r,Zjz c name o B=some r/\Zg9 c name o B=some r/\Szc r.1.Items:=by
 have e:∀ c:Zi,Zi.mk c.Items=c:=fun _=>rfl
 have i:Zg.mk o.Kind o.Size o.Rows=o:=rfl
 obtain ⟨b,h1,l⟩:=two_q (Zup hs) (Zxp hs)
 obtain ⟨d,u,p⟩:=Zjs ho
 obtain ⟨f,s,h6⟩:=two_q (Zos name) (Zm3 name)
 obtain ⟨q,k1,k2⟩:=ZwI ho B
 unfold Zjz Zg9
 have z:Szc ([]:List Zd):=⟨by simp,by simp⟩
 cases b with
 | false=>exact ⟨(⟨[]⟩,1),by simp (disch:=omega) only [pz,e,h1],by simp (disch:=omega) only [pz,e,l],z⟩
 | true=>
 have hv:CatV c.Items:=Classical.byContradiction fun g=>by
  have:=(Zup hs).ne g
  rw [this] at h1;cases h1
 have hn:=hv.n
 cases d with
 | false=>
  cases f with
  | false=>exact ⟨(⟨[]⟩,1),by simp (disch:=omega) only [pz,e,h1,s],by simp (disch:=omega) only [pz,e,l,i,p],z⟩
  | true=>exact ⟨(⟨[]⟩,1),by simp (disch:=omega) only [pz,e,h1,s,i,u],by simp (disch:=omega) only [pz,e,l,i,p],z⟩
 | true=>
 cases f with
 | false=>exact ⟨(⟨[]⟩,1),by simp (disch:=omega) only [pz,e,h1,s],by simp (disch:=omega) only [pz,e,l,i,p,h6],z⟩
 | true=>
 by_cases hq:q.2=0
 ·have cp:ZfX o=some o:=by
   unfold ZfX
   have h:=Zb0 ho
   simp (disch:=omega) only [pz,h]
  obtain ⟨k,b,p1,p2⟩:=ZGN (name:=name) hv.rise hs.1
  have k0:=p2.k0;have k3:=p2.k1
  obtain ⟨r,r1,r2⟩:=Zxd (c:=c.Items) (x:=⟨name,o,q.1⟩) hs.1
  cases b with
  | true=>
   have pu:=ZEI (y:=⟨name,o,q.1⟩) hv.rise hn p2
   exact ⟨(⟨[]⟩,4),by simp (disch:=omega) only [pz,e,h1,s,i,u,ZdZ,k1,pu],by simp (disch:=omega) only [pz,e,l,i,p,h6,ZdO,k2,cp,p1],z⟩
  | false=>
   have pu:=ZAE (y:=⟨name,o,q.1⟩) hv.rise hs.2 ho hn p2
   rw [show Zi.mk c.Items=c from rfl] at pu
   rcases r2 with ⟨rfl,no⟩|⟨r3,r4,r5,r6⟩
   ·rw [if_neg fun ⟨j,a,b,g⟩=>no j a b g] at pu
    by_cases hf:(c.Items.length:Int)+1>24
    ·rw [if_pos hf] at pu
     exact ⟨(⟨[]⟩,5),by simp (disch:=omega) only [pz,e,h1,s,i,u,ZdZ,k1,pu],by simp (disch:=omega) only [pz,e,l,i,p,h6,ZdO,k2,cp,p1,r1],z⟩
    ·rw [if_neg hf] at pu
     have hc:=Zye hs
     have a4:Zf3 c.Items k ⟨name,o,q.1⟩=some (insI c.Items ⟨name,o,q.1⟩ k):=by
      unfold Zf3
      rw [if_pos ⟨k0,k3,by omega,by omega⟩];rfl
     refine ⟨(⟨insI c.Items ⟨name,o,q.1⟩ k⟩,0),by simp (disch:=omega) only [pz,e,h1,s,i,u,ZdZ,k1,pu],by simp (disch:=omega) only [pz,e,l,i,p,h6,ZdO,k2,cp,p1,r1,hc,a4],?_,ZEU hs.2 ho⟩
     have:=ZvH (y:=⟨name,o,q.1⟩) k3
     dsimp only
     omega
   ·rw [if_pos ⟨r,r3,r4,r5⟩] at pu
    exact ⟨(⟨[]⟩,6),by simp (disch:=omega) only [pz,e,h1,s,i,u,ZdZ,k1,pu],by simp (disch:=omega) only [pz,e,l,i,p,h6,ZdO,k2,cp,p1,r1],z⟩
 ·exact ⟨(⟨[]⟩,q.2),by simp (disch:=omega) only [pz,e,h1,s,i,u,ZdZ,k1],by simp (disch:=omega) only [pz,e,l,i,p,h6,ZdO,k2],z⟩
theorem ZzA {x:Zg} (hs:Sz2 x.Rows) {k:Int} (c:0<=k) (h1:k<=8000000000000000000):Zj8 x k=some (k+(total x.Rows:Int),⟨x.Kind,x.Size,marksR k x.Rows⟩):=by
 have hm:=Ztg (xs:=x.Rows) (k:=k) (by have:=hs.1;omega) (fun r j=>by have:=hs.2 r j;omega) ω ω
 unfold Zj8
 simp (disch:=omega) only [pz,hm]
theorem Zs6:∀ (C:List Zd) (k:Int),(∀ x∈C,Sz2 x.Object.Rows)->kItems k C<=k+C.length*4398046511108
 | [],k,_=>by simp [kItems]
 | x::C,k,h=>by
  have h1:=Zgl (h x (List.mem_cons_self ..))
  have c:=Zs6 C (kIt k x) fun y j=>h y (List.mem_cons_of_mem _ j)
  have e:kItems k (x::C)=kItems (kIt k x) C:=rfl
  rw [e,List.length_cons]
  unfold kIt at c ⊢
  omega
theorem ZBC {x:Zg} (j:Sz2 x.Rows):ZnZ x:=
 ⟨by unfold M63;have:=j.1;omega,fun y k=>⟨by unfold M63;have:=j.2 y k;omega,fun _ _=>trivial⟩⟩
theorem ZGr {a:Zae} {name:ByteArray} {b:Z1} {B:Int} (ha:Zo6 a) (hk:OkS name) (hb:Zih b) (_:I64 B):ZnD a name b B=some true:=by
 unfold ZnD
 obtain ⟨r,hr,c⟩:=ZHN a 1048576 ha ω ω
 have e:Zae.mk a.Items=a:=rfl
 have i:Z1.mk b.Kind b.Size b.Rows=b:=rfl
 by_cases ah:(name.size:Int)>1048576
 ·simp (disch:=omega) only [pz,]
 rcases c with rfl|⟨r0,r1,sa⟩
 ·simp (disch:=omega) only [pz,e,hr]
 obtain ⟨s,hs,c⟩:=ZtM b r hb ω ω
 rcases c with rfl|⟨s0,s1,sb⟩
 ·simp (disch:=omega) only [pz,e,hr,i,hs]
 ·have hz:=ZBa sa
  have hw:=Zwu sb
  have ht:=ZHF sa
  have hu:=Zta sb
  generalize Zhs a=x at hz ht
  generalize ZeT b=y at hw hu
  have l:∀ x:Zi,Zi.mk x.Items=x:=fun _=>rfl
  have p:Zg.mk y.Kind y.Size y.Rows=y:=rfl
  obtain ⟨⟨g,n⟩,h1,u,j⟩:=Zw6 hz name hw B
  dsimp only at j
  have o:=(Zuo (Ztf j)).eq (rfl:g=g)
  have a0:=(Zuo (Ztf hz)).eq (rfl:x=x)
  have a1:=(ZvN (ZBC hw)).eq (rfl:y=y)
  have hm:=Zs0 hz
  have a4:=Zl3 x.Items 1
  have a5:=Zs6 x.Items 1 hz.2
  have a6:=Zl3 g.Items 1
  have a7:=hz.1
  have a2:=ZzA hw (k:=kItems 1 x.Items) ω ω
  have hg:=Zs0 j
  have hh:=ZHS j
  have k3:ZiQ (kItems 1 g.Items,⟨mItems 1 g.Items⟩)=some true:=by
   unfold ZiQ
   simp (disch:=omega) only [pz,hh]
  have k2:Zma a name b B (g,n) (g,n)=some true:=by
   unfold Zma
   simp (disch:=omega) only [pz,hg,hh,e,i,ht,hu,u,o,k3,l]
  have k1:ZkR a name b B (g,n) x y (g,n)=some true:=by
   unfold ZkR
   simp (disch:=omega) only [pz,e,i,ht,hu,l,p,a0,a1,hm,a2,o,k2]
  simp (disch:=omega) only [pz,e,i,hr,hs,ht,hu,h1,l,p,u,o,k1]
end Go.Proofs.YtepnljbkgjbbmaaGreatDoor
