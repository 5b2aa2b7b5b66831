import Derived.Test.YtghbgeaammnkcaaGreatDoorPuJf
import Derived.Test.YtghbgeaammnkcaaGreatDoorPuJa
import Derived.Test.YtghbgeaammnkcaaGreatDoorPuTxt
namespace Go.Proofs.YtghbgeaammnkcaaGreatDoor
open Go Go.Vc
set_option linter.unusedSimpArgs false
set_option linter.unusedVariables false
structure VMat (q:Int) (m:List (List Int)):Prop where
 n1:1≤(m.length:Int)
 n2:(m.length:Int)≤32
 w1:1≤((ix m 0).length:Int)
 w2:((ix m 0).length:Int)≤32
 row:∀ i,0≤i→i<(m.length:Int)→((ix m i).length:Int)=(ix m 0).length∧In q (ix m i)
theorem VMat.mat {q:Int} {m:List (List Int)} (h:VMat q m):Mat q (ix m 0).length m:=⟨fun i a b=>(h.row i a b).1,fun i a b=>(h.row i a b).2,by have:=h.n2;omega,by have:=h.w2;omega⟩
theorem ZtM {f:Zd} {q:Int} (hs:Zbk f=some q) (j:2≤q) (e:q≤64) {v:List Int} (l:(v.length:Int)≤1048576):IsQ (Zjq f v) (In q v):=by
 unfold Zjq
 rw [hs]
 obtain ⟨c,g,q2⟩:=Zbm (B:=ZeG v q) (P:=fun k=>0≤ix v k∧ix v k≤q-1) (t:=true) (f:=false) (i:=0) (n:=v.length) (by omega)
  (fun k a b c=>by simp (disch:=omega) only [pz,ZeG,in_ok]) (fun k a b c=>by simp (disch:=omega) only [pz,ZeG,in_ok]) (by simp (disch:=omega) only [pz,ZeG])
 refine ⟨c,?_,q2.trans ⟨fun h i a b=>?_,fun h i a b=>?_⟩⟩
 ·show loop (ZeG v q) 0=some c
  rw [g];cases c<;>rfl
 ·have:=h i a b;omega
 ·have:=h i a b;omega
theorem ZkB {f:Zd} {q:Int} (hm:Made q f) (l:2≤q) (b:q≤64) {m:List (List Int)} (hs:Sz2 m):IsQ (Zjj f m) (VMat q m):=by
 have hN:=hs.1
 unfold Zjj ZkW
 rw [hm.oks]
 by_cases s:(m.length:Int)=0
 ·simp (disch:=omega) only [pz,];exact IsQ.f fun h=>by have:=h.n1;omega
 ·by_cases o:(m.length:Int)≤32
  ·by_cases t:((ix m 0).length:Int)=0
   ·simp (disch:=omega) only [pz,];exact IsQ.f fun h=>by have:=h.w1;omega
   ·by_cases p:((ix m 0).length:Int)≤32
    ·simp (disch:=omega) only [pz,]
     refine (ZaE (P:=fun i=>((ix m i).length:Int)=(ix m 0).length∧In q (ix m i)) (n:=m.length) (Q:=True) (by omega) ?_ ?_ fun _=>?_).congr ⟨fun g=>⟨by omega,o,by omega,p,g.1⟩,fun g=>⟨g.row,trivial⟩⟩
     ·intro i e j c
      have k:=(ZtM hm.szs l b (hs.row e j)).eq c.2
      have:=c.1
      simp (disch:=omega) only [pz,Zf6,k]
     ·intro i e j c
      by_cases hl:((ix m i).length:Int)=(ix m 0).length
      ·have k:=(ZtM hm.szs l b (hs.row e j)).ne fun h=>c ⟨hl,h⟩
       simp (disch:=omega) only [pz,Zf6,k]
      ·simp (disch:=omega) only [pz,Zf6]
     ·rw [Zc (r:=true) (by simp (disch:=omega) only [pz,Zf6])];exact IsQ.t trivial
    ·simp (disch:=omega) only [pz,];exact IsQ.f fun h=>p h.w2
  ·simp (disch:=omega) only [pz,];exact IsQ.f fun h=>o h.n2
theorem Zr1 {f:Zd} {q:Int} (hm:Made q f) (w:2≤q) (u:q≤64) {m:List (List Int)} (hs:Sz2 m):IsQ (Zhk f m) (VMat q m):=by
 have hN:=hs.1
 have e:Zd.mk f.Prime f.Degree f.Poly=f:=rfl
 unfold Zhk Zl6
 rw [e,hm.oki]
 by_cases y:(m.length:Int)=0
 ·simp (disch:=omega) only [pz,ZF,ZW];exact IsQ.f fun h=>by have:=h.n1;omega
 ·by_cases o:(m.length:Int)≤32
  ·by_cases h3:((ix m 0).length:Int)=0
   ·simp (disch:=omega) only [pz,ZF,ZH,ZW];exact IsQ.f fun h=>by have:=h.w1;omega
   ·by_cases p:((ix m 0).length:Int)≤32
    ·simp (disch:=omega) only [pz,ZF,ZH,ZW,hm.szi]
     have v:=containsLL (s:=m) (fn:=fun j=>Zf9 j m q) (q:=fun r=>¬ ((r.length:Int)=(ix m 0).length∧In q r)) hN fun r hr=>by
      show IsQ (Zf9 r m q) _
      unfold Zf9 ZkQ
      by_cases hl:(r.length:Int)=(ix m 0).length
      ·have hi:=(containsL (s:=r) (fn:=fun j=>ZeP j q) (q:=fun x=>¬ (0≤x∧x≤q-1)) (hs.2 r hr) fun x c=>by
        show IsQ (ZeP x q) _
        unfold ZeP
        by_cases c:0≤x∧x≤q-1
        ·simp (disch:=omega) only [pz,ZW];exact IsQ.f fun h=>h c
        ·simp (disch:=omega) only [pz,ZW];exact IsQ.t c).not.not
       have t:IsQ (((ZaU r fun j=>ZeP j q).bind fun r=>some (!r)).bind fun r=>some (!r)) (¬ ((r.length:Int)=(ix m 0).length∧In q r)):=by
        refine hi.congr ⟨fun h g=>h fun ⟨x,c,l⟩=>?_,fun h g=>h ⟨hl,fun k a b=>?_⟩⟩
        ·obtain ⟨k,a,b,rfl⟩:=Z0 c
         have:=g.2 k a b
         exact l ⟨this.1,by omega⟩
        ·have:=Classical.byContradiction fun hh:¬ (0≤ix r k∧ix r k≤q-1)=>g ⟨ix r k,ZP a b,hh⟩
         omega
       simp (disch:=omega) only [pz,]
       exact t
      ·simp (disch:=omega) only [pz,]
       exact IsQ.t fun h=>hl h.1
     refine v.not.congr ⟨fun g=>⟨by omega,o,by omega,p,fun i a b=>?_⟩,fun g=>?_⟩
     ·exact Classical.byContradiction fun hh=>g ⟨ix m i,ZP a b,hh⟩
     ·rintro ⟨x,c,l⟩
      obtain ⟨i,a,b,rfl⟩:=Z0 c
      exact l (g.row i a b)
    ·simp (disch:=omega) only [pz,ZF,ZH,ZW];exact IsQ.f fun h=>p h.w2
  ·simp (disch:=omega) only [pz,ZF,ZW];exact IsQ.f fun h=>o h.n2
theorem ZnU {q:Int} (c:2≤q) (b:q≤64):∀ (e:Nat) (n:Int),e≤64→1≤n→n≤4096→∃ cs ci:Int,loop (Zbi q) ((e:Int),n)=some cs∧loop (ZaV q 4096) ((e:Int),n)=some ci∧(cs=0↔4096<ci)
 | 0,n,_,f,g=>by
  refine ⟨n,n,Zc ?_,Zc ?_,by omega⟩
  ·simp (disch:=omega) only [pz,Zbi]
  ·simp (disch:=omega) only [pz,ZaV]
 | e+1,n,he,f,g=>by
  have l:1*2≤n*q:=Int.mul_le_mul f c (by omega) (by omega)
  have m:n*q≤4096*64:=Int.mul_le_mul g b (by omega) (by omega)
  have ee:((e+1:Nat):Int)-1=(e:Int):=by omega
  have hgo:loop (ZaV q 4096) (((e+1:Nat):Int),n)=loop (ZaV q 4096) ((e:Int),n*q):=by
   refine ZL ?_
   simp (disch:=omega) only [pz,ZaV,ZeV,ee]
  by_cases h:n*q≤4096
  ·obtain ⟨cs,ci,i,j,k⟩:=ZnU c b e (n*q) (by omega) (by omega) h
   refine ⟨cs,ci,?_,by rw [hgo,j],k⟩
   rw [←i]
   refine ZL ?_
   simp (disch:=omega) only [pz,Zbi,ee]
  ·refine ⟨0,n*q,Zc ?_,?_,by omega⟩
   ·simp (disch:=omega) only [pz,Zbi]
   ·rw [hgo]
    refine Zc ?_
    cases e with
    | zero=>simp (disch:=omega) only [pz,ZaV]
    | succ e=>simp (disch:=omega) only [pz,ZaV]
theorem ZDv {a b:List (List Int)} (ha:(a.length:Int)≤1048576) (hr:∀ x∈a,(x.length:Int)≤1048576):IsQ (ZiO a b) (a=b):=by
 unfold ZiO
 refine IsQ.bind_id ?_
 unfold Zk8
 refine ZdG (by unfold M63;omega) (fun k x y e hy=>?_) (by simp (disch:=omega) only [pz,ZhM])
 have f:=Z6 e
 have g:=Z6 hy
 have hs:=ZtK (a:=x) (b:=y) (hr x (List.mem_of_getElem? e))
 by_cases h:x=y
 ·exact Zbr (c:=true) (by simp [h]) (by simp (disch:=omega) only [pz,ZhM,ZX e,ZX hy,hs.eq h])
 ·exact Zbr (c:=false) (by simp [h]) (by simp (disch:=omega) only [pz,ZhM,ZX e,ZX hy,hs.ne h])
theorem ZuC {o:Zl} (hs:Sz2 o.Rows):∃ cs ci b,Zbx o=some cs∧Zce o=some ci∧Zax cs=some b∧Zdr ci=some b:=by
 have hN:=hs.1
 unfold Zbx Zce
 rw [Zck hs]
 rcases Zru o.Size with ⟨f,hm⟩|⟨j,e,k⟩
 ·obtain ⟨inv,hF⟩:=Zuu hm.gf
  have hp:=hF.fd.p2
  have g:=hF.q2
  have c:=hF.q64
  rw [hm.split,hm.mki,hm.mks]
  have e:Zd.mk f.Prime f.Degree f.Poly=f:=rfl
  suffices hh:∃ b,Zax ⟨f,o.Rows⟩=some b∧Zdr ⟨f,o.Rows⟩=some b by
   obtain ⟨b,j,k⟩:=hh
   refine ⟨⟨f,o.Rows⟩,⟨f,o.Rows⟩,b,?_,?_,j,k⟩
   ·simp (disch:=omega) only [pz,e]
   ·simp (disch:=omega) only [pz,e]
  unfold Zax Zdr Zdm Zkq
  by_cases hV:VMat o.Size o.Rows
  ·have i:=(ZkB hm g c hs).eq hV
   have q2:=(Zr1 hm g c hs).eq hV
   have n1:=hV.n1;have w2:=hV.w2
   by_cases w:(o.Rows.length:Int)≤8
   ·obtain ⟨cs,ci,p,r,l⟩:=ZnU g c o.Rows.length 1 (by omega) (by omega) (by omega)
    have c1:Zi6 o.Size (o.Rows.length:Int)=some cs:=p
    have c2:Zau o.Size (o.Rows.length:Int) 4096=some ci:=r
    by_cases hz:cs=0
    ·have hci:=l.1 hz
     refine ⟨false,?_,?_⟩
     ·simp (disch:=omega) only [pz,e,i,hm.szs,c1]
     ·simp (disch:=omega) only [pz,e,q2,hm.szi,ZF,c2]
    ·have hci:¬ 4096<ci:=fun h=>hz (l.2 h)
     obtain ⟨R,piv,d,s,t,x,m⟩:=Zs8 hF hs hV.mat (by omega) n1
     have s1:=Zox (a:=R) (b:=o.Rows) (by omega) m
     have s2:=ZDv (a:=R) (b:=o.Rows) (by omega) m
     have ht:=ZrC hF hm.szi
     obtain ⟨b,s1,u⟩:=s1
     obtain ⟨b',s2,v⟩:=s2
     have:b=b':=by rw [Bool.eq_iff_iff,u,v]
     subst this
     refine ⟨b,?_,?_⟩
     ·simp (disch:=omega) only [pz,e,i,hm.szs,c1,s,s1]
     ·simp (disch:=omega) only [pz,e,q2,hm.szi,ZF,c2,ht,t,s2]
   ·refine ⟨false,?_,?_⟩
    ·simp (disch:=omega) only [pz,e,i]
    ·simp (disch:=omega) only [pz,e,q2]
  ·have i:=(ZkB hm g c hs).ne hV
   have q2:=(Zr1 hm g c hs).ne hV
   refine ⟨false,?_,?_⟩
   ·simp (disch:=omega) only [pz,e,i]
   ·simp (disch:=omega) only [pz,e,q2]
 ·rw [j,k]
  refine ⟨⟨⟨0,0,[]⟩,[]⟩,⟨⟨0,0,[]⟩,o.Rows⟩,false,?_,?_,?_,?_⟩
  ·simp (disch:=omega) only [pz,]
  ·simp (disch:=omega) only [pz,]
  ·rfl
  ·rfl
end Go.Proofs.YtghbgeaammnkcaaGreatDoor
namespace Go.Proofs.YtghbgeaammnkcaaGreatDoor
set_option linter.unusedVariables false
open Go Go.Vc
set_option linter.unusedSimpArgs false
theorem two_q {a b:Option Bool} {p:Prop} (ha:IsQ a p) (e:IsQ b p):∃ c,a=some c∧b=some c:=by
 obtain ⟨c,f,g⟩:=ha
 obtain ⟨d,i,j⟩:=e
 have:c=d:=by rw [Bool.eq_iff_iff,g,j]
 subst this
 exact ⟨c,f,i⟩
theorem Zxz {o:Zl} (hs:Sz2 o.Rows):∃ c,ZZ o=some c∧ZgQ o=some c:=by
 have hN:=hs.1
 have e:Zl.mk o.Kind o.Size o.Rows=o:=rfl
 unfold ZZ ZgQ
 by_cases p:o.Kind=1
 ·obtain ⟨c,f,q2⟩:=two_q (Zly hs) (Zun hs)
  by_cases hl:(o.Rows.length:Int)=o.Size
  ·refine ⟨c,?_,?_⟩
   ·cases c<;>simp (disch:=omega) only [pz,f]
   ·simp (disch:=omega) only [pz,q2,ZF]
  ·refine ⟨false,?_,?_⟩
   ·cases c<;>simp (disch:=omega) only [pz,f]
   ·simp (disch:=omega) only [pz,q2,ZF]
 by_cases s:o.Kind=2
 ·obtain ⟨c,f,q2⟩:=two_q (ZsI (d:=⟨o.Size,o.Rows⟩) hs) (ZAV (d:=⟨o.Size,o.Rows⟩) hs)
  refine ⟨c,?_,?_⟩
  ·simp (disch:=omega) only [pz,f]
  ·simp (disch:=omega) only [pz,e,Zec,Zck hs,q2]
 by_cases t:o.Kind=3
 ·obtain ⟨c,f,q2⟩:=two_q (Zoe hs) (Zsh hs)
  by_cases hl:(o.Rows.length:Int)=o.Size
  ·refine ⟨c,?_,?_⟩
   ·cases c<;>simp (disch:=omega) only [pz,f]
   ·simp (disch:=omega) only [pz,q2,ZF]
  ·refine ⟨false,?_,?_⟩
   ·cases c<;>simp (disch:=omega) only [pz,f]
   ·simp (disch:=omega) only [pz,q2,ZF]
 by_cases u:o.Kind=4
 ·by_cases hl:0<(o.Rows.length:Int)
  ·obtain ⟨c,f,q2⟩:=two_q (ZqH (a:=⟨o.Size,(ix o.Rows 0).length,o.Rows⟩) hs) (Zrh (a:=⟨o.Size,(ix o.Rows 0).length,o.Rows⟩) hs)
   refine ⟨c,?_,?_⟩
   ·simp (disch:=omega) only [pz,Zcw,f]
   ·simp (disch:=omega) only [pz,e,Ze7,ZH,Zck hs,q2]
  ·refine ⟨false,?_,?_⟩
   ·simp (disch:=omega) only [pz,Zcw]
   ·simp (disch:=omega) only [pz,]
 by_cases v:o.Kind=5
 ·obtain ⟨cs,ci,b,i,j,k,l⟩:=ZuC hs
  have m:ZQ.mk (Zd.mk cs.Field.Prime cs.Field.Degree cs.Field.Poly) cs.Rows=cs:=rfl
  refine ⟨b,?_,?_⟩
  ·simp (disch:=omega) only [pz,i,m,k]
  ·simp (disch:=omega) only [pz,e,j,l]
 by_cases w:o.Kind=6
 ·obtain ⟨r,i,j,_⟩:=ZAA hs
  refine ⟨r.2,?_,?_⟩
  ·simp (disch:=omega) only [pz,i]
  ·simp (disch:=omega) only [pz,e,j]
 by_cases x:o.Kind=7
 ·obtain ⟨c,f,q2⟩:=two_q (ZBD (g:=⟨o.Size,o.Rows⟩) hs) (ZvZ (g:=⟨o.Size,o.Rows⟩) hs)
  refine ⟨c,?_,?_⟩
  ·simp (disch:=omega) only [pz,f]
  ·simp (disch:=omega) only [pz,e,Zky,Zck hs,q2]
 ·refine ⟨false,?_,?_⟩
  ·simp (disch:=omega) only [pz,]
  ·simp (disch:=omega) only [pz,]
end Go.Proofs.YtghbgeaammnkcaaGreatDoor
namespace Go.Proofs.YtghbgeaammnkcaaGreatDoor
set_option linter.unusedVariables false
open Go Go.Vc Go.Lib
set_option linter.unusedSimpArgs false
theorem gFitW {a b:ByteArray} (h:a.size+b.size≤4000000000000000000):gFit a b=some ():=by
 unfold gFit
 rw [if_pos]
 have:IntKind.i64.max=9223372036854775807:=rfl
 omega
def bl (l:List UInt8):ByteArray:=⟨l.toArray⟩
theorem Zi5 (b:ByteArray):bl b.data.toList=b:=by cases b;rfl
theorem Zst (l:List UInt8):(bl l).size=l.length:=by show l.toArray.size=_;simp
theorem ZlV (l r:List UInt8):bl l++bl r=bl (l++r):=by
 apply ByteArray.ext
 rw [ByteArray.data_append]
 show l.toArray++r.toArray=(l++r).toArray
 simp
theorem Zpk (a b:ByteArray):(a++b).size=a.size+b.size:=by simp
theorem ZA5 (x s:ByteArray):joinB [x] s=x:=by
 unfold joinB
 rw [List.map_cons,List.map_nil,join_one]
theorem Zn2 (x:ByteArray) (r:List ByteArray) (s:ByteArray):joinB (x::r) s=bl (x.data.toList++joinTail s.data.toList (r.map (·.data.toList))):=by
 unfold joinB
 rw [List.map_cons,join_cons];rfl
theorem ZFk {l:List ByteArray} (h:l≠[]) (x s:ByteArray):joinB (l++[x]) s=joinB l s++s++x:=by
 cases l with
 | nil=>exact absurd rfl h
 | cons a r=>
  rw [List.cons_append,Zn2,Zn2,List.map_append]
  conv=>rhs;rw [←Zi5 s,←Zi5 x,ZlV,ZlV]
  congr 1
  rw [Zi5]
  simp [joinTail]
theorem Zsi {l:List ByteArray} {s:ByteArray} {m:Nat} (h:∀ x∈l,x.size≤m):(joinB l s).size≤(m+s.size)*l.length:=by
 cases l with
 | nil=>exact Nat.zero_le _
 | cons a r=>
  have hl:∀ (r:List ByteArray),(∀ x∈r,x.size≤m)→lens (r.map (·.data.toList))≤m*r.length:=by
   intro r
   induction r with
   | nil=>intro _;exact Nat.zero_le _
   | cons b t ih=>
    intro e
    have f:=ih fun x c=>e x (List.mem_cons_of_mem _ c)
    have i:=e b (List.mem_cons_self ..)
    have g:b.data.toList.length=b.size:=by rw [Array.length_toList];rfl
    simp only [lens,List.map_cons,List.sum_cons,List.length_cons] at f ⊢
    rw [Nat.mul_succ]
    omega
  have f:=hl r fun x c=>h x (List.mem_cons_of_mem _ c)
  have i:=h a (List.mem_cons_self ..)
  have g:a.data.toList.length=a.size:=by rw [Array.length_toList];rfl
  have j:s.data.toList.length=s.size:=by rw [Array.length_toList];rfl
  rw [Zn2,Zst,List.length_append,joinTail_length,List.length_map,g,j,List.length_cons,Nat.add_mul,Nat.mul_succ,Nat.mul_succ]
  omega
theorem dgl:∀ (m u:Nat),u<10^(m+1)→(decDigits u).length≤m+1:=by
 intro m
 induction m with
 | zero=>
  intro u h
  rw [decDigits,dif_pos (by simpa using h)]
  exact Nat.le_refl _
 | succ m ih=>
  intro u h
  rw [decDigits]
  split
  ·simp
  ·have e:10^(m+1+1)=10^(m+1)*10:=Nat.pow_succ ..
   have:=ih (u/10) (by omega)
   rw [List.length_append,List.length_singleton]
   omega
theorem ZqK {n:Int} (m:Nat) (b:-10^(m+1)<n) (c:n<10^(m+1)):(itoaB n).size≤m+2:=by
 have e:(10:Int)^(m+1)=((10^(m+1):Nat):Int):=by simp
 rw [e] at b c
 show (itoa n).toArray.size≤_
 unfold itoa
 split
 ·have:=dgl m n.natAbs (by omega)
  simp;omega
 ·have:=dgl m n.toNat (by omega)
  simp;omega
theorem tq (k:Int):(0≤k→Int.tmod k 10=((k.natAbs%10:Nat):Int)∧Int.tdiv k 10=((k.natAbs/10:Nat):Int))∧(k<0→Int.tmod k 10=-((k.natAbs%10:Nat):Int)∧Int.tdiv k 10=-((k.natAbs/10:Nat):Int)):=by
 refine ⟨fun h=>?_,fun h=>?_⟩
 ·rw [Int.tmod_eq_emod_of_nonneg h,Int.tdiv_eq_ediv_of_nonneg h]
  omega
 ·obtain ⟨j,rfl⟩:∃ j,k=-j:=⟨-k,by omega⟩
  rw [Int.neg_tmod,Int.neg_tdiv,Int.tmod_eq_emod_of_nonneg (by omega),Int.tdiv_eq_ediv_of_nonneg (by omega)]
  omega
def nums (l:List UInt8):List Int:=l.map fun b=>(b.toNat:Int)
theorem Zyz (l:List UInt8):gByt (nums l)=some (bl l):=by
 unfold gByt
 rw [if_pos]
 ·congr 1
  unfold bstr nums bl
  congr 2
  rw [List.map_map]
  conv=>rhs;rw [←List.map_id l]
  refine List.map_congr_left fun x _=>?_
  simp
 ·intro x c
  obtain ⟨b,_,rfl⟩:=List.mem_map.1 c
  have:=b.toNat_lt
  omega
theorem Zyn {n0 k:Int} {out:List Int} (hk:¬ k=0) (e:-9223372036854775808≤k) (f:k≤9223372036854775807) (ho:out.length≤100):
  Zba n0 (out,k)=some (.inl (((48+k.natAbs%10:Nat):Int)::out,Int.tdiv k 10)):=by
 have hm:k.natAbs%10<10:=Nat.mod_lt _ (by omega)
 have k1:∀ d:Int,d=((k.natAbs%10:Nat):Int)→Zgd out k d=some (.inl (((48+k.natAbs%10:Nat):Int)::out,Int.tdiv k 10)):=by
  intro d b
  have w1:IntKind.i64.wrap (48+d)=48+d:=Za4 (by omega) (by omega)
  have w2:IntKind.u8.wrap (48+d)=48+d:=u8_of (by omega) (by omega)
  have c:IntKind.i64.wrap (Int.tdiv k 10)=Int.tdiv k 10:=by
   by_cases hp:0≤k
   ·have:=((tq k).1 hp).2;exact Za4 (by omega) (by omega)
   ·have:=((tq k).2 (by omega)).2;exact Za4 (by omega) (by omega)
  have g:gApp 1 [48+d] out=some ([48+d]++out):=ZbN (by simp;omega) (by simp;omega)
  unfold Zgd
  rw [w1,w2,g]
  simp (disch:=omega) only [pz,c]
  rw [b]
  simp
 by_cases hp:0≤k
 ·have b:=((tq k).1 hp).1
  have i:¬ Int.tmod k 10<0:=by omega
  simp (disch:=omega) only [pz,Zba,k1 _ b]
 ·have b:=((tq k).2 (by omega)).1
  by_cases hz:Int.tmod k 10<0
  ·have w:IntKind.i64.wrap (0-Int.tmod k 10)=0-Int.tmod k 10:=Za4 (by omega) (by omega)
   simp (disch:=omega) only [pz,Zba,w,k1 (0-Int.tmod k 10) (by omega)]
  ·simp (disch:=omega) only [pz,Zba,k1 (Int.tmod k 10) (by omega)]
theorem ZFg (n0:Int):∀ (m:Nat) (k:Int) (out:List Int),¬ k=0→k.natAbs<10^m→-9223372036854775808≤k→k≤9223372036854775807→out.length+m≤100 →
  loop (Zba n0) (out,k)=loop (Zba n0) (nums (decDigits k.natAbs)++out,0):=by
 intro m
 induction m with
 | zero=>intro k out hk h;exact absurd (by simp at h;omega) hk
 | succ m ih=>
  intro k out hk h f g ho
  rw [ZL (Zyn hk f g (by omega))]
  have hm:k.natAbs%10<10:=Nat.mod_lt _ (by omega)
  have hu:(Int.tdiv k 10).natAbs=k.natAbs/10:=by
   by_cases hp:0≤k
   ·have:=((tq k).1 hp).2;omega
   ·have:=((tq k).2 (by omega)).2;omega
  have b:((UInt8.ofNat (48+k.natAbs%10)).toNat:Int)=((48+k.natAbs%10:Nat):Int):=by
   rw [UInt8.toNat_ofNat'];omega
  by_cases hz:k.natAbs<10
  ·have i:Int.tdiv k 10=0:=by omega
   have c:k.natAbs%10=k.natAbs:=by omega
   rw [i,decDigits,dif_pos hz]
   rw [c] at b ⊢
   unfold nums
   rw [List.map_cons,List.map_nil,b];rfl
  ·have e:10^(m+1)=10^m*10:=Nat.pow_succ ..
   rw [ih (Int.tdiv k 10) _ (by omega) (by rw [hu];omega) (by
    by_cases hp:0≤k
    ·have:=((tq k).1 hp).2;omega
    ·have:=((tq k).2 (by omega)).2;omega) (by
    by_cases hp:0≤k
    ·have:=((tq k).1 hp).2;omega
    ·have:=((tq k).2 (by omega)).2;omega) (by rw [List.length_cons];omega),hu]
   conv=>rhs;rw [decDigits,dif_neg hz]
   unfold nums
   rw [List.map_append,List.map_cons,List.map_nil,b]
   simp
theorem dgn (u:Nat):0<(decDigits u).length:=by
 rw [decDigits];split<;>simp
theorem ZlM {n:Int} (c:-9223372036854775808≤n) (e:n≤9223372036854775807):Zab n=some (itoaB n):=by
 unfold Zab
 by_cases b:n=0
 ·subst b
  rw [Zc (r:=⟨#[48]⟩) (by simp (disch:=omega) only [pz,Zba,List.length_nil])]
  congr 1
  unfold itoaB itoa
  rw [if_neg (by omega),decDigits,dif_pos (by decide)]
  rfl
 ·rw [ZFg n 19 n [] b (by omega) c e (by decide),List.append_nil]
  have hl:=dgn n.natAbs
  have f:(nums (decDigits n.natAbs)).length=(decDigits n.natAbs).length:=List.length_map ..
  have hs:=Zyz (decDigits n.natAbs)
  have g:=dgl 19 n.natAbs (by omega)
  have hz:¬ ((nums (decDigits n.natAbs)).length:Int)=0:=by omega
  by_cases hp:n<0
  ·have hf:gFit ⟨#[45]⟩ (bl (decDigits n.natAbs))=some ():=gFitW (by rw [Zst];show 1+_≤_;omega)
   rw [Zc (r:=(⟨#[45]⟩:ByteArray)++bl (decDigits n.natAbs)) (by simp (disch:=omega) only [pz,Zba,hs,hf])]
   congr 1
   unfold itoaB itoa
   rw [if_pos hp]
   exact ZlV [45] _
  ·rw [Zc (r:=bl (decDigits n.natAbs)) (by simp (disch:=omega) only [pz,Zba,hs])]
   congr 1
   unfold itoaB itoa
   rw [if_neg hp,show n.natAbs=n.toNat by omega]
   rfl
theorem ZsM {n:Int} (b:-9223372036854775808≤n) (c:n≤9223372036854775807):ZfY n=some (itoaB n):=by
 unfold ZfY Zj3
 rw [if_pos ⟨rfl,b,c⟩];rfl
end Go.Proofs.YtghbgeaammnkcaaGreatDoor
namespace Go.Proofs.YtghbgeaammnkcaaGreatDoor
set_option linter.unusedVariables false
open Go Go.Vc Go.Lib
set_option linter.unusedSimpArgs false
theorem Zu9 (b:ByteArray):(⟨#[]⟩:ByteArray)++b=b:=by
 have:=ZlV [] b.data.toList
 rw [Zi5] at this
 rw [show (⟨#[]⟩:ByteArray)=bl [] from rfl,this,List.nil_append,Zi5]
theorem ZB8 {l:List ByteArray} {s:ByteArray} (b:l.length≤140737488355328) (c:(joinB l s).size≤140737488355328):ZhR l s=some (joinB l s):=by
 unfold ZhR
 rw [if_pos ⟨b,c⟩]
theorem Zzg {α:Type} [Inhabited α] {xs:List α} {f:α→ByteArray} {s:ByteArray} {k:Int} (c:0<k) (b:k<(xs.length:Int)):
  joinB ((xs.take (k+1).toNat).map f) s=joinB ((xs.take k.toNat).map f) s++s++f (ix xs k):=by
 rw [ZaS (by omega) b,List.map_append,List.map_cons,List.map_nil,ZFk]
 intro e
 have:=congrArg List.length e
 rw [List.length_map,List.length_take,List.length_nil] at this
 omega
theorem ZEd {α:Type} [Inhabited α] {xs:List α} {f:α→ByteArray} {s:ByteArray} (b:0<(xs.length:Int)):
  joinB ((xs.take ((0:Int)+1).toNat).map f) s=f (ix xs 0):=by
 rw [ZaS (by omega) b]
 exact ZA5 _ _
theorem ZxM {α β:Type} [Inhabited α] {xs:List α} {f:α→β} {k:Int} (b:0≤k) (c:k<(xs.length:Int)):(xs.take (k+1).toNat).map f=(xs.take k.toNat).map f++[f (ix xs k)]:=by
 rw [ZaS b c,List.map_append];rfl
theorem jsize {α:Type} {xs:List α} {f:α→ByteArray} {s:ByteArray} {m N:Nat} (hf:∀ x∈xs,(f x).size≤m) (hl:xs.length≤N) (i:Nat):(joinB ((xs.take i).map f) s).size≤(m+s.size)*N:=by
 refine Nat.le_trans (Zsi (m:=m) fun y hy=>?_) (Nat.mul_le_mul_left _ ?_)
 ·obtain ⟨x,b,rfl⟩:=List.mem_map.1 hy
  exact hf x (List.mem_of_mem_take b)
 ·rw [List.length_map,List.length_take];omega
def InR (x:Int):Prop:=-999999999≤x∧x≤999999999
theorem Zkp {x:Int} (h:InR x):(itoaB x).size≤10:=ZqK 8 (by have:=h.1;omega) (by have:=h.2;omega)
noncomputable def tL (xs:List Int):ByteArray:=@ite _ (xs.length≤100∧∀ x∈xs,InR x) (Classical.propDecidable _) (if xs=[] then ⟨#[45]⟩ else joinB (xs.map itoaB) ⟨#[44]⟩) ⟨#[]⟩
theorem tL_t {xs:List Int} (h:xs.length≤100∧∀ x∈xs,InR x) (b:xs≠[]):tL xs=joinB (xs.map itoaB) ⟨#[44]⟩:=by unfold tL;rw [if_pos h,if_neg b]
theorem tL_n {xs:List Int} (b:xs=[]):tL xs=⟨#[45]⟩:=by
 subst b
 unfold tL
 rw [if_pos ⟨by decide,fun x c=>by cases c⟩,if_pos rfl]
theorem tL_f {xs:List Int} (h:¬ (xs.length≤100∧∀ x∈xs,InR x)):tL xs=⟨#[]⟩:=by unfold tL;rw [if_neg h]
theorem ZFH (xs:List Int):(tL xs).size≤1100:=by
 by_cases b:xs=[]
 ·rw [tL_n b];show 1≤_;omega
 ·by_cases h:xs.length≤100∧∀ x∈xs,InR x
  ·rw [tL_t h b]
   have:=jsize (xs:=xs) (f:=itoaB) (s:=⟨#[44]⟩) (m:=10) (N:=100) (fun x c=>Zkp (h.2 x c)) h.1 xs.length
   rw [List.take_length] at this
   exact this
  ·rw [tL_f h];show 0≤_;omega
theorem Zqg {n:Int} (b:0≤n) (P:Int→Prop):(∃ k,0≤k∧k<n∧P k∧∀ j,0≤j→j<k→¬ P j)∨∀ j,0≤j→j<n→¬ P j:=by
 rcases ZaK (σ:=Int) (ρ:=Unit) (B:=fun k=>some (.inl (k+1))) (fun k=>k) P b (fun k _ _ _=>rfl) with ⟨k,c,e,f,g,_⟩|⟨h,_⟩
 ·exact .inl ⟨k,c,e,f,g⟩
 ·exact .inr h
theorem ZA9 {xs:List Int} {n:Int} (f:n≤(xs.length:Int)) (h:∀ j,0≤j→j<n→InR (ix xs j)):∀ x∈xs.take n.toNat,InR x:=by
 intro x c
 obtain ⟨i,b,e,rfl⟩:=Z0 c
 rw [List.length_take] at e
 rw [Zb7 b (by omega)]
 exact h i b (by omega)
theorem ZuN {xs:List Int} {n:Int} (i:0≤n) (u:n≤(xs.length:Int)) (hl:xs.length≤100) (h:∀ j,0≤j→j<n→InR (ix xs j)):
  loop (ZbH xs) (⟨#[]⟩,0)=loop (ZbH xs) (joinB ((xs.take n.toNat).map itoaB) ⟨#[44]⟩,n):=by
 refine Zj (fun k:Int=>(joinB ((xs.take k.toNat).map itoaB) ⟨#[44]⟩,k)) i fun k o k1=>?_
 have hk:=h k o k1
 have e:=ZlM (n:=ix xs k) (by have:=hk.1;omega) (by have:=hk.2;omega)
 have hz:=Zkp hk
 have hlk:(xs.take k.toNat).length≤100:=by rw [List.length_take];omega
 have hj:=Zsi (l:=(xs.take k.toNat).map itoaB) (s:=⟨#[44]⟩) (m:=10) fun y hy=>by
  obtain ⟨x,p,rfl⟩:=List.mem_map.1 hy
  exact Zkp (ZA9 (n:=k) (by omega) (fun j a b=>h j a (by omega)) x p)
 rw [List.length_map] at hj
 have f:(joinB ((xs.take k.toNat).map itoaB) ⟨#[44]⟩).size≤1100:=Nat.le_trans hj (Nat.mul_le_mul_left 11 hlk)
 have hi:ZR (ix xs k) (-999999999) 999999999=some true:=by
  have:=hk.1;have:=hk.2
  simp (disch:=omega) only [pz,ZR]
 by_cases g:k=0
 ·subst g
  rw [ZEd (by omega)]
  have c:gFit ⟨#[]⟩ (itoaB (ix xs 0))=some ():=gFitW (by show 0+_≤_;omega)
  have r:joinB ((xs.take (0:Int).toNat).map itoaB) ⟨#[44]⟩=⟨#[]⟩:=rfl
  rw [r]
  simp (disch:=omega) only [pz,ZbH,ZfV,hi,e,c,Zu9]
 ·rw [Zzg (by omega) (by omega)]
  generalize joinB ((xs.take k.toNat).map itoaB) ⟨#[44]⟩=out at f
  have t:gFit out ⟨#[44]⟩=some ():=gFitW (by show out.size+1≤_;omega)
  have c:gFit (out++⟨#[44]⟩) (itoaB (ix xs k))=some ():=gFitW (by rw [Zpk];show out.size+1+_≤_;omega)
  simp (disch:=omega) only [pz,ZbH,ZfV,hi,e,t,c]
theorem Zre {xs:List Int}:(∀ x∈xs,InR x)↔∀ j,0≤j→j<(xs.length:Int)→InR (ix xs j):=
 ⟨fun h j a b=>h _ (ZP a b),fun h x c=>by obtain ⟨i,a,b,rfl⟩:=Z0 c;exact h i a b⟩
theorem ZDL (xs:List Int):ZjI xs=some (tL xs):=by
 unfold ZjI
 by_cases hl:xs.length≤100
 ·by_cases c:xs=[]
  ·rw [tL_n c];subst c;simp (disch:=omega) only [pz,List.length_nil]
  ·have hp:0<(xs.length:Int):=by
    cases xs with
    | nil=>exact absurd rfl c
    | cons a t=>simp
   rcases Zqg (n:=xs.length) (by omega) (fun k=>¬ InR (ix xs k)) with ⟨k,i,k1,hk,f⟩|f
   ·rw [tL_f fun h=>hk (Zre.1 h.2 k i k1)]
    have e:=ZuN (xs:=xs) (n:=k) i (by omega) hl fun j a b=>Classical.not_not.1 (f j a b)
    have hi:ZR (ix xs k) (-999999999) 999999999=some false:=by
     by_cases l:-999999999≤ix xs k
     ·have:¬ ix xs k≤999999999:=fun m=>hk ⟨l,m⟩
      simp (disch:=omega) only [pz,ZR]
     ·simp (disch:=omega) only [pz,ZR]
    have g:loop (ZbH xs) (⟨#[]⟩,0)=some ⟨#[]⟩:=by
     rw [e]
     exact Zc (by simp (disch:=omega) only [pz,ZbH,hi])
    simp (disch:=omega) only [pz,g]
   ·have ha:∀ j,0≤j→j<(xs.length:Int)→InR (ix xs j):=fun j a b=>Classical.not_not.1 (f j a b)
    rw [tL_t ⟨hl,Zre.2 ha⟩ c]
    have e:=ZuN (xs:=xs) (n:=xs.length) (by omega) (by omega) hl ha
    rw [Int.toNat_natCast,List.take_length] at e
    have g:loop (ZbH xs) (⟨#[]⟩,0)=some (joinB (xs.map itoaB) ⟨#[44]⟩):=by
     rw [e]
     exact Zc (by simp (disch:=omega) only [pz,ZbH])
    simp (disch:=omega) only [pz,g]
 ·rw [tL_f fun h=>hl h.1]
  simp (disch:=omega) only [pz,]
theorem ZCW (xs:List Int):ZgY xs=some (tL xs):=by
 unfold ZgY
 by_cases hl:xs.length≤100
 ·have j:=containsL (s:=xs) (fn:=fun v=>Zd4 v) (q:=fun x=>¬ InR x) (by omega) fun x c=>by
   by_cases o:-999999999≤x
   ·by_cases p:x≤999999999
    ·simp (disch:=omega) only [pz,Zd4,Z2]
     exact IsQ.f fun h=>h ⟨o,p⟩
    ·simp (disch:=omega) only [pz,Zd4,Z2]
     exact IsQ.t fun h=>p h.2
   ·simp (disch:=omega) only [pz,Zd4,Z2]
    exact IsQ.t fun h=>o h.1
  by_cases ha:∀ x∈xs,InR x
  ·have b:=j.ne fun ⟨x,c,h⟩=>h (ha x c)
   by_cases g:xs=[]
   ·rw [tL_n g];subst g;simp (disch:=omega) only [pz,b,Zg1,List.length_nil]
   ·rw [tL_t ⟨hl,ha⟩ g]
    have hp:0<(xs.length:Int):=by
     cases xs with
     | nil=>exact absurd rfl g
     | cons a t=>simp
    have e:loop (Zex xs) ([],0)=some (joinB (xs.map itoaB) ⟨#[44]⟩):=by
     have r:=Zj (B:=Zex xs) (fun k:Int=>((xs.take k.toNat).map itoaB,k)) (i:=0) (n:=xs.length) (by omega) fun k u k1=>by
      have hk:=ha _ (ZP u k1)
      have w:=ZsM (n:=ix xs k) (by have:=hk.1;omega) (by have:=hk.2;omega)
      have hlk:((xs.take k.toNat).map itoaB).length≤100:=by rw [List.length_map,List.length_take];omega
      rw [ZxM u k1]
      have hg:gApp 16 ((xs.take k.toNat).map itoaB) [itoaB (ix xs k)]=some ((xs.take k.toNat).map itoaB++[itoaB (ix xs k)]):=gApp1 (by omega) (by omega)
      simp (disch:=omega) only [pz,Zex,w,hg]
     rw [Int.toNat_natCast,List.take_length] at r
     refine r.trans (Zc ?_)
     have hj:=jsize (xs:=xs) (f:=itoaB) (s:=⟨#[44]⟩) (m:=10) (N:=100) (fun x c=>Zkp (ha x c)) hl xs.length
     rw [List.take_length] at hj
     have y:=ZB8 (l:=xs.map itoaB) (s:=⟨#[44]⟩) (by rw [List.length_map];omega) (Nat.le_trans hj (by decide))
     simp (disch:=omega) only [pz,Zex,y]
    simp (disch:=omega) only [pz,b,Zg1,e]
  ·have b:=j.eq (by
    refine Classical.byContradiction fun h=>ha fun x c=>Classical.not_not.1 fun hh=>h ⟨x,c,hh⟩)
   rw [tL_f fun h=>ha h.2]
   simp (disch:=omega) only [pz,b]
 ·rw [tL_f fun h=>hl h.1]
  simp (disch:=omega) only [pz,]
noncomputable def tR (rows:List (List Int)):ByteArray:=if rows=[] then ⟨#[110,111,110,101]⟩ else joinB (rows.map tL) ⟨#[47]⟩
end Go.Proofs.YtghbgeaammnkcaaGreatDoor
namespace Go.Proofs.YtghbgeaammnkcaaGreatDoor
set_option linter.unusedVariables false
open Go Go.Vc
set_option linter.unusedSimpArgs false
def colG {α:Type} (g:Int→List α) (lo:Int):Nat→List α
 | 0=>[]
 | n+1=>colG g lo n++g (lo+(n:Int))
theorem Za8 {α:Type} {g:Int→List α} {lo:Int} {M:Nat}:∀ {n:Nat},(∀ k,lo≤k→k<lo+(n:Int)→(g k).length≤M)→(colG g lo n).length≤n*M
 | 0,_=>by simp [colG]
 | n+1,h=>by
  have ih:=Za8 (n:=n) (g:=g) (lo:=lo) (M:=M) fun k a b=>h k a (by omega)
  have:=h (lo+(n:Int)) (by omega) (by omega)
  rw [colG,List.length_append,Nat.succ_mul]
  omega
theorem Zlu {α:Type} {g:Int→List α} {lo:Int} {x:α}:∀ {n:Nat},x∈colG g lo n→∃ k,lo≤k∧k<lo+(n:Int)∧x∈g k
 | 0,h=>by cases h
 | n+1,h=>by
  rw [colG] at h
  rcases List.mem_append.1 h with h|h
  ·obtain ⟨k,a,b,c⟩:=Zlu h
   exact ⟨k,a,by omega,c⟩
  ·exact ⟨_,by omega,by omega,h⟩
theorem ZaH {α ρ:Type} {B:List α×Int→Option ((List α×Int) ⊕ ρ)} (g:Int→List α) (M N:Nat) {lo hi:Int} (hle:lo≤hi) (hM:∀ k,lo≤k→k<hi→(g k).length≤M) (o:List α) (hN:o.length+(hi-lo).toNat*M≤N)
  (h:∀ out k,lo≤k→k<hi→out.length≤N→(out++g k).length≤N→B (out,k)=some (.inl (out++g k,k+1))):loop B (o,lo)=loop B (o++colG g lo (hi-lo).toNat,hi):=by
 have e:=Zj (B:=B) (fun k:Int=>(o++colG g lo (k-lo).toNat,k)) hle fun k a b=>by
  have hl:∀ m:Nat,m≤(hi-lo).toNat→(colG g lo m).length≤m*M:=fun m hm=>Za8 fun j c d=>hM j c (by omega)
  have i:=hl (k-lo).toNat (by omega)
  have l:=hl (k+1-lo).toNat (by omega)
  have p:(k-lo).toNat*M≤(hi-lo).toNat*M:=Nat.mul_le_mul_right _ (by omega)
  have r:(k+1-lo).toNat*M≤(hi-lo).toNat*M:=Nat.mul_le_mul_right _ (by omega)
  have f:colG g lo (k+1-lo).toNat=colG g lo (k-lo).toNat++g k:=by
   rw [show (k+1-lo).toNat=(k-lo).toNat+1 by omega,colG,show lo+(((k-lo).toNat:Nat):Int)=k by omega]
  have:=h (o++colG g lo (k-lo).toNat) k a b (by rw [List.length_append];omega) (by rw [List.append_assoc,←f,List.length_append];omega)
  rw [f,←List.append_assoc]
  exact this
 rw [show (lo-lo).toNat=0 by omega] at e
 simpa [colG] using e
def fctW (w:ByteArray) (n:Int):ByteArray:=(w++⟨#[32]⟩)++itoaB n
theorem ZpI {w:ByteArray} {n:Int} (hw:w.size≤100) (b:-9223372036854775808≤n) (c:n≤9223372036854775807):Zad w n=some (fctW w n):=by
 unfold Zad fctW
 have e:=ZsM b c
 have hs:=ZqK (n:=n) 18 (by omega) (by omega)
 have f:gFit w (⟨#[32]⟩:ByteArray)=some ():=gFitW (by show w.size+1≤_;omega)
 have g:gFit (w++(⟨#[32]⟩:ByteArray)) (itoaB n)=some ():=gFitW (by rw [Zpk];show w.size+1+_≤_;omega)
 simp (disch:=omega) only [pz,e,f,g]
theorem Zqx {w:ByteArray} {n:Int} (hw:w.size≤100) (b:-9223372036854775808≤n) (c:n≤9223372036854775807):gFit w (itoaB n)=some ():=by
 have hs:=ZqK (n:=n) 18 (by omega) (by omega)
 exact gFitW (by omega)
theorem gAppS {xs ys:List ByteArray} (h:(xs++ys).length≤1000000):gApp 16 xs ys=some (xs++ys):=by
 rw [List.length_append] at h
 exact ZbN (by omega) (by omega)
end Go.Proofs.YtghbgeaammnkcaaGreatDoor
namespace Go.Proofs.YtghbgeaammnkcaaGreatDoor
set_option linter.unusedVariables false
open Go Go.Vc
set_option linter.unusedSimpArgs false
structure SqB (a:List (List Int)):Prop where
 n1:1≤(a.length:Int)
 n2:(a.length:Int)≤10
 row:∀ x,0≤x→x<(a.length:Int)→((ix a x).length:Int)=a.length
 ent:∀ x y,0≤x→x<(a.length:Int)→0≤y→y<(a.length:Int)→0≤ix (ix a x) y∧ix (ix a x) y<(a.length:Int)
theorem ZoM {a:List (List Int)} (h:ValidSq a):SqB a:=by
 have hr:∀ x,0≤x→x<(a.length:Int)→((ix a x).length:Int)=a.length:=fun x b c=>(h.row _ (ZP b c)).1
 refine ⟨h.n1,h.n2,hr,fun x y b c e f=>?_⟩
 have hp:=(h.row _ (ZP b c)).2.2
 have hl:=hr x b c
 have:=hp.rng _ (ZP (xs:=ix a x) (i:=y) e (by omega))
 omega
def allI (n:Int) (P:Int→Prop):Prop:=∀ k,0≤k→k<n→P k
theorem Zc0 {B:Int→Option (Int ⊕ Bool)} {P:Int→Prop} {n:Int} (b:0≤n) (h:∀ k,0≤k→k<n→P k→B k=some (.inl (k+1))) (h':∀ k,0≤k→k<n→¬ P k→B k=some (.inr false)) (he:B n=some (.inr true)):IsQ (loop B 0) (allI n P):=
 (ZaE (P:=P) (n:=n) (Q:=True) b h h' fun _=>by rw [Zc he];exact IsQ.t trivial).congr ⟨fun g=>g.1,fun g=>⟨g,trivial⟩⟩
theorem Zf0 {a:List (List Int)} {fn:Int→Option Bool} {P:Int→Prop} (e:(a.length:Int)≤1048576) (h:∀ k,0≤k→k<(a.length:Int)→IsQ (fn k) (P k)):IsQ (ZaT a fn) (allI a.length P):=by
 unfold ZaT
 refine Zc0 (by omega) (fun k b c hp=>?_) (fun k b c hp=>?_) (by simp (disch:=omega) only [pz,ZiN])
 ·have:=(h k b c).eq hp
  simp (disch:=omega) only [pz,ZiN,this]
 ·have:=(h k b c).ne hp
  simp (disch:=omega) only [pz,ZiN,this]
theorem Zpj {a:List (List Int)} {fn:Int→Int→Option Bool} {P:Int→Int→Prop} (b:(a.length:Int)≤1048576) (h:∀ x y,0≤x→x<(a.length:Int)→0≤y→y<(a.length:Int)→IsQ (fn x y) (P x y)):IsQ (Zcp a fn) (allI a.length fun x=>allI a.length fun y=>P x y):=by
 unfold Zcp
 exact Zf0 b fun x c e=>Zf0 b fun y f g=>h x y c e f g
theorem Ze3 (x y:Int):IsQ (some (x==y)) (x=y):=⟨_,rfl,by simp⟩
def Idn (a:List (List Int)) (k:Int):Prop:=
 if k=1 then allI a.length fun x=>ix (ix a x) x=x
 else if k=2 then allI a.length fun x=>ix (ix a x) x=ix (ix a 0) 0
 else if k=3 then allI a.length fun x=>allI a.length fun y=>ix (ix a x) y=ix (ix a y) x
 else if k=4 then ∃ e,(0≤e∧e<(a.length:Int))∧allI a.length fun x=>ix (ix a e) x=x
 else if k=5 then ∃ e,(0≤e∧e<(a.length:Int))∧allI a.length fun x=>ix (ix a x) e=x
 else if k=6 then allI a.length fun x=>allI a.length fun y=>allI a.length fun z=>ix (ix a (ix (ix a x) y)) z=ix (ix a x) (ix (ix a y) z)
 else if k=7 then allI a.length fun x=>allI a.length fun y=>ix (ix a x) (ix (ix a y) x)=y
 else (allI a.length fun x=>allI a.length fun y=>ix (ix a x) y=ix (ix a y) x)∧allI a.length fun x=>allI a.length fun y=>ix (ix a x) (ix (ix a y) x)=y
theorem ZrM {a:List (List Int)} (h:SqB a) {k:Int} (hk:k=1∨k=2):IsQ (Zhn a k) (Idn a k):=by
 have n1:=h.n1
 have n2:=h.n2
 have hz:=h.row 0 (by omega) (by omega)
 unfold Zhn Idn
 rcases hk with rfl|rfl
 ·rw [if_pos rfl]
  refine Zc0 (by omega) (fun x b c hp=>?_) (fun x b c hp=>?_) (by simp (disch:=omega) only [pz,Zdj])
  ·have:=h.row x b c
   simp (disch:=omega) only [pz,Zdj]
  ·have:=h.row x b c
   simp (disch:=omega) only [pz,Zdj]
 ·rw [if_neg (by omega),if_pos rfl]
  refine Zc0 (by omega) (fun x b c hp=>?_) (fun x b c hp=>?_) (by simp (disch:=omega) only [pz,Zdj])
  ·have:=h.row x b c
   simp (disch:=omega) only [pz,Zdj]
  ·have:=h.row x b c
   simp (disch:=omega) only [pz,Zdj]
theorem Zsb {a:List (List Int)} (h:SqB a) {e:Int} (f:0≤e) (g:e<(a.length:Int)):IsQ (Zeh a e true) (allI a.length fun x=>ix (ix a e) x=x)∧IsQ (Zeh a e false) (allI a.length fun x=>ix (ix a x) e=x):=by
 have n1:=h.n1
 have n2:=h.n2
 have he:=h.row e f g
 unfold Zeh
 constructor
 ·refine Zc0 (by omega) (fun x b c hp=>?_) (fun x b c hp=>?_) (by simp (disch:=omega) only [pz,ZcI])
  ·simp (disch:=omega) only [pz,ZcI]
  ·simp (disch:=omega) only [pz,ZcI]
 ·refine Zc0 (by omega) (fun x b c hp=>?_) (fun x b c hp=>?_) (by simp (disch:=omega) only [pz,ZcI])
  ·have:=h.row x b c
   simp (disch:=omega) only [pz,ZcI]
  ·have:=h.row x b c
   simp (disch:=omega) only [pz,ZcI]
theorem Zrn {a:List (List Int)} (h:SqB a) {l:Bool} {P:Int→Prop} (hu:∀ e,0≤e→e<(a.length:Int)→IsQ (Zeh a e l) (P e)):IsQ (Zgm a l) (∃ e,(0≤e∧e<(a.length:Int))∧P e):=by
 have n2:=h.n2
 unfold Zgm
 rcases ZaK (B:=Ze1 a l) (fun k=>k) P (i:=0) (n:=(a.length:Int)) (by omega) (fun k g b hp=>by
  have:=(hu k g b).ne hp
  simp (disch:=omega) only [pz,Ze1,this]) with ⟨k,b,c,f,_,j⟩|⟨b,c⟩
 ·have:=(hu k b c).eq f
  rw [j,Zc (r:=true) (by simp (disch:=omega) only [pz,Ze1,this])]
  exact IsQ.t ⟨k,⟨b,c⟩,f⟩
 ·rw [c,Zc (r:=false) (by simp (disch:=omega) only [pz,Ze1])]
  exact IsQ.f fun ⟨e,⟨m,o⟩,he⟩=>b e m o he
theorem ZBS {a:List (List Int)} (h:SqB a):IsQ (Zds a 3) (allI a.length fun x=>allI a.length fun y=>ix (ix a x) y=ix (ix a y) x)∧IsQ (Zds a 7) (allI a.length fun x=>allI a.length fun y=>ix (ix a x) (ix (ix a y) x)=y):=by
 have n1:=h.n1
 have n2:=h.n2
 unfold Zds
 constructor
 ·have inner:∀ x,0≤x→x<(a.length:Int)→∃ c:Bool,loop (Za7 a 3 x) 0=some (bif c then .inl (x+1) else .inr false)∧(c=true↔∀ k,0≤k→k<(a.length:Int)→ix (ix a x) k=ix (ix a k) x):=fun x b e=>by
   have l:=h.row x b e
   refine Zbm (B:=Za7 a 3 x) (P:=fun y=>ix (ix a x) y=ix (ix a y) x) (n:=(a.length:Int)) (by omega) (fun y g i hp=>?_) (fun y g i hp=>?_) (by simp (disch:=omega) only [pz,Za7])
   ·have hy:=h.row y g i
    simp (disch:=omega) only [pz,Za7]
   ·have hy:=h.row y g i
    simp (disch:=omega) only [pz,Za7]
  refine Zc0 (by omega) (fun x b e hp=>?_) (fun x b e hp=>?_) (by simp (disch:=omega) only [pz,Zc3])
  ·obtain ⟨c,f,q2⟩:=inner x b e
   rw [q2.2 hp] at f
   simp (disch:=omega) only [pz,Zc3,f]
  ·obtain ⟨c,f,q2⟩:=inner x b e
   have j:c=false:=by cases c with|false=>rfl|true=>exact absurd (q2.1 rfl) hp
   rw [j] at f
   simp (disch:=omega) only [pz,Zc3,f]
 ·have inner:∀ x,0≤x→x<(a.length:Int)→∃ c:Bool,loop (Za7 a 7 x) 0=some (bif c then .inl (x+1) else .inr false)∧(c=true↔∀ k,0≤k→k<(a.length:Int)→ix (ix a x) (ix (ix a k) x)=k):=fun x b e=>by
   have l:=h.row x b e
   refine Zbm (B:=Za7 a 7 x) (P:=fun y=>ix (ix a x) (ix (ix a y) x)=y) (n:=(a.length:Int)) (by omega) (fun y g i hp=>?_) (fun y g i hp=>?_) (by simp (disch:=omega) only [pz,Za7])
   ·have hy:=h.row y g i
    have he:=h.ent y x g i b e
    simp (disch:=omega) only [pz,Za7]
   ·have hy:=h.row y g i
    have he:=h.ent y x g i b e
    simp (disch:=omega) only [pz,Za7]
  refine Zc0 (by omega) (fun x b e hp=>?_) (fun x b e hp=>?_) (by simp (disch:=omega) only [pz,Zc3])
  ·obtain ⟨c,f,q2⟩:=inner x b e
   rw [q2.2 hp] at f
   simp (disch:=omega) only [pz,Zc3,f]
  ·obtain ⟨c,f,q2⟩:=inner x b e
   have j:c=false:=by cases c with|false=>rfl|true=>exact absurd (q2.1 rfl) hp
   rw [j] at f
   simp (disch:=omega) only [pz,Zc3,f]
theorem ZF1 {a:List (List Int)} (h:SqB a):IsQ (Zij a) (allI a.length fun x=>allI a.length fun y=>allI a.length fun z=>ix (ix a (ix (ix a x) y)) z=ix (ix a x) (ix (ix a y) z)):=by
 have n1:=h.n1
 have n2:=h.n2
 unfold Zij
 have j:∀ x y,0≤x→x<(a.length:Int)→0≤y→y<(a.length:Int)→∃ c:Bool,loop (Zes a x y) 0=some (bif c then .inl (y+1) else .inr (.inr false))∧(c=true↔∀ k,0≤k→k<(a.length:Int)→ix (ix a (ix (ix a x) y)) k=ix (ix a x) (ix (ix a y) k)):=fun x y e f g i=>by
  have p:=h.row x e f
  have hy:=h.row y g i
  have he:=h.ent x y e f g i
  have hr:=h.row _ he.1 he.2
  refine Zbm (B:=Zes a x y) (P:=fun z=>ix (ix a (ix (ix a x) y)) z=ix (ix a x) (ix (ix a y) z)) (n:=(a.length:Int)) (by omega) (fun z m z1 hp=>?_) (fun z m z1 hp=>?_) (by simp (disch:=omega) only [pz,Zes])
  ·have hz:=h.ent y z g i m z1
   simp (disch:=omega) only [pz,Zes]
  ·have hz:=h.ent y z g i m z1
   simp (disch:=omega) only [pz,Zes]
 have l:∀ x,0≤x→x<(a.length:Int)→∃ c:Bool,loop (Zer a x) 0=some (bif c then .inl (x+1) else .inr false)∧(c=true↔∀ y,0≤y→y<(a.length:Int)→∀ k,0≤k→k<(a.length:Int)→ix (ix a (ix (ix a x) y)) k=ix (ix a x) (ix (ix a y) k)):=fun x e f=>by
  refine Zbm (B:=Zer a x) (n:=(a.length:Int)) (by omega) (fun y g i hp=>?_) (fun y g i hp=>?_) (by simp (disch:=omega) only [pz,Zer])
  ·obtain ⟨c,b,q2⟩:=j x y e f g i
   rw [q2.2 hp] at b
   simp (disch:=omega) only [pz,Zer,b]
  ·obtain ⟨c,b,q2⟩:=j x y e f g i
   have o:c=false:=by cases c with|false=>rfl|true=>exact absurd (q2.1 rfl) hp
   rw [o] at b
   simp (disch:=omega) only [pz,Zer,b]
 refine Zc0 (by omega) (fun x e f hp=>?_) (fun x e f hp=>?_) (by simp (disch:=omega) only [pz,ZhL])
 ·obtain ⟨c,b,q2⟩:=l x e f
  rw [q2.2 hp] at b
  simp (disch:=omega) only [pz,ZhL,b]
 ·obtain ⟨c,b,q2⟩:=l x e f
  have o:c=false:=by cases c with|false=>rfl|true=>exact absurd (q2.1 rfl) hp
  rw [o] at b
  simp (disch:=omega) only [pz,ZhL,b]
theorem ZEs {a:List (List Int)} (h:SqB a) {k:Int} (k1:1≤k) (i:k≤8):IsQ (Zil a k) (Idn a k):=by
 obtain ⟨f,g⟩:=ZBS h
 unfold Zil ZjG
 have hk:k=1∨k=2∨k=3∨k=4∨k=5∨k=6∨k=7∨k=8:=by omega
 rcases hk with rfl|rfl|rfl|rfl|rfl|rfl|rfl|rfl
 ·have:=ZrM h (k:=1) (.inl rfl)
  simp (disch:=omega) only [pz];exact this.bind_id
 ·have:=ZrM h (k:=2) (.inr rfl)
  simp (disch:=omega) only [pz];exact this.bind_id
 ·simp (disch:=omega) only [pz];exact f.bind_id
 ·have:=Zrn h (l:=true) fun e b c=>(Zsb h b c).1
  simp (disch:=omega) only [pz];exact this.bind_id
 ·have:=Zrn h (l:=false) fun e b c=>(Zsb h b c).2
  simp (disch:=omega) only [pz];exact this.bind_id
 ·have:=ZF1 h
  simp (disch:=omega) only [pz];exact this.bind_id
 ·simp (disch:=omega) only [pz];exact g.bind_id
 ·simp (disch:=omega) only [pz];exact f.bind_and fun _=>g.bind_id
theorem Zy0 {a:List (List Int)} (h:SqB a):IsQ ((Zid a).bind fun r=>some (decide (r≥0))) (∃ e,(0≤e∧e<(a.length:Int))∧allI a.length fun x=>ix (ix a e) x=x):=by
 have n2:=h.n2
 have hid:=ZuE (n:=(a.length:Int)) (by omega) (by omega)
 have o:=ZpX (xs:=a) (B:=ZaG a (fun c=>ZbT c a)) (f:=fun c=>ZbT c a) (q:=fun r=>r=idP a.length) (by unfold M63;omega) (fun r hr=>by
  have he:=ZtK (a:=r) (b:=idP a.length) (by
   obtain ⟨i,x,y,rfl⟩:=Z0 hr
   have:=h.row i x y
   omega)
  have hsz:ZF a=some (a.length:Int):=rfl
  show IsQ (ZbT r a) _
  unfold ZbT
  rw [hsz,Option.bind_some,hid,Option.bind_some]
  exact he.bind_id) (fun k x g=>by
  have:=Z6 g
  simp (disch:=omega) only [pz,ZaG]
  rw [ZX g]) (by simp (disch:=omega) only [pz,ZaG])
 unfold Zid Zdh
 have e:((loop (ZaG a (fun c=>ZbT c a)) 0).bind fun p=>some p)=loop (ZaG a (fun c=>ZbT c a)) 0:=by
  cases loop (ZaG a (fun c=>ZbT c a)) 0<;>rfl
 rw [e]
 refine o.congr ⟨fun ⟨r,hr,he⟩=>?_,fun ⟨e,⟨j,l⟩,he⟩=>⟨ix a e,ZP j l,?_⟩⟩
 ·obtain ⟨i,x,y,rfl⟩:=Z0 hr
  exact ⟨i,⟨x,y⟩,fun k s k1=>by rw [he];exact Zq s k1⟩
 ·have hr:=h.row e j l
  refine Za1 (by unfold idP;rw [Zk];omega) fun i m t=>?_
  unfold idP
  rw [Zq m (by omega)]
  exact he i m (by omega)
theorem ZES {a:List (List Int)} (h:SqB a):IsQ ((Zhh a).bind fun r=>some (decide (r≥0))) (∃ e,(0≤e∧e<(a.length:Int))∧allI a.length fun x=>ix (ix a x) e=x):=by
 have n2:=h.n2
 have hu:∀ e,0≤e→e<(a.length:Int)→IsQ (ZaT a (fun m=>Zha m a e)) (allI a.length fun x=>ix (ix a x) e=x):=fun e g j=>Zf0 (by omega) fun x f b=>by
  have:=h.row x f b
  unfold Zha
  simp (disch:=omega) only [pz]
  exact Ze3 _ _
 unfold Zhh
 rcases ZaK (B:=ZgE a) (fun k=>k) (fun e=>allI a.length fun x=>ix (ix a x) e=x) (i:=0) (n:=(a.length:Int)) (by omega) (fun k f b hp=>by
  have:=(hu k f b).ne hp
  simp (disch:=omega) only [pz,ZgE,this]) with ⟨k,b,c,l,_,o⟩|⟨b,c⟩
 ·have:=(hu k b c).eq l
  rw [o,Zc (r:=k) (by simp (disch:=omega) only [pz,ZgE,this]),Option.bind_some,decide_eq_true (show k≥0 by omega)]
  exact IsQ.t ⟨k,⟨b,c⟩,l⟩
 ·rw [c,Zc (r:=-1) (by simp (disch:=omega) only [pz,ZgE])]
  exact IsQ.f fun ⟨e,⟨g,j⟩,he⟩=>b e g j he
theorem ZCQ {a:List (List Int)} (h:SqB a):IsQ (ZgH a) (allI a.length fun x=>allI a.length fun y=>allI a.length fun z=>ix (ix a (ix (ix a x) y)) z=ix (ix a x) (ix (ix a y) z)):=by
 have n2:=h.n2
 unfold ZgH
 refine (Zpj (by omega) fun x y e f b c=>?_).bind_id
 have i:=h.row x e f
 have hy:=h.row y b c
 have he:=h.ent x y e f b c
 have hr:=h.row _ he.1 he.2
 unfold Zlf
 refine (Zf0 (by omega) fun z g z1=>?_).bind_id
 have hz:=h.ent y z b c g z1
 unfold Zlm
 simp (disch:=omega) only [pz]
 exact Ze3 _ _
theorem Zzo {a:List (List Int)} (h:SqB a):IsQ (Zcp a (fun b c=>Zhu b c a)) (allI a.length fun x=>allI a.length fun y=>ix (ix a x) y=ix (ix a y) x):=by
 have n2:=h.n2
 refine Zpj (by omega) fun x y e f g i=>?_
 have j:=h.row x e f
 have hy:=h.row y g i
 unfold Zhu
 simp (disch:=omega) only [pz]
 exact Ze3 _ _
theorem Zvq {a:List (List Int)} (h:SqB a):IsQ (Zcp a (fun g i=>Zhi g i a)) (allI a.length fun x=>allI a.length fun y=>ix (ix a x) (ix (ix a y) x)=y):=by
 have n2:=h.n2
 refine Zpj (by omega) fun x y b c e f=>?_
 have j:=h.row x b c
 have hy:=h.row y e f
 have he:=h.ent y x e f b c
 unfold Zhi
 simp (disch:=omega) only [pz]
 exact Ze3 _ _
theorem sat_q {a:List (List Int)} (h:SqB a) {rf:List (List Int)→Int→Option Bool} {k:Int} (k1:1≤k) (i:k≤8) (hrf:k=8→IsQ (rf a 3) (Idn a 3)∧IsQ (rf a 7) (Idn a 7)):IsQ (q_impl_satisfies rf a k) (Idn a k):=by
 have n1:=h.n1
 have n2:=h.n2
 have hz:=h.row 0 (by omega) (by omega)
 unfold q_impl_satisfies
 have hk:k=1∨k=2∨k=3∨k=4∨k=5∨k=6∨k=7∨k=8:=by omega
 rcases hk with rfl|rfl|rfl|rfl|rfl|rfl|rfl|rfl
 ·have:IsQ (ZaT a (fun b=>ZjE b a)) (allI a.length fun x=>ix (ix a x) x=x):=Zf0 (by omega) fun x c e=>by
   have:=h.row x c e
   unfold ZjE
   simp (disch:=omega) only [pz]
   exact Ze3 _ _
  simp (disch:=omega) only [pz];exact this.bind_id
 ·have:IsQ (ZaT a (fun b=>Zjo b a)) (allI a.length fun x=>ix (ix a x) x=ix (ix a 0) 0):=Zf0 (by omega) fun x c e=>by
   have:=h.row x c e
   unfold Zjo
   simp (disch:=omega) only [pz]
   exact Ze3 _ _
  simp (disch:=omega) only [pz];exact this.bind_id
 ·have:=Zzo h
  simp (disch:=omega) only [pz];exact this.bind_id
 ·have:=Zy0 h
  simp (disch:=omega) only [pz];exact this
 ·have:=ZES h
  simp (disch:=omega) only [pz];exact this
 ·have:=ZCQ h
  simp (disch:=omega) only [pz];exact this.bind_id
 ·have:=Zvq h
  simp (disch:=omega) only [pz];exact this.bind_id
 ·obtain ⟨f,g⟩:=hrf rfl
  simp (disch:=omega) only [pz];exact f.bind_and fun _=>g.bind_id
theorem ZCt {a:List (List Int)} (h:SqB a) {k:Int} (k1:1≤k) (b:k≤8):IsQ (ZlC a k) (Idn a k):=by
 have step:∀ n,∀ k,1≤k→k≤7→IsQ (pn_impl_satisfies (n+1) a k) (Idn a k):=fun n k c g=>sat_q h c (by omega) fun e=>by omega
 have hf:∃ n,fuel=n+2:=⟨fuel-2,rfl⟩
 obtain ⟨n,f⟩:=hf
 unfold ZlC
 rw [f]
 exact sat_q h k1 b fun _=>⟨step n 3 (by omega) (by omega),step n 7 (by omega) (by omega)⟩
end Go.Proofs.YtghbgeaammnkcaaGreatDoor
namespace Go.Proofs.YtghbgeaammnkcaaGreatDoor
set_option linter.unusedVariables false
open Go Go.Vc
set_option linter.unusedSimpArgs false
noncomputable def kndG (a:List (List Int)) (k:Int):List Int:=@ite _ (Idn a k) (Classical.propDecidable _) [k] []
theorem Zny (a:List (List Int)) (k:Int):(kndG a k).length≤1:=by unfold kndG;split<;>simp
noncomputable def knds (a:List (List Int)):List Int:=colG (kndG a) 1 8
theorem ZyW (a:List (List Int)):(knds a).length≤8:=by
 have:=Za8 (g:=kndG a) (lo:=1) (M:=1) (n:=8) fun k _ _=>Zny a k
 exact this
theorem Zzz {a:List (List Int)} {k:Int} (h:k∈knds a):1≤k∧k≤8:=by
 obtain ⟨j,b,c,hj⟩:=Zlu h
 unfold kndG at hj
 split at hj
 ·have:=List.mem_singleton.1 hj
  omega
 ·cases hj
theorem ZCm {a:List (List Int)} (h:ValidSq a) (hs:Sz2 a):ZjN a=some (knds a,0):=by
 unfold ZjN
 have c:=(Zly hs).eq h
 have e:=ZaH (B:=Zb0 a) (kndG a) 1 8 (lo:=1) (hi:=9) (by omega) (fun k _ _=>Zny a k) [] (by simp) fun out k f k1 ho i=>by
  have b:=ZEs (ZoM h) f (show k≤8 by omega)
  by_cases hi:Idn a k
  ·have e:=b.eq hi
   have eg:kndG a k=[k]:=by unfold kndG;rw [if_pos hi]
   rw [eg]
   simp (disch:=omega) only [pz,Zb0,e]
  ·have e:=b.ne hi
   have eg:kndG a k=[]:=by unfold kndG;rw [if_neg hi]
   rw [eg,List.append_nil]
   simp (disch:=omega) only [pz,Zb0,e]
 have g:loop (Zb0 a) (([]:List Int),1)=some (knds a,0):=e.trans (Zc (by
  show Zb0 a (knds a,9)=_
  simp (disch:=omega) only [pz,Zb0]))
 simp (disch:=omega) only [pz,c,g]
theorem ZC3 {a:List (List Int)} (h:ValidSq a) (hs:Sz2 a):ZhC a=some (knds a,0):=by
 unfold ZhC
 have c:=(Zun hs).eq h
 have e:=ZaH (B:=Zch a) (kndG a) 1 8 (lo:=1) (hi:=9) (by omega) (fun k _ _=>Zny a k) [] (by simp) fun out k f k1 ho i=>by
  have b:=ZCt (ZoM h) f (show k≤8 by omega)
  by_cases hi:Idn a k
  ·have e:=b.eq hi
   have eg:kndG a k=[k]:=by unfold kndG;rw [if_pos hi]
   rw [eg]
   simp (disch:=omega) only [pz,Zch,e]
  ·have e:=b.ne hi
   have eg:kndG a k=[]:=by unfold kndG;rw [if_neg hi]
   rw [eg,List.append_nil]
   simp (disch:=omega) only [pz,Zch,e]
 have g:loop (Zch a) (([]:List Int),1)=some (knds a,0):=e.trans (Zc (by
  show Zch a (knds a,9)=_
  simp (disch:=omega) only [pz,Zch]))
 simp (disch:=omega) only [pz,c,g]
theorem idName {k:Int} (k1:1≤k) (e:k≤8):∃ s,ZdH k=some s∧Zfc k=some s:=by
 have b:ZR k 1 8=some true:=by simp (disch:=omega) only [pz,ZR]
 have c:Z2 k 1 8=some true:=by simp (disch:=omega) only [pz,Z2]
 unfold ZdH Zfc
 have hk:k=1∨k=2∨k=3∨k=4∨k=5∨k=6∨k=7∨k=8:=by omega
 rcases hk with rfl|rfl|rfl|rfl|rfl|rfl|rfl|rfl<;>exact ⟨_,by rw [b];rfl,by rw [c];rfl⟩
noncomputable def idN (k:Int):ByteArray:=(ZdH k).getD ⟨#[]⟩
theorem Ztl {k:Int} (k1:1≤k) (b:k≤8):ZdH k=some (idN k)∧Zfc k=some (idN k):=by
 obtain ⟨s,c,e⟩:=idName k1 b
 unfold idN
 rw [c,e]
 exact ⟨rfl,rfl⟩
def icG (a:List (List Int)) (r s c d:Int):List (List Int):=if ix (ix a r) c=ix (ix a s) d∧ix (ix a r) d=ix (ix a s) c then [[r,s,c,d]] else []
theorem ZmE (a:List (List Int)) (r s c d:Int):(icG a r s c d).length≤1:=by unfold icG;split<;>simp
def ic3 (a:List (List Int)) (r s c:Int):List (List Int):=colG (icG a r s c) (c+1) ((a.length:Int)-(c+1)).toNat
def ic2 (a:List (List Int)) (r s:Int):List (List Int):=colG (ic3 a r s) 0 ((a.length:Int)-0).toNat
def ic1 (a:List (List Int)) (r:Int):List (List Int):=colG (ic2 a r) (r+1) ((a.length:Int)-(r+1)).toNat
def ics (a:List (List Int)):List (List Int):=colG (ic1 a) 0 ((a.length:Int)-0).toNat
section
variable {a:List (List Int)} (h:SqB a)
include h
theorem ZoG (r s:Int) {c:Int} (b:0≤c):(ic3 a r s c).length≤10:=by
 have:=Za8 (g:=icG a r s c) (lo:=c+1) (M:=1) (n:=((a.length:Int)-(c+1)).toNat) fun k _ _=>ZmE a r s c k
 have:=h.n2
 unfold ic3
 omega
theorem ZoS (r s:Int):(ic2 a r s).length≤100:=by
 have:=Za8 (g:=ic3 a r s) (lo:=0) (M:=10) (n:=((a.length:Int)-0).toNat) fun k b _=>ZoG h r s b
 have:=h.n2
 unfold ic2
 omega
theorem ZnF {r:Int} (b:0≤r):(ic1 a r).length≤1000:=by
 have:=Za8 (g:=ic2 a r) (lo:=r+1) (M:=100) (n:=((a.length:Int)-(r+1)).toNat) fun k _ _=>ZoS h r k
 have:=h.n2
 unfold ic1
 omega
theorem ZxG:(ics a).length≤10000:=by
 have:=Za8 (g:=ic1 a) (lo:=0) (M:=1000) (n:=((a.length:Int)-0).toNat) fun k b _=>ZnF h b
 have:=h.n2
 unfold ics
 omega
theorem Zu7 {r s c d:Int} (b:0≤r) (rs:r<s) (s1:s<(a.length:Int)) (f:0≤c) (cd:c<d) (g:d<(a.length:Int)):ZiQ a [r,s,c,d]=some (decide (ix (ix a r) c=ix (ix a s) d∧ix (ix a r) d=ix (ix a s) c)):=by
 have n2:=h.n2
 have hr:=h.row r b (by omega)
 have hs:=h.row s (by omega) s1
 have i:gSl [r,s,c,d] 0 2=some [r,s]:=rfl
 have j:gSl [r,s,c,d] 2 (([r,s,c,d]:List Int).length:Int)=some [c,d]:=rfl
 have up:∀ {x y:Int},0≤x→x<y→y<(a.length:Int)→ZcE [x,y] 0 ((a.length:Int)-1)=some true:=fun {x y} l xy y1=>(ZsR (by show (2:Int)≤_;omega)).eq fun k k0 k1=>by
  have k1:k<2:=k1
  have hk:k=0∨k=1:=by omega
  rcases hk with rfl|rfl
  ·exact ⟨⟨l,by show x≤_;omega⟩,fun h=>by omega⟩
  ·exact ⟨⟨by show 0≤y;omega,by show y≤_;omega⟩,fun _=>xy⟩
 have m:=up b rs s1
 have o:=up f cd g
 have p:(([r,s,c,d]:List Int).length:Int)=4:=rfl
 have t:gIdx [r,s,c,d] 0=some r:=rfl
 have u:gIdx [r,s,c,d] 1=some s:=rfl
 have v:gIdx [r,s,c,d] 2=some c:=rfl
 have w:gIdx [r,s,c,d] 3=some d:=rfl
 have k1:ZjC a [r,s,c,d]=some (decide (ix (ix a r) c=ix (ix a s) d∧ix (ix a r) d=ix (ix a s) c)):=by
  unfold ZjC
  rw [t,u,v,w]
  by_cases e:ix (ix a r) c=ix (ix a s) d
  ·simp (disch:=omega) only [pz]
   by_cases e':ix (ix a r) d=ix (ix a s) c
   ·simp [e,e']
   ·simp [e,e']
  ·simp (disch:=omega) only [pz]
 unfold ZiQ
 rw [j]
 simp (disch:=omega) only [pz,p,i,m,o,k1]
theorem ZDT (m:ValidSq a) (hs:Sz2 a):Zi4 a=some (ics a,0):=by
 have n1:=h.n1
 have n2:=h.n2
 have hok:=(Zly hs).eq m
 have o:∀ (out:List (List Int)) r s c,0≤r→r<s→s<(a.length:Int)→0≤c→c<(a.length:Int)→out.length≤12000→loop (Zcy a r s c) (out,c+1)=some (.inl (out++ic3 a r s c,c+1)):=fun out r s c b rs s1 i c1 ho=>by
  refine Eq.trans (ZaH (B:=Zcy a r s c) (icG a r s c) 1 20000 (lo:=c+1) (hi:=(a.length:Int)) (by omega) (fun k _ _=>ZmE a r s c k) out (by omega) fun out d w p ho f=>?_) (Zc ?_)
  ·have g:=Zu7 h b rs s1 i (show c<d by omega) p
   by_cases e:ix (ix a r) c=ix (ix a s) d∧ix (ix a r) d=ix (ix a s) c
   ·rw [decide_eq_true e] at g
    have eg:icG a r s c d=[[r,s,c,d]]:=if_pos e
    rw [eg]
    simp (disch:=omega) only [pz,Zcy,g]
   ·rw [decide_eq_false e] at g
    have eg:icG a r s c d=[]:=if_neg e
    rw [eg,List.append_nil]
    simp (disch:=omega) only [pz,Zcy,g]
  ·show Zcy a r s c (out++ic3 a r s c,_)=_
   simp (disch:=omega) only [pz,Zcy]
 have t:∀ (out:List (List Int)) r s,0≤r→r<s→s<(a.length:Int)→out.length≤11000→loop (Zdc a r s) (out,0)=some (.inl (out++ic2 a r s,s+1)):=fun out r s b rs s1 ho=>by
  refine Eq.trans (ZaH (B:=Zdc a r s) (ic3 a r s) 10 12000 (lo:=0) (hi:=(a.length:Int)) (by omega) (fun k j _=>ZoG h r s j) out (by omega) fun out c i c1 ho f=>?_) (Zc ?_)
  ·have:=o out r s c b rs s1 i c1 ho
   simp (disch:=omega) only [pz,Zdc,this]
  ·show Zdc a r s (out++ic2 a r s,_)=_
   simp (disch:=omega) only [pz,Zdc]
 have u:∀ (out:List (List Int)) r,0≤r→r<(a.length:Int)→out.length≤10000→loop (Zdn a r) (out,r+1)=some (.inl (out++ic1 a r,r+1)):=fun out r b l ho=>by
  refine Eq.trans (ZaH (B:=Zdn a r) (ic2 a r) 100 11000 (lo:=r+1) (hi:=(a.length:Int)) (by omega) (fun k _ _=>ZoS h r k) out (by omega) fun out s x s1 ho f=>?_) (Zc ?_)
  ·have:=t out r s b (by omega) s1 ho
   simp (disch:=omega) only [pz,Zdn,this]
  ·show Zdn a r (out++ic1 a r,_)=_
   simp (disch:=omega) only [pz,Zdn]
 have v:loop (ZcM a) ([],0)=some (ics a,0):=by
  refine Eq.trans (ZaH (B:=ZcM a) (ic1 a) 1000 10000 (lo:=0) (hi:=(a.length:Int)) (by omega) (fun k j _=>ZnF h j) [] (by rw [List.length_nil];omega) fun out r b l ho f=>?_) (Zc ?_)
  ·have:=u out r b l ho
   simp (disch:=omega) only [pz,ZcM,this]
  ·show ZcM a (ics a,_)=_
   simp (disch:=omega) only [pz,ZcM]
 unfold Zi4
 simp (disch:=omega) only [pz,hok,v]
theorem Zyp:Zhj a=some (ics a):=by
 have n1:=h.n1
 have n2:=h.n2
 have l:∀ (out:List (List Int)) r s c,0≤r→r<s→s<(a.length:Int)→0≤c→c<(a.length:Int)→out.length≤12000→loop (ZbO a a.length r s c) (out,c+1)=some (.inl (out++ic3 a r s c,c+1)):=fun out r s c b rs s1 i c1 ho=>by
  have hr:=h.row r b (by omega)
  have hs:=h.row s (by omega) s1
  refine Eq.trans (ZaH (B:=ZbO a a.length r s c) (icG a r s c) 1 20000 (lo:=c+1) (hi:=(a.length:Int)) (by omega) (fun k _ _=>ZmE a r s c k) out (by omega) fun out d t u ho f=>?_) (Zc ?_)
  ·by_cases e:ix (ix a r) c=ix (ix a s) d
   ·by_cases e':ix (ix a r) d=ix (ix a s) c
    ·have eg:icG a r s c d=[[r,s,c,d]]:=if_pos ⟨e,e'⟩
     rw [eg]
     simp (disch:=omega) only [pz,ZbO,Zea]
    ·have eg:icG a r s c d=[]:=if_neg fun x=>e' x.2
     rw [eg,List.append_nil]
     simp (disch:=omega) only [pz,ZbO,Zea]
   ·have eg:icG a r s c d=[]:=if_neg fun x=>e x.1
    rw [eg,List.append_nil]
    simp (disch:=omega) only [pz,ZbO,Zea]
  ·show ZbO a a.length r s c (out++ic3 a r s c,_)=_
   simp (disch:=omega) only [pz,ZbO]
 have m:∀ (out:List (List Int)) r s,0≤r→r<s→s<(a.length:Int)→out.length≤11000→loop (ZcO a a.length r s) (out,0)=some (.inl (out++ic2 a r s,s+1)):=fun out r s b rs s1 ho=>by
  refine Eq.trans (ZaH (B:=ZcO a a.length r s) (ic3 a r s) 10 12000 (lo:=0) (hi:=(a.length:Int)) (by omega) (fun k g _=>ZoG h r s g) out (by omega) fun out c i c1 ho f=>?_) (Zc ?_)
  ·have:=l out r s c b rs s1 i c1 ho
   simp (disch:=omega) only [pz,ZcO,this]
  ·show ZcO a a.length r s (out++ic2 a r s,_)=_
   simp (disch:=omega) only [pz,ZcO]
 have o:∀ (out:List (List Int)) r,0≤r→r<(a.length:Int)→out.length≤10000→loop (Zc4 a a.length r) (out,r+1)=some (.inl (out++ic1 a r,r+1)):=fun out r b j ho=>by
  refine Eq.trans (ZaH (B:=Zc4 a a.length r) (ic2 a r) 100 11000 (lo:=r+1) (hi:=(a.length:Int)) (by omega) (fun k _ _=>ZoS h r k) out (by omega) fun out s v s1 ho f=>?_) (Zc ?_)
  ·have:=m out r s b (by omega) s1 ho
   simp (disch:=omega) only [pz,Zc4,this]
  ·show Zc4 a a.length r (out++ic1 a r,_)=_
   simp (disch:=omega) only [pz,Zc4]
 have p:loop (ZcX a a.length) ([],0)=some (ics a):=by
  refine Eq.trans (ZaH (B:=ZcX a a.length) (ic1 a) 1000 10000 (lo:=0) (hi:=(a.length:Int)) (by omega) (fun k g _=>ZnF h g) [] (by rw [List.length_nil];omega) fun out r b j ho f=>?_) (Zc ?_)
  ·have:=o out r b j ho
   simp (disch:=omega) only [pz,ZcX,this]
  ·show ZcX a a.length (ics a,_)=_
   simp (disch:=omega) only [pz,ZcX]
 unfold Zhj ZF
 simp (disch:=omega) only [pz,p]
end
theorem sqFacts {o:Zl} (e:ValidSq o.Rows) (hs:Sz2 o.Rows) (hl:(o.Rows.length:Int)=o.Size):∃ r,Zhd o.Rows=some r∧ZhP o=some r∧r.length≤100:=by
 have c:=ZoM e
 have n1:=c.n1
 have n2:=c.n2
 have f:=ZDT c e hs
 have i:=Zyp c
 have hil:=ZxG c
 have j:=ZCm e hs
 have l:=ZC3 e hs
 have hkl:=ZyW o.Rows
 have hkm:∀ k,0≤k→k<((knds o.Rows).length:Int)→1≤ix (knds o.Rows) k∧ix (knds o.Rows) k≤8:=fun k b k1=>Zzz (ZP b k1)
 generalize ics o.Rows=I at f i hil
 generalize knds o.Rows=K at j l hkl hkm
 have u:=ZlM (n:=(o.Rows.length:Int)) (by omega) (by omega)
 have v:=ZlM (n:=(I.length:Int)) (by omega) (by omega)
 have x:=Zqx (w:=⟨#[111,114,100,101,114,32]⟩) (n:=(o.Rows.length:Int)) (by decide) (by omega) (by omega)
 have y:=Zqx (w:=⟨#[105,110,116,101,114,99,97,108,97,116,101,115,32]⟩) (n:=(I.length:Int)) (by decide) (by omega) (by omega)
 have c1:=ZpI (w:=⟨#[111,114,100,101,114]⟩) (n:=(o.Rows.length:Int)) (by decide) (by omega) (by omega)
 have c2:=ZpI (w:=⟨#[105,110,116,101,114,99,97,108,97,116,101,115]⟩) (n:=(I.length:Int)) (by decide) (by omega) (by omega)
 have x1:(⟨#[111,114,100,101,114,32]⟩:ByteArray)++itoaB (o.Rows.length:Int)=fctW ⟨#[111,114,100,101,114]⟩ (o.Rows.length:Int):=rfl
 have x2:(⟨#[105,110,116,101,114,99,97,108,97,116,101,115,32]⟩:ByteArray)++itoaB (I.length:Int)=fctW ⟨#[105,110,116,101,114,99,97,108,97,116,101,115]⟩ (I.length:Int):=rfl
 have p:=ZaH (B:=Zez o.Rows (K,0)) (fun k=>[idN (ix K k)]) 1 20 (lo:=0) (hi:=(K.length:Int)) (by omega) (fun k _ _=>Nat.le_refl _) [fctW ⟨#[111,114,100,101,114]⟩ (o.Rows.length:Int)] (by rw [List.length_singleton];omega) fun out k b k1 ho s=>by
  have:=(Ztl (hkm k b k1).1 (hkm k b k1).2).1
  have hg:=gAppS (xs:=out) (ys:=[idN (ix K k)]) (by omega)
  simp (disch:=omega) only [pz,Zez,this,hg]
 have t:=ZaH (B:=Zd2 o (K,0)) (fun k=>[idN (ix K k)]) 1 20 (lo:=0) (hi:=(K.length:Int)) (by omega) (fun k _ _=>Nat.le_refl _) [fctW ⟨#[111,114,100,101,114]⟩ (o.Rows.length:Int)] (by rw [List.length_singleton];omega) fun out k b k1 ho s=>by
  have:=(Ztl (hkm k b k1).1 (hkm k b k1).2).2
  have hg:=gAppS (xs:=out) (ys:=[idN (ix K k)]) (by omega)
  simp (disch:=omega) only [pz,Zd2,this,hg]
 have hcl:=Za8 (g:=fun k=>[idN (ix K k)]) (lo:=0) (M:=1) (n:=((K.length:Int)-0).toNat) fun k _ _=>Nat.le_refl _
 generalize hL:[fctW ⟨#[111,114,100,101,114]⟩ (o.Rows.length:Int)]++colG (fun k=>[idN (ix K k)]) 0 ((K.length:Int)-0).toNat=L at p t
 have hLl:L.length≤20:=by rw [←hL,List.length_append,List.length_singleton];omega
 have hg:=gAppS (xs:=L) (ys:=[fctW ⟨#[105,110,116,101,114,99,97,108,97,116,101,115]⟩ (I.length:Int)]) (by rw [List.length_append,List.length_singleton];omega)
 refine ⟨L++[fctW ⟨#[105,110,116,101,114,99,97,108,97,116,101,115]⟩ (I.length:Int)],?_,?_,by rw [List.length_append,List.length_singleton];omega⟩
 ·have m:loop (Zez o.Rows (K,0)) ([fctW ⟨#[111,114,100,101,114]⟩ (o.Rows.length:Int)],0)=some (L++[fctW ⟨#[105,110,116,101,114,99,97,108,97,116,101,115]⟩ (I.length:Int)]):=p.trans (Zc (by simp (disch:=omega) only [pz,Zez,f,v,y,x2,hg]))
  unfold Zhd
  simp (disch:=omega) only [pz,u,x,j,x1,m]
 ·have m:loop (Zd2 o (K,0)) ([fctW ⟨#[111,114,100,101,114]⟩ (o.Rows.length:Int)],0)=some (L++[fctW ⟨#[105,110,116,101,114,99,97,108,97,116,101,115]⟩ (I.length:Int)]):=t.trans (Zc (by simp (disch:=omega) only [pz,Zd2,i,ZF,c2,hg]))
  unfold ZhP
  rw [←hl]
  simp (disch:=omega) only [pz,c1,l,m]
end Go.Proofs.YtghbgeaammnkcaaGreatDoor
namespace Go.Proofs.YtghbgeaammnkcaaGreatDoor
set_option linter.unusedVariables false
open Go Go.Vc
set_option linter.unusedSimpArgs false
def sm (f:Int→Int):Nat→Int
 | 0=>0
 | n+1=>sm f n+f (n:Int)
theorem ZmA {f:Int→Int} {M:Int}:∀ {n:Nat},(∀ k,0≤k→k<(n:Int)→-M≤f k∧f k≤M)→-(M*n)≤sm f n∧sm f n≤M*n
 | 0,_=>by simp [sm]
 | n+1,h=>by
  have ih:=ZmA (n:=n) fun k a b=>h k a (by omega)
  have:=h (n:Int) (by omega) (by omega)
  have e:M*((n+1:Nat):Int)=M*n+M:=by rw [Int.natCast_add,Int.mul_add];simp
  rw [sm,e]
  omega
theorem ZlS {f:Int→Int} {k:Int} (h:0≤k):sm f (k+1).toNat=sm f k.toNat+f k:=by
 rw [show (k+1).toNat=k.toNat+1 by omega,sm,show ((k.toNat:Nat):Int)=k by omega]
def exc (h:List (List Int)):Int:=sm (fun i=>sm (fun k=>ix (ix h i) k) h.length) h.length
theorem ZEG {h:List (List Int)} (j:ValidHd h) (hs:Sz2 h):ZjA h=some (exc h,0)∧Zhx h=some (exc h,0)∧-1024≤exc h∧exc h≤1024:=by
 have n1:=j.n1
 have n2:=j.n2
 have hent:∀ i,0≤i→i<(h.length:Int)→∀ k,0≤k→k<(h.length:Int)→-1≤ix (ix h i) k∧ix (ix h i) k≤1:=fun i c g k b k1=>by
  have hr:=j.row i c g
  have:=hr.2 k b (by omega)
  omega
 have hin:∀ i,0≤i→i<(h.length:Int)→∀ m:Nat,m≤h.length→-32≤sm (fun k=>ix (ix h i) k) m∧sm (fun k=>ix (ix h i) k) m≤32:=fun i c g m hm=>by
  have:=ZmA (M:=1) (n:=m) (f:=fun k=>ix (ix h i) k) fun k b k1=>hent i c g k b (by omega)
  omega
 have hout:∀ m:Nat,m≤h.length→-1024≤sm (fun i=>sm (fun k=>ix (ix h i) k) h.length) m∧sm (fun i=>sm (fun k=>ix (ix h i) k) h.length) m≤1024:=fun m hm=>by
  have:=ZmA (M:=32) (n:=m) (f:=fun i=>sm (fun k=>ix (ix h i) k) h.length) fun k b k1=>hin k b (by omega) _ (Nat.le_refl _)
  omega
 have s1:=(Zoe hs).eq j
 have s2:=(Zsh hs).eq j
 refine ⟨?_,?_,hout _ (Nat.le_refl _)⟩
 ·have inner:∀ s i,0≤i→i<(h.length:Int)→-2000≤s→s≤2000→loop (ZgC h i) (s,0)=some (.inl (s+sm (fun k=>ix (ix h i) k) h.length,i+1)):=fun s i c g p r=>by
   have hr:=(j.row i c g).1
   have e:=Zj (B:=ZgC h i) (fun k:Int=>(s+sm (fun k=>ix (ix h i) k) k.toNat,k)) (i:=0) (n:=(h.length:Int)) (by omega) fun k b k1=>by
    have:=hin i c g k.toNat (by omega)
    have:=hent i c g k b k1
    rw [ZlS b,←Int.add_assoc]
    simp (disch:=omega) only [pz,ZgC]
   have l:(s+sm (fun k=>ix (ix h i) k) (0:Int).toNat,(0:Int))=(s,0):=by simp [sm]
   rw [l,Int.toNat_natCast] at e
   exact e.trans (Zc (by simp (disch:=omega) only [pz,ZgC]))
  have e:=Zj (B:=ZeN h) (fun k:Int=>(sm (fun i=>sm (fun k=>ix (ix h i) k) h.length) k.toNat,k)) (i:=0) (n:=(h.length:Int)) (by omega) fun k b k1=>by
   have t:=hout k.toNat (by omega)
   have:=inner _ k b k1 (by omega:-2000≤sm (fun i=>sm (fun k=>ix (ix h i) k) h.length) k.toNat) (by omega)
   rw [ZlS b]
   simp (disch:=omega) only [pz,ZeN,this]
  have o:loop (ZeN h) (0,0)=some (exc h,0):=e.trans (Zc (by rw [Int.toNat_natCast];show ZeN h (exc h,_)=_;simp (disch:=omega) only [pz,ZeN]))
  unfold ZjA
  simp (disch:=omega) only [pz,s1,o]
 ·have inner:∀ s i,0≤i→i<(h.length:Int)→-2000≤s→s≤2000→loop (ZfU i (ix h i)) (s,0)=some (.inl (s+sm (fun k=>ix (ix h i) k) h.length,i+1)):=fun s i c g p r=>by
   have hr:=(j.row i c g).1
   have e:=Zj (B:=ZfU i (ix h i)) (fun k:Int=>(s+sm (fun k=>ix (ix h i) k) k.toNat,k)) (i:=0) (n:=(h.length:Int)) (by omega) fun k b k1=>by
    have:=hin i c g k.toNat (by omega)
    have:=hent i c g k b k1
    rw [ZlS b,←Int.add_assoc]
    simp (disch:=omega) only [pz,ZfU]
   have l:(s+sm (fun k=>ix (ix h i) k) (0:Int).toNat,(0:Int))=(s,0):=by simp [sm]
   rw [l,Int.toNat_natCast] at e
   exact e.trans (Zc (by simp (disch:=omega) only [pz,ZfU]))
  have e:=Zj (B:=Zdx h) (fun k:Int=>(sm (fun i=>sm (fun k=>ix (ix h i) k) h.length) k.toNat,k)) (i:=0) (n:=(h.length:Int)) (by omega) fun k b k1=>by
   have t:=hout k.toNat (by omega)
   have:=inner _ k b k1 (by omega:-2000≤sm (fun i=>sm (fun k=>ix (ix h i) k) h.length) k.toNat) (by omega)
   rw [ZlS b]
   simp (disch:=omega) only [pz,Zdx,this]
  have o:loop (Zdx h) (0,0)=some (exc h,0):=e.trans (Zc (by rw [Int.toNat_natCast];show Zdx h (exc h,_)=_;simp (disch:=omega) only [pz,Zdx]))
  unfold Zhx
  simp (disch:=omega) only [pz,s2,o]
end Go.Proofs.YtghbgeaammnkcaaGreatDoor
