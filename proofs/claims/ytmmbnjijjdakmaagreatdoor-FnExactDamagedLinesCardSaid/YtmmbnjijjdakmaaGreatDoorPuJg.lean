import Derived.Test.YtmmbnjijjdakmaaGreatDoorPuJf
import Derived.Test.YtmmbnjijjdakmaaGreatDoorPuJc
import Derived.Test.YtmmbnjijjdakmaaGreatDoorPuJb
import Derived.Test.YtmmbnjijjdakmaaGreatDoorPuJa
namespace Go.Proofs.YtmmbnjijjdakmaaGreatDoor
open Go Go.Vc
set_option linter.unusedSimpArgs false
set_option linter.unusedVariables false
structure VMat (q:Int) (m:List (List Int)):Prop where
 n1:1≤(m.length:Int)
 n2:(m.length:Int)≤32
 w1:1≤((ix m 0).length:Int)
 w2:((ix m 0).length:Int)≤32
 row:∀ i,0≤i→i<(m.length:Int)→((ix m i).length:Int)=(ix m 0).length∧In q (ix m i)
theorem VMat.mat {q:Int} {m:List (List Int)} (h:VMat q m):Mat q (ix m 0).length m:=⟨fun i a b=>(h.row i a b).1,fun i a b=>(h.row i a b).2,by have:=h.n2;omega,by have:=h.w2;omega⟩
theorem ZrF {f:Zd} {q:Int} (hs:Zcw f=some q) (hq:2≤q) (hq64:q≤64) {v:List Int} (hv:(v.length:Int)≤1048576):IsQ (Zgm f v) (In q v):=by
 unfold Zgm
 rw [hs]
 obtain ⟨c,q1,q2⟩:=Zdg (B:=ZcZ v q) (P:=fun k=>0≤ix v k∧ix v k≤q-1) (t:=true) (f:=false) (i:=0) (n:=v.length) (by omega)
  (fun k a b c=>by simp (disch:=omega) only [pz,ZcZ,in_ok]) (fun k a b c=>by simp (disch:=omega) only [pz,ZcZ,in_ok]) (by simp (disch:=omega) only [pz,ZcZ])
 refine ⟨c,?_,q2.trans ⟨fun h i a b=>?_,fun h i a b=>?_⟩⟩
 ·show loop (ZcZ v q) 0=some c
  rw [q1];cases c<;>rfl
 ·have:=h i a b;omega
 ·have:=h i a b;omega
theorem ZoD {f:Zd} {q:Int} (hm:Made q f) (hq:2≤q) (hq64:q≤64) {m:List (List Int)} (hs:Sz2 m):IsQ (ZgZ f m) (VMat q m):=by
 have hN:=hs.1
 unfold ZgZ ZiI
 rw [hm.oks]
 by_cases h1:(m.length:Int)=0
 ·simp (disch:=omega) only [pz,];exact IsQ.f fun h=>by have:=h.n1;omega
 ·by_cases h2:(m.length:Int)≤32
  ·by_cases h3:((ix m 0).length:Int)=0
   ·simp (disch:=omega) only [pz,];exact IsQ.f fun h=>by have:=h.w1;omega
   ·by_cases h4:((ix m 0).length:Int)≤32
    ·simp (disch:=omega) only [pz,]
     refine (Zaj (P:=fun i=>((ix m i).length:Int)=(ix m 0).length∧In q (ix m i)) (n:=m.length) (Q:=True) (by omega) ?_ ?_ fun _=>?_).congr ⟨fun g=>⟨by omega,h2,by omega,h4,g.1⟩,fun g=>⟨g.row,trivial⟩⟩
     ·intro i g0 g1 g2
      have q1:=(ZrF hm.szs hq hq64 (hs.row g0 g1)).eq g2.2
      have:=g2.1
      simp (disch:=omega) only [pz,Zd5,q1]
     ·intro i g0 g1 g2
      by_cases hl:((ix m i).length:Int)=(ix m 0).length
      ·have q1:=(ZrF hm.szs hq hq64 (hs.row g0 g1)).ne fun h=>g2 ⟨hl,h⟩
       simp (disch:=omega) only [pz,Zd5,q1]
      ·simp (disch:=omega) only [pz,Zd5]
     ·rw [Zc (r:=true) (by simp (disch:=omega) only [pz,Zd5])];exact IsQ.t trivial
    ·simp (disch:=omega) only [pz,];exact IsQ.f fun h=>h4 h.w2
  ·simp (disch:=omega) only [pz,];exact IsQ.f fun h=>h2 h.n2
theorem ZqI {f:Zd} {q:Int} (hm:Made q f) (hq:2≤q) (hq64:q≤64) {m:List (List Int)} (hs:Sz2 m):IsQ (Zfm f m) (VMat q m):=by
 have hN:=hs.1
 have e:Zd.mk f.Prime f.Degree f.Poly=f:=rfl
 unfold Zfm ZjH
 rw [e,hm.oki]
 by_cases h1:(m.length:Int)=0
 ·simp (disch:=omega) only [pz,Z0,ZP];exact IsQ.f fun h=>by have:=h.n1;omega
 ·by_cases h2:(m.length:Int)≤32
  ·by_cases h3:((ix m 0).length:Int)=0
   ·simp (disch:=omega) only [pz,Z0,ZN,ZP];exact IsQ.f fun h=>by have:=h.w1;omega
   ·by_cases h4:((ix m 0).length:Int)≤32
    ·simp (disch:=omega) only [pz,Z0,ZN,ZP,hm.szi]
     have hc:=containsLL (s:=m) (fn:=fun y0=>Zff y0 m q) (q:=fun r=>¬ ((r.length:Int)=(ix m 0).length∧In q r)) hN fun r hr=>by
      show IsQ (Zff r m q) _
      unfold Zff Ziu
      by_cases hl:(r.length:Int)=(ix m 0).length
      ·have hi:=(containsL (s:=r) (fn:=fun y0=>Zdm y0 q) (q:=fun x=>¬ (0≤x∧x≤q-1)) (hs.2 r hr) fun x hx=>by
        show IsQ (Zdm x q) _
        unfold Zdm
        by_cases hx:0≤x∧x≤q-1
        ·simp (disch:=omega) only [pz,ZP];exact IsQ.f fun h=>h hx
        ·simp (disch:=omega) only [pz,ZP];exact IsQ.t hx).not.not
       have hi2:IsQ (((ZaA r fun y0=>Zdm y0 q).bind fun r=>some (!r)).bind fun r=>some (!r)) (¬ ((r.length:Int)=(ix m 0).length∧In q r)):=by
        refine hi.congr ⟨fun h g=>h fun ⟨x,hx,hn⟩=>?_,fun h g=>h ⟨hl,fun k a b=>?_⟩⟩
        ·obtain ⟨k,a,b,rfl⟩:=Z4 hx
         have:=g.2 k a b
         exact hn ⟨this.1,by omega⟩
        ·have:=Classical.byContradiction fun hh:¬ (0≤ix r k∧ix r k≤q-1)=>g ⟨ix r k,ZK a b,hh⟩
         omega
       simp (disch:=omega) only [pz,]
       exact hi2
      ·simp (disch:=omega) only [pz,]
       exact IsQ.t fun h=>hl h.1
     refine hc.not.congr ⟨fun g=>⟨by omega,h2,by omega,h4,fun i a b=>?_⟩,fun g=>?_⟩
     ·exact Classical.byContradiction fun hh=>g ⟨ix m i,ZK a b,hh⟩
     ·rintro ⟨x,hx,hn⟩
      obtain ⟨i,a,b,rfl⟩:=Z4 hx
      exact hn (g.row i a b)
    ·simp (disch:=omega) only [pz,Z0,ZN,ZP];exact IsQ.f fun h=>h4 h.w2
  ·simp (disch:=omega) only [pz,Z0,ZP];exact IsQ.f fun h=>h2 h.n2
theorem Zp2 {q:Int} (hq:2≤q) (hq64:q≤64):∀ (e:Nat) (n:Int),e≤64→1≤n→n≤4096→∃ cs ci:Int,loop (Zd3 q) ((e:Int),n)=some cs∧loop (Za9 q 4096) ((e:Int),n)=some ci∧(cs=0↔4096<ci)
 | 0,n,_,h1,h2=>by
  refine ⟨n,n,Zc ?_,Zc ?_,by omega⟩
  ·simp (disch:=omega) only [pz,Zd3]
  ·simp (disch:=omega) only [pz,Za9]
 | e+1,n,he,h1,h2=>by
  have hm0:1*2≤n*q:=Int.mul_le_mul h1 hq (by omega) (by omega)
  have hm1:n*q≤4096*64:=Int.mul_le_mul h2 hq64 (by omega) (by omega)
  have ee:((e+1:Nat):Int)-1=(e:Int):=by omega
  have hgo:loop (Za9 q 4096) (((e+1:Nat):Int),n)=loop (Za9 q 4096) ((e:Int),n*q):=by
   refine ZI ?_
   simp (disch:=omega) only [pz,Za9,ZeR,ee]
  by_cases h:n*q≤4096
  ·obtain ⟨cs,ci,g1,g2,g3⟩:=Zp2 hq hq64 e (n*q) (by omega) (by omega) h
   refine ⟨cs,ci,?_,by rw [hgo,g2],g3⟩
   rw [←g1]
   refine ZI ?_
   simp (disch:=omega) only [pz,Zd3,ee]
  ·refine ⟨0,n*q,Zc ?_,?_,by omega⟩
   ·simp (disch:=omega) only [pz,Zd3]
   ·rw [hgo]
    refine Zc ?_
    cases e with
    | zero=>simp (disch:=omega) only [pz,Za9]
    | succ e=>simp (disch:=omega) only [pz,Za9]
theorem Zx0 {a b:List (List Int)} (ha:(a.length:Int)≤1048576) (hr:∀ x∈a,(x.length:Int)≤1048576):IsQ (Zgv a b) (a=b):=by
 unfold Zgv
 refine IsQ.bind_id ?_
 unfold ZiR
 refine ZfM (by unfold M63;omega) (fun k x y hx hy=>?_) (by simp (disch:=omega) only [pz,Zh1])
 have h1:=Z5 hx
 have h2:=Z5 hy
 have hs:=Zyu (a:=x) (b:=y) (hr x (List.mem_of_getElem? hx))
 by_cases h:x=y
 ·exact Zb0 (c:=true) (by simp [h]) (by simp (disch:=omega) only [pz,Zh1,ZQ hx,ZQ hy,hs.eq h])
 ·exact Zb0 (c:=false) (by simp [h]) (by simp (disch:=omega) only [pz,Zh1,ZQ hx,ZQ hy,hs.ne h])
theorem Zpm {o:Zf} (hs:Sz2 o.Rows):∃ cs ci b,Zfz o=some cs∧Zew o=some ci∧Zfh cs=some b∧Zc6 ci=some b:=by
 have hN:=hs.1
 unfold Zfz Zew
 rw [ZbE hs]
 rcases ZAl o.Size with ⟨f,hm⟩|⟨h1,e,h2⟩
 ·obtain ⟨inv,hF⟩:=ZzX hm.gf
  have hp:=hF.fd.p2
  have hq:=hF.q2
  have hq64:=hF.q64
  rw [hm.split,hm.mki,hm.mks]
  have e:Zd.mk f.Prime f.Degree f.Poly=f:=rfl
  suffices hh:∃ b,Zfh ⟨f,o.Rows⟩=some b∧Zc6 ⟨f,o.Rows⟩=some b by
   obtain ⟨b,h1,h2⟩:=hh
   refine ⟨⟨f,o.Rows⟩,⟨f,o.Rows⟩,b,?_,?_,h1,h2⟩
   ·simp (disch:=omega) only [pz,e]
   ·simp (disch:=omega) only [pz,e]
  unfold Zfh Zc6 Zis Zje
  by_cases hV:VMat o.Size o.Rows
  ·have q1:=(ZoD hm hq hq64 hs).eq hV
   have q2:=(ZqI hm hq hq64 hs).eq hV
   have n1:=hV.n1;have w2:=hV.w2
   by_cases h8:(o.Rows.length:Int)≤8
   ·obtain ⟨cs,ci,g1,g2,g3⟩:=Zp2 hq hq64 o.Rows.length 1 (by omega) (by omega) (by omega)
    have c1:Zi8 o.Size (o.Rows.length:Int)=some cs:=g1
    have c2:Zb4 o.Size (o.Rows.length:Int) 4096=some ci:=g2
    by_cases hz:cs=0
    ·have hci:=g3.1 hz
     refine ⟨false,?_,?_⟩
     ·simp (disch:=omega) only [pz,e,q1,hm.szs,c1]
     ·simp (disch:=omega) only [pz,e,q2,hm.szi,Z0,c2]
    ·have hci:¬ 4096<ci:=fun h=>hz (g3.2 h)
     obtain ⟨R,piv,d,r1,r2,r3,r4⟩:=ZwD hF hs hV.mat (by omega) n1
     have s1:=Zqr (a:=R) (b:=o.Rows) (by omega) r4
     have s2:=Zx0 (a:=R) (b:=o.Rows) (by omega) r4
     have ht:=Zve hF hm.szi
     obtain ⟨b,s1,s3⟩:=s1
     obtain ⟨b',s2,s4⟩:=s2
     have:b=b':=by rw [Bool.eq_iff_iff,s3,s4]
     subst this
     refine ⟨b,?_,?_⟩
     ·simp (disch:=omega) only [pz,e,q1,hm.szs,c1,r1,s1]
     ·simp (disch:=omega) only [pz,e,q2,hm.szi,Z0,c2,ht,r2,s2]
   ·refine ⟨false,?_,?_⟩
    ·simp (disch:=omega) only [pz,e,q1]
    ·simp (disch:=omega) only [pz,e,q2]
  ·have q1:=(ZoD hm hq hq64 hs).ne hV
   have q2:=(ZqI hm hq hq64 hs).ne hV
   refine ⟨false,?_,?_⟩
   ·simp (disch:=omega) only [pz,e,q1]
   ·simp (disch:=omega) only [pz,e,q2]
 ·rw [h1,h2]
  refine ⟨⟨⟨0,0,[]⟩,[]⟩,⟨⟨0,0,[]⟩,o.Rows⟩,false,?_,?_,?_,?_⟩
  ·simp (disch:=omega) only [pz,]
  ·simp (disch:=omega) only [pz,]
  ·rfl
  ·rfl
end Go.Proofs.YtmmbnjijjdakmaaGreatDoor
namespace Go.Proofs.YtmmbnjijjdakmaaGreatDoor
set_option linter.unusedVariables false
open Go Go.Vc
set_option linter.unusedSimpArgs false
theorem two_q {a b:Option Bool} {p:Prop} (ha:IsQ a p) (hb:IsQ b p):∃ c,a=some c∧b=some c:=by
 obtain ⟨c,h1,h2⟩:=ha
 obtain ⟨d,h3,h4⟩:=hb
 have:c=d:=by rw [Bool.eq_iff_iff,h2,h4]
 subst this
 exact ⟨c,h1,h3⟩
theorem ZyJ {o:Zf} (hs:Sz2 o.Rows):∃ c,Zg9 o=some c∧ZaF o=some c:=by
 have hN:=hs.1
 have e:Zf.mk o.Kind o.Size o.Rows=o:=rfl
 unfold Zg9 ZaF
 by_cases h1:o.Kind=1
 ·obtain ⟨c,q1,q2⟩:=two_q (ZvZ hs) (Zpp hs)
  by_cases hl:(o.Rows.length:Int)=o.Size
  ·refine ⟨c,?_,?_⟩
   ·cases c<;>simp (disch:=omega) only [pz,q1]
   ·simp (disch:=omega) only [pz,q2,Z0]
  ·refine ⟨false,?_,?_⟩
   ·cases c<;>simp (disch:=omega) only [pz,q1]
   ·simp (disch:=omega) only [pz,q2,Z0]
 by_cases h2:o.Kind=2
 ·obtain ⟨c,q1,q2⟩:=two_q (Zv1 (d:=⟨o.Size,o.Rows⟩) hs) (Zov (d:=⟨o.Size,o.Rows⟩) hs)
  refine ⟨c,?_,?_⟩
  ·simp (disch:=omega) only [pz,q1]
  ·simp (disch:=omega) only [pz,e,ZhV,ZbE hs,q2]
 by_cases h3:o.Kind=3
 ·obtain ⟨c,q1,q2⟩:=two_q (ZyB hs) (ZoU hs)
  by_cases hl:(o.Rows.length:Int)=o.Size
  ·refine ⟨c,?_,?_⟩
   ·cases c<;>simp (disch:=omega) only [pz,q1]
   ·simp (disch:=omega) only [pz,q2,Z0]
  ·refine ⟨false,?_,?_⟩
   ·cases c<;>simp (disch:=omega) only [pz,q1]
   ·simp (disch:=omega) only [pz,q2,Z0]
 by_cases h4:o.Kind=4
 ·by_cases hl:0<(o.Rows.length:Int)
  ·obtain ⟨c,q1,q2⟩:=two_q (Ztm (a:=⟨o.Size,(ix o.Rows 0).length,o.Rows⟩) hs) (Zry (a:=⟨o.Size,(ix o.Rows 0).length,o.Rows⟩) hs)
   refine ⟨c,?_,?_⟩
   ·simp (disch:=omega) only [pz,ZfB,q1]
   ·simp (disch:=omega) only [pz,e,ZgW,ZN,ZbE hs,q2]
  ·refine ⟨false,?_,?_⟩
   ·simp (disch:=omega) only [pz,ZfB]
   ·simp (disch:=omega) only [pz,]
 by_cases h5:o.Kind=5
 ·obtain ⟨cs,ci,b,g1,g2,g3,g4⟩:=Zpm hs
  have e2:Zbf.mk (Zd.mk cs.Field.Prime cs.Field.Degree cs.Field.Poly) cs.Rows=cs:=rfl
  refine ⟨b,?_,?_⟩
  ·simp (disch:=omega) only [pz,g1,e2,g3]
  ·simp (disch:=omega) only [pz,e,g2,g4]
 by_cases h6:o.Kind=6
 ·obtain ⟨r,g1,g2,_⟩:=Zor hs
  refine ⟨r.2,?_,?_⟩
  ·simp (disch:=omega) only [pz,g1]
  ·simp (disch:=omega) only [pz,e,g2]
 by_cases h7:o.Kind=7
 ·obtain ⟨c,q1,q2⟩:=two_q (ZuU (g:=⟨o.Size,o.Rows⟩) hs) (Zph (g:=⟨o.Size,o.Rows⟩) hs)
  refine ⟨c,?_,?_⟩
  ·simp (disch:=omega) only [pz,q1]
  ·simp (disch:=omega) only [pz,e,Zg8,ZbE hs,q2]
 ·refine ⟨false,?_,?_⟩
  ·simp (disch:=omega) only [pz,]
  ·simp (disch:=omega) only [pz,]
end Go.Proofs.YtmmbnjijjdakmaaGreatDoor
