import Derived.Test.YtdmledeildfidaaGreatDoorPuJb
import Derived.Test.YtdmledeildfidaaGreatDoorPuJa
import Derived.Test.YtdmledeildfidaaGreatDoorPuTxt
import Derived.Test.YtdmledeildfidaaGreatDoorPuFam
import Derived.Lib.ParseIntB
import Derived.Lib.SplitLaws
open Go.IntKind renaming i64->ε
namespace Go.Proofs.YtdmledeildfidaaGreatDoor
open Go Go.Vc
set_option linter.unusedSimpArgs false
set_option linter.unusedVariables false
structure VMat (q:Int) (m:List (List Int)):Prop where
 n1:1<=(m.length:Int)
 n2:(m.length:Int)<=32
 w1:1<=((ix m 0).length:Int)
 w2:((ix m 0).length:Int)<=32
 row:∀ i,0<=i->i<(m.length:Int)->((ix m i).length:Int)=(ix m 0).length/\In q (ix m i)
theorem VMat.mat {q:Int} {m:List (List Int)} (h:VMat q m):Mat q (ix m 0).length m:=⟨fun i a b=>(h.row i a b).1,fun i a b=>(h.row i a b).2,by have:=h.n2;omega,by have:=h.w2;omega⟩
theorem Zux {f:Ze} {q:Int} (hs:Zbq f=some q) (o:2<=q) (j:q<=64) {v:List Int} (hv:(v.length:Int)<=1048576):IsQ (Zlk f v) (In q v):=by
 unfold Zlk;rw [hs];obtain ⟨c,l,q2⟩:=Zdn (B:=Zej v q) (P:=fun k=>0<=ix v k/\ix v k<=q-1) (t:=true) (f:=false) (i:=0) (n:=v.length) ω
  (fun k a b c=>by simp (disch:=omega) only [pz,Zej,in_ok]) (fun k a b c=>by simp (disch:=omega) only [pz,Zej,in_ok]) (by simp (disch:=omega) only [pz,Zej])
 refine ⟨c,?_,q2.trans ⟨fun h i a b=>?_,fun h i a b=>?_⟩⟩
 ·show loop (Zej v q) 0=some c;rw [l];cases c<;>rfl
 ·have:=h i a b;omega
 ·have:=h i a b;omega
theorem ZiZ {f:Ze} {q:Int} (hm:Made q f) (s:2<=q) (c:q<=64) {m:List (List Int)} (hs:Sz2 m):IsQ (Zmd f m) (VMat q m):=by
 have hN:=hs.1;unfold Zmd Zpz;rw [hm.oks];by_cases h1:(m.length:Int)=0
 ·simp (disch:=omega) only [pz,];exact IsQ.f fun h=>by have:=h.n1;omega
 ·by_cases u:(m.length:Int)<=32
  ·by_cases h3:((ix m 0).length:Int)=0
   ·simp (disch:=omega) only [pz,];exact IsQ.f fun h=>by have:=h.w1;omega
   ·by_cases y:((ix m 0).length:Int)<=32
    ·simp (disch:=omega) only [pz,];refine (Zav (P:=fun i=>((ix m i).length:Int)=(ix m 0).length/\In q (ix m i)) (n:=m.length) (Q:=True) ω ?_ ?_ fun _=>?_).congr ⟨fun g=>⟨by omega,u,by omega,y,g.1⟩,fun g=>⟨g.row,trivial⟩⟩
     ·intro i k l j;have o:=(Zux hm.szs s c (hs.row k l)).eq j.2;have:=j.1;simp (disch:=omega) only [pz,Zic,o]
     ·intro i k l j;by_cases hl:((ix m i).length:Int)=(ix m 0).length
      ·have o:=(Zux hm.szs s c (hs.row k l)).ne fun h=>j ⟨hl,h⟩;simp (disch:=omega) only [pz,Zic,o]
      ·simp (disch:=omega) only [pz,Zic]
     ·rw [Zc (r:=true) (by simp (disch:=omega) only [pz,Zic])];exact IsQ.t trivial
    ·simp (disch:=omega) only [pz,];exact IsQ.f fun h=>y h.w2
  ·simp (disch:=omega) only [pz,];exact IsQ.f fun h=>u h.n2
theorem Zrk {f:Ze} {q:Int} (hm:Made q f) (hq:2<=q) (a0:q<=64) {m:List (List Int)} (hs:Sz2 m):IsQ (ZiJ f m) (VMat q m):=by
 have hN:=hs.1;have e:Ze.mk f.Prime f.Degree f.Poly=f:=rfl;unfold ZiJ ZnN;rw [e,hm.oki];by_cases h1:(m.length:Int)=0
 ·simp (disch:=omega) only [pz,Z0,ZT];exact IsQ.f fun h=>by have:=h.n1;omega
 ·by_cases o:(m.length:Int)<=32
  ·by_cases h3:((ix m 0).length:Int)=0
   ·simp (disch:=omega) only [pz,Z0,ZS,ZT];exact IsQ.f fun h=>by have:=h.w1;omega
   ·by_cases u:((ix m 0).length:Int)<=32
    ·simp (disch:=omega) only [pz,Z0,ZS,ZT,hm.szi];have hc:=containsLL (s:=m) (fn:=fun j=>ZhS j m q) (q:=fun r=>¬ ((r.length:Int)=(ix m 0).length/\In q r)) hN fun r hr=>by
      show IsQ (ZhS r m q) _;unfold ZhS Zp9;by_cases hl:(r.length:Int)=(ix m 0).length
      ·have hi:=(containsL (s:=r) (fn:=fun j=>ZfG j q) (q:=fun x=>¬ (0<=x/\x<=q-1)) (hs.2 r hr) fun x c=>by
        show IsQ (ZfG x q) _;unfold ZfG;by_cases c:0<=x/\x<=q-1
        ·simp (disch:=omega) only [pz,ZT];exact IsQ.f fun h=>h c
        ·simp (disch:=omega) only [pz,ZT];exact IsQ.t c).not.not
       have y:IsQ (((ZaV r fun j=>ZfG j q).bind fun r=>some (!r)).bind fun r=>some (!r)) (¬ ((r.length:Int)=(ix m 0).length/\In q r)):=by
        refine hi.congr ⟨fun h g=>h fun ⟨x,c,l⟩=>?_,fun h g=>h ⟨hl,fun k a b=>?_⟩⟩
        ·obtain ⟨k,a,b,rfl⟩:=ZR c;have:=g.2 k a b;exact l ⟨this.1,by omega⟩
        ·have:=Classical.byContradiction fun hh:¬ (0<=ix r k/\ix r k<=q-1)=>g ⟨ix r k,Zl a b,hh⟩;omega
       simp (disch:=omega) only [pz,];exact y
      ·simp (disch:=omega) only [pz,];exact IsQ.t fun h=>hl h.1
     refine hc.not.congr ⟨fun g=>⟨by omega,o,by omega,u,fun i a b=>?_⟩,fun g=>?_⟩
     ·exact Classical.byContradiction fun hh=>g ⟨ix m i,Zl a b,hh⟩
     ·rintro ⟨x,c,l⟩;obtain ⟨i,a,b,rfl⟩:=ZR c;exact l (g.row i a b)
    ·simp (disch:=omega) only [pz,Z0,ZS,ZT];exact IsQ.f fun h=>u h.w2
  ·simp (disch:=omega) only [pz,Z0,ZT];exact IsQ.f fun h=>o h.n2
theorem ZnK {q:Int} (i:2<=q) (c:q<=64):∀ (e:Nat) (n:Int),e<=64->1<=n->n<=4096->∃ cs ci:Int,loop (Zby q) ((e:Int),n)=some cs/\loop (ZaR q 4096) ((e:Int),n)=some ci/\(cs=0↔4096<ci)
 | 0,n,_,h1,j=>by
  refine ⟨n,n,Zc ?_,Zc ?_,by omega⟩
  ·simp (disch:=omega) only [pz,Zby]
  ·simp (disch:=omega) only [pz,ZaR]
 | e+1,n,he,h1,j=>by
  have s:1*2<=n*q:=Int.mul_le_mul h1 i ω ω;have u:n*q<=4096*64:=Int.mul_le_mul j c ω ω;have ee:((e+1:Nat):Int)-1=(e:Int):=ω;have a0:loop (ZaR q 4096) (((e+1:Nat):Int),n)=loop (ZaR q 4096) ((e:Int),n*q):=by
   refine Zy ?_;simp (disch:=omega) only [pz,ZaR,ZeY,ee]
  by_cases h:n*q<=4096
  ·obtain ⟨cs,ci,k,l,o⟩:=ZnK i c e (n*q) ω ω h;refine ⟨cs,ci,?_,by rw [a0,l],o⟩;rw [<-k];refine Zy ?_;simp (disch:=omega) only [pz,Zby,ee]
  ·refine ⟨0,n*q,Zc ?_,?_,by omega⟩
   ·simp (disch:=omega) only [pz,Zby]
   ·rw [a0];refine Zc ?_;cases e with
    | zero=>simp (disch:=omega) only [pz,ZaR]
    | succ e=>simp (disch:=omega) only [pz,ZaR]
theorem ZFI {a b:List (List Int)} (u:(a.length:Int)<=1048576) (o:∀ x∈a,(x.length:Int)<=1048576):IsQ (ZmB a b) (a=b):=by
 unfold ZmB;refine IsQ.bind_id ?_;unfold ZpB;refine Zdi (by unfold M63;omega) (fun k x y i l=>?_) (by simp (disch:=omega) only [pz,ZlT]);have h1:=Z9 i;have j:=Z9 l;have hs:=Zpq (a:=x) (b:=y) (o x (List.mem_of_getElem? i));by_cases h:x=y
 ·exact Zbm (c:=true) (by simp [h]) (by simp (disch:=omega) only [pz,ZlT,ZN i,ZN l,hs.eq h])
 ·exact Zbm (c:=false) (by simp [h]) (by simp (disch:=omega) only [pz,ZlT,ZN i,ZN l,hs.ne h])
theorem ZnB {o:Zf} (hs:Sz2 o.Rows):∃ cs ci b,ZbD o=some cs/\Zb5 o=some ci/\ZaG cs=some b/\Zcx ci=some b:=by
 have hN:=hs.1;unfold ZbD Zb5;rw [Zbb hs];rcases Zuo o.Size with ⟨f,hm⟩|⟨h1,e,k⟩
 ·obtain ⟨inv,hF⟩:=ZrV hm.gf;have hp:=hF.fd.p2;have i:=hF.q2;have c:=hF.q64;rw [hm.split,hm.mki,hm.mks];have e:Ze.mk f.Prime f.Degree f.Poly=f:=rfl
  suffices hh:∃ b,ZaG ⟨f,o.Rows⟩=some b/\Zcx ⟨f,o.Rows⟩=some b by
   obtain ⟨b,h1,k⟩:=hh;refine ⟨⟨f,o.Rows⟩,⟨f,o.Rows⟩,b,?_,?_,h1,k⟩
   ·simp (disch:=omega) only [pz,e]
   ·simp (disch:=omega) only [pz,e]
  unfold ZaG Zcx Zdo ZoK;by_cases hV:VMat o.Size o.Rows
  ·have j:=(ZiZ hm i c hs).eq hV;have q2:=(Zrk hm i c hs).eq hV;have n1:=hV.n1;have w2:=hV.w2;by_cases h8:(o.Rows.length:Int)<=8
   ·obtain ⟨cs,ci,u,y,l⟩:=ZnK i c o.Rows.length 1 ω ω ω;have c1:Zjt o.Size (o.Rows.length:Int)=some cs:=u;have c2:Zbn o.Size (o.Rows.length:Int) 4096=some ci:=y;by_cases hz:cs=0
    ·have a1:=l.1 hz;refine ⟨false,?_,?_⟩
     ·simp (disch:=omega) only [pz,e,j,hm.szs,c1]
     ·simp (disch:=omega) only [pz,e,q2,hm.szi,Z0,c2]
    ·have a1:¬ 4096<ci:=fun h=>hz (l.2 h);obtain ⟨R,piv,d,r1,r2,r3,s⟩:=Zum hF hs hV.mat ω n1;have s1:=ZoV (a:=R) (b:=o.Rows) ω s;have s2:=ZFI (a:=R) (b:=o.Rows) ω s;have ht:=ZvO hF hm.szi;obtain ⟨b,s1,s3⟩:=s1;obtain ⟨b',s2,s4⟩:=s2;have:b=b':=by rw [Bool.eq_iff_iff,s3,s4]
     subst this;refine ⟨b,?_,?_⟩
     ·simp (disch:=omega) only [pz,e,j,hm.szs,c1,r1,s1]
     ·simp (disch:=omega) only [pz,e,q2,hm.szi,Z0,c2,ht,r2,s2]
   ·refine ⟨false,?_,?_⟩
    ·simp (disch:=omega) only [pz,e,j]
    ·simp (disch:=omega) only [pz,e,q2]
  ·have j:=(ZiZ hm i c hs).ne hV;have q2:=(Zrk hm i c hs).ne hV;refine ⟨false,?_,?_⟩
   ·simp (disch:=omega) only [pz,e,j]
   ·simp (disch:=omega) only [pz,e,q2]
 ·rw [h1,k];refine ⟨⟨⟨0,0,[]⟩,[]⟩,⟨⟨0,0,[]⟩,o.Rows⟩,false,?_,?_,?_,?_⟩
  ·simp (disch:=omega) only [pz,]
  ·simp (disch:=omega) only [pz,]
  ·rfl
  ·rfl
theorem two_q {a b:Option Bool} {p:Prop} (o:IsQ a p) (i:IsQ b p):∃ c,a=some c/\b=some c:=by
 obtain ⟨c,h1,j⟩:=o;obtain ⟨d,k,l⟩:=i;have:c=d:=by rw [Bool.eq_iff_iff,j,l]
 subst this;exact ⟨c,h1,k⟩
theorem Zwl {o:Zf} (hs:Sz2 o.Rows):∃ c,ZaA o=some c/\ZaE o=some c:=by
 have hN:=hs.1;have e:Zf.mk o.Kind o.Size o.Rows=o:=rfl;unfold ZaA ZaE;by_cases h1:o.Kind=1
 ·obtain ⟨c,i,q2⟩:=two_q (ZoF hs) (Zi8 hs);by_cases hl:(o.Rows.length:Int)=o.Size
  ·refine ⟨c,?_,?_⟩
   ·cases c<;>simp (disch:=omega) only [pz,i]
   ·simp (disch:=omega) only [pz,q2,Z0]
  ·refine ⟨false,?_,?_⟩
   ·cases c<;>simp (disch:=omega) only [pz,i]
   ·simp (disch:=omega) only [pz,q2,Z0]
 by_cases y:o.Kind=2
 ·obtain ⟨c,i,q2⟩:=two_q (Ztl (d:=⟨o.Size,o.Rows⟩) hs) (Zqw (d:=⟨o.Size,o.Rows⟩) hs);refine ⟨c,?_,?_⟩
  ·simp (disch:=omega) only [pz,i]
  ·simp (disch:=omega) only [pz,e,ZeU,Zbb hs,q2]
 by_cases h3:o.Kind=3
 ·obtain ⟨c,i,q2⟩:=two_q (ZG9 hs) (Zr0 hs);by_cases hl:(o.Rows.length:Int)=o.Size
  ·refine ⟨c,?_,?_⟩
   ·cases c<;>simp (disch:=omega) only [pz,i]
   ·simp (disch:=omega) only [pz,q2,Z0]
  ·refine ⟨false,?_,?_⟩
   ·cases c<;>simp (disch:=omega) only [pz,i]
   ·simp (disch:=omega) only [pz,q2,Z0]
 by_cases h4:o.Kind=4
 ·by_cases hl:0<(o.Rows.length:Int)
  ·obtain ⟨c,i,q2⟩:=two_q (ZB9 (a:=⟨o.Size,(ix o.Rows 0).length,o.Rows⟩) hs) (Zv5 (a:=⟨o.Size,(ix o.Rows 0).length,o.Rows⟩) hs);refine ⟨c,?_,?_⟩
   ·simp (disch:=omega) only [pz,ZlO,i]
   ·simp (disch:=omega) only [pz,e,Zkl,ZS,Zbb hs,q2]
  ·refine ⟨false,?_,?_⟩
   ·simp (disch:=omega) only [pz,ZlO]
   ·simp (disch:=omega) only [pz,]
 by_cases h5:o.Kind=5
 ·obtain ⟨cs,ci,b,j,k,l,s⟩:=ZnB hs;have u:ZW.mk (Ze.mk cs.Field.Prime cs.Field.Degree cs.Field.Poly) cs.Rows=cs:=rfl;refine ⟨b,?_,?_⟩
  ·simp (disch:=omega) only [pz,j,u,l]
  ·simp (disch:=omega) only [pz,e,k,s]
 by_cases h6:o.Kind=6
 ·obtain ⟨r,j,k,_⟩:=Zps hs;refine ⟨r.2,?_,?_⟩
  ·simp (disch:=omega) only [pz,j]
  ·simp (disch:=omega) only [pz,e,k]
 by_cases h7:o.Kind=7
 ·obtain ⟨c,i,q2⟩:=two_q (ZFd (g:=⟨o.Size,o.Rows⟩) hs) (ZrT (g:=⟨o.Size,o.Rows⟩) hs);refine ⟨c,?_,?_⟩
  ·simp (disch:=omega) only [pz,i]
  ·simp (disch:=omega) only [pz,e,Zi4,Zbb hs,q2]
 ·refine ⟨false,?_,?_⟩
  ·simp (disch:=omega) only [pz,]
  ·simp (disch:=omega) only [pz,]
open Go Go.Vc Go.Lib
theorem gFitW {a b:ByteArray} (h:a.size+b.size<=4000000000000000000):gFit a b=some ():=by
 unfold gFit;rw [if_pos];have:IntKind.i64.max=9223372036854775807:=rfl;omega
def bl (l:List UInt8):ByteArray:=⟨l.toArray⟩
theorem Zam (b:ByteArray):bl b.data.toList=b:=by cases b;rfl
theorem ZV (l:List UInt8):(bl l).size=l.length:=by show l.toArray.size=_;simp
theorem Zbe (l r:List UInt8):bl l++bl r=bl (l++r):=by
 apply ByteArray.ext;rw [ByteArray.data_append];show l.toArray++r.toArray=(l++r).toArray;simp
theorem Zan (a b:ByteArray):(a++b).size=a.size+b.size:=by simp
theorem Zmf (x s:ByteArray):joinB [x] s=x:=by
 unfold joinB;rw [List.map_cons,List.map_nil,join_one]
theorem ZpX (x:ByteArray) (r:List ByteArray) (s:ByteArray):joinB (x::r) s=bl (x.data.toList++joinTail s.data.toList (r.map (·.data.toList))):=by
 unfold joinB;rw [List.map_cons,join_cons];rfl
theorem ZfV {l:List ByteArray} (h:l≠[]) (x s:ByteArray):joinB (l++[x]) s=joinB l s++s++x:=by
 cases l with
 | nil=>exact absurd rfl h
 | cons a r=>
  rw [List.cons_append,ZpX,ZpX,List.map_append]
  conv=>rhs;rw [<-Zam s,<-Zam x,Zbe,Zbe]
  congr 1;rw [Zam];simp [joinTail]
theorem ZrY {l:List ByteArray} {s:ByteArray} {m:Nat} (h:∀ x∈l,x.size<=m):(joinB l s).size<=(m+s.size)*l.length:=by
 cases l with
 | nil=>exact Nat.zero_le _
 | cons a r=>
  have hl:∀ (r:List ByteArray),(∀ x∈r,x.size<=m)->lens (r.map (·.data.toList))<=m*r.length:=by
   intro r;induction r with
   | nil=>intro _;exact Nat.zero_le _
   | cons b t u=>
    intro i;have h1:=u fun x c=>i x (List.mem_cons_of_mem _ c);have k:=i b (List.mem_cons_self ..);have j:b.data.toList.length=b.size:=by rw [Array.length_toList];rfl
    simp only [lens,List.map_cons,List.sum_cons,List.length_cons] at h1 ⊢;rw [Nat.mul_succ];omega
  have h1:=hl r fun x c=>h x (List.mem_cons_of_mem _ c);have k:=h a (List.mem_cons_self ..);have j:a.data.toList.length=a.size:=by rw [Array.length_toList];rfl
  have o:s.data.toList.length=s.size:=by rw [Array.length_toList];rfl
  rw [ZpX,ZV,List.length_append,joinTail_length,List.length_map,j,o,List.length_cons,Nat.add_mul,Nat.mul_succ,Nat.mul_succ];omega
theorem dgl:∀ (m u:Nat),u<10^(m+1)->(decDigits u).length<=m+1:=by
 intro m;induction m with
 | zero=>
  intro u h;rw [decDigits,dif_pos (by simpa using h)];exact Nat.le_refl _
 | succ m j=>
  intro u h;rw [decDigits];split
  ·simp
  ·have e:10^(m+1+1)=10^(m+1)*10:=Nat.pow_succ ..;have:=j (u/10) ω;rw [List.length_append,List.length_singleton];omega
theorem ZvR {n:Int} (m:Nat) (h1:-10^(m+1)<n) (c:n<10^(m+1)):(itoaB n).size<=m+2:=by
 have e:(10:Int)^(m+1)=((10^(m+1):Nat):Int):=by simp
 rw [e] at h1 c;show (itoa n).toArray.size<=_;unfold itoa;split
 ·have:=dgl m n.natAbs ω;simp;omega
 ·have:=dgl m n.toNat ω;simp;omega
theorem tq (k:Int):(0<=k->Int.tmod k 10=((k.natAbs%10:Nat):Int)/\Int.tdiv k 10=((k.natAbs/10:Nat):Int))/\(k<0->Int.tmod k 10=-((k.natAbs%10:Nat):Int)/\Int.tdiv k 10=-((k.natAbs/10:Nat):Int)):=by
 refine ⟨fun h=>?_,fun h=>?_⟩
 ·rw [Int.tmod_eq_emod_of_nonneg h,Int.tdiv_eq_ediv_of_nonneg h];omega
 ·obtain ⟨j,rfl⟩:∃ j,k=-j:=⟨-k,by omega⟩
  rw [Int.neg_tmod,Int.neg_tdiv,Int.tmod_eq_emod_of_nonneg ω,Int.tdiv_eq_ediv_of_nonneg ω];omega
def nums (l:List UInt8):List Int:=l.map fun b=>(b.toNat:Int)
theorem ZIa (l:List UInt8):gByt (nums l)=some (bl l):=by
 unfold gByt;rw [if_pos]
 ·congr 1;unfold bstr nums bl;congr 2;rw [List.map_map]
  conv=>rhs;rw [<-List.map_id l]
  refine List.map_congr_left fun x _=>?_;simp
 ·intro x c;obtain ⟨b,_,rfl⟩:=List.mem_map.1 c;have:=b.toNat_lt;omega
theorem ZDW {n0 k:Int} {l:List Int} (o:¬ k=0) (h1:-9223372036854775808<=k) (i:k<=9223372036854775807) (u:l.length<=100):
  Zbv n0 (l,k)=some (.inl (((48+k.natAbs%10:Nat):Int)::l,Int.tdiv k 10)):=by
 have hm:k.natAbs%10<10:=Nat.mod_lt _ ω;have k1:∀ d:Int,d=((k.natAbs%10:Nat):Int)->ZhC l k d=some (.inl (((48+k.natAbs%10:Nat):Int)::l,Int.tdiv k 10)):=by
  intro d hd;have w1:ε.wrap (48+d)=48+d:=Zaf ω ω;have w2:IntKind.u8.wrap (48+d)=48+d:=u8_of ω ω;have c:ε.wrap (Int.tdiv k 10)=Int.tdiv k 10:=by
   by_cases hp:0<=k
   ·have:=((tq k).1 hp).2;exact Zaf ω ω
   ·have:=((tq k).2 ω).2;exact Zaf ω ω
  have g:gApp 1 [48+d] l=some ([48+d]++l):=ZaQ (by simp;omega) (by simp;omega);unfold ZhC;rw [w1,w2,g];simp (disch:=omega) only [pz,c];rw [hd];simp
 by_cases hp:0<=k
 ·have hd:=((tq k).1 hp).1;have j:¬ Int.tmod k 10<0:=ω;simp (disch:=omega) only [pz,Zbv,k1 _ hd]
 ·have hd:=((tq k).2 ω).1;by_cases hz:Int.tmod k 10<0
  ·have w:ε.wrap (0-Int.tmod k 10)=0-Int.tmod k 10:=Zaf ω ω;simp (disch:=omega) only [pz,Zbv,w,k1 (0-Int.tmod k 10) ω]
  ·simp (disch:=omega) only [pz,Zbv,k1 (Int.tmod k 10) ω]
theorem ZFY (n0:Int):∀ (m:Nat) (k:Int) (o:List Int),¬ k=0->k.natAbs<10^m->-9223372036854775808<=k->k<=9223372036854775807->o.length+m<=100 ->
  loop (Zbv n0) (o,k)=loop (Zbv n0) (nums (decDigits k.natAbs)++o,0):=by
 intro m;induction m with
 | zero=>intro k o u h;exact absurd (by simp at h;omega) u
 | succ m ih=>
  intro k o u h h1 j ho;rw [Zy (ZDW u h1 j ω)];have hm:k.natAbs%10<10:=Nat.mod_lt _ ω;have hu:(Int.tdiv k 10).natAbs=k.natAbs/10:=by
   by_cases hp:0<=k
   ·have:=((tq k).1 hp).2;omega
   ·have:=((tq k).2 ω).2;omega
  have c:((UInt8.ofNat (48+k.natAbs%10)).toNat:Int)=((48+k.natAbs%10:Nat):Int):=by
   rw [UInt8.toNat_ofNat'];omega
  by_cases hz:k.natAbs<10
  ·have l:Int.tdiv k 10=0:=ω;have i:k.natAbs%10=k.natAbs:=ω;rw [l,decDigits,dif_pos hz];rw [i] at c ⊢;unfold nums;rw [List.map_cons,List.map_nil,c];rfl
  ·have e:10^(m+1)=10^m*10:=Nat.pow_succ ..;rw [ih (Int.tdiv k 10) _ ω (by rw [hu];omega) (by
    by_cases hp:0<=k
    ·have:=((tq k).1 hp).2;omega
    ·have:=((tq k).2 ω).2;omega) (by
    by_cases hp:0<=k
    ·have:=((tq k).1 hp).2;omega
    ·have:=((tq k).2 ω).2;omega) (by rw [List.length_cons];omega),hu]
   conv=>rhs;rw [decDigits,dif_neg hz]
   unfold nums;rw [List.map_append,List.map_cons,List.map_nil,c];simp
theorem dgn (u:Nat):0<(decDigits u).length:=by
 rw [decDigits];split<;>simp
theorem Zec {n:Int} (h1:-9223372036854775808<=n) (i:n<=9223372036854775807):Zce n=some (itoaB n):=by
 unfold Zce;by_cases c:n=0
 ·subst c;rw [Zc (r:=⟨#[48]⟩) (by simp (disch:=omega) only [pz,Zbv,List.length_nil])];congr 1;unfold itoaB itoa;rw [if_neg ω,decDigits,dif_pos (by decide)];rfl
 ·rw [ZFY n 19 n [] c ω h1 i (by decide),List.append_nil];have hl:=dgn n.natAbs;have j:(nums (decDigits n.natAbs)).length=(decDigits n.natAbs).length:=List.length_map ..;have hs:=ZIa (decDigits n.natAbs);have hd:=dgl 19 n.natAbs ω;have hz:¬ ((nums (decDigits n.natAbs)).length:Int)=0:=ω;by_cases hp:n<0
  ·have k:gFit ⟨#[45]⟩ (bl (decDigits n.natAbs))=some ():=gFitW (by rw [ZV];show 1+_<=_;omega);rw [Zc (r:=(⟨#[45]⟩:ByteArray)++bl (decDigits n.natAbs)) (by simp (disch:=omega) only [pz,Zbv,hs,k])];congr 1;unfold itoaB itoa;rw [if_pos hp];exact Zbe [45] _
  ·rw [Zc (r:=bl (decDigits n.natAbs)) (by simp (disch:=omega) only [pz,Zbv,hs])];congr 1;unfold itoaB itoa;rw [if_neg hp,show n.natAbs=n.toNat by omega];rfl
theorem ZcR {n:Int} (h1:-9223372036854775808<=n) (c:n<=9223372036854775807):ZbN n=some (itoaB n):=by
 unfold ZbN Zkx;rw [if_pos ⟨rfl,h1,c⟩];rfl
open Go Go.Vc Go.Lib
theorem ZJR (b:ByteArray):(⟨#[]⟩:ByteArray)++b=b:=by
 have:=Zbe [] b.data.toList;rw [Zam] at this;rw [show (⟨#[]⟩:ByteArray)=bl [] from rfl,this,List.nil_append,Zam]
theorem ZoD (a b c:ByteArray):(a++b)++c=a++(b++c):=by
 rw [<-Zam a,<-Zam b,<-Zam c,Zbe,Zbe,Zbe,Zbe,List.append_assoc]
theorem ZnH {l:List ByteArray} {s:ByteArray} (h1:l.length<=140737488355328) (c:(joinB l s).size<=140737488355328):ZdC l s=some (joinB l s):=by
 unfold ZdC;rw [if_pos ⟨h1,c⟩]
theorem Zpy {j:Type} [Inhabited j] {xs:List j} {f:j->ByteArray} {s:ByteArray} {k:Int} (c:0<k) (h1:k<(xs.length:Int)):
  joinB ((xs.take (k+1).toNat).map f) s=joinB ((xs.take k.toNat).map f) s++s++f (ix xs k):=by
 rw [Zap ω h1,List.map_append,List.map_cons,List.map_nil,ZfV];intro e;have:=congrArg List.length e;rw [List.length_map,List.length_take,List.length_nil] at this;omega
theorem Znu {j:Type} [Inhabited j] {xs:List j} {f:j->ByteArray} {s:ByteArray} (h1:0<(xs.length:Int)):
  joinB ((xs.take ((0:Int)+1).toNat).map f) s=f (ix xs 0):=by
 rw [Zap ω h1];exact Zmf _ _
theorem ZeS {j l:Type} [Inhabited j] {xs:List j} {f:j->l} {k:Int} (c:0<=k) (h1:k<(xs.length:Int)):(xs.take (k+1).toNat).map f=(xs.take k.toNat).map f++[f (ix xs k)]:=by
 rw [Zap c h1,List.map_append];rfl
theorem jsize {j:Type} {xs:List j} {f:j->ByteArray} {s:ByteArray} {m N:Nat} (k:∀ x∈xs,(f x).size<=m) (hl:xs.length<=N) (i:Nat):(joinB ((xs.take i).map f) s).size<=(m+s.size)*N:=by
 refine Nat.le_trans (ZrY (m:=m) fun y l=>?_) (Nat.mul_le_mul_left _ ?_)
 ·obtain ⟨x,c,rfl⟩:=List.mem_map.1 l;exact k x (List.mem_of_mem_take c)
 ·rw [List.length_map,List.length_take];omega
def InR (x:Int):Prop:=-999999999<=x/\x<=999999999
theorem Za0 {x:Int} (h:InR x):(itoaB x).size<=10:=ZvR 8 (by have:=h.1;omega) (by have:=h.2;omega)
noncomputable def tL (xs:List Int):ByteArray:=@ite _ (xs.length<=100/\∀ x∈xs,InR x) (Classical.propDecidable _) (if xs=[] then ⟨#[45]⟩ else joinB (xs.map itoaB) ⟨#[44]⟩) ⟨#[]⟩
theorem tL_t {xs:List Int} (h:xs.length<=100/\∀ x∈xs,InR x) (c:xs≠[]):tL xs=joinB (xs.map itoaB) ⟨#[44]⟩:=by unfold tL;rw [if_pos h,if_neg c]
theorem tL_n {xs:List Int} (c:xs=[]):tL xs=⟨#[45]⟩:=by
 subst c;unfold tL;rw [if_pos ⟨by decide,fun x i=>by cases i⟩,if_pos rfl]
theorem tL_f {xs:List Int} (h:¬ (xs.length<=100/\∀ x∈xs,InR x)):tL xs=⟨#[]⟩:=by unfold tL;rw [if_neg h]
theorem Zhi (xs:List Int):(tL xs).size<=1100:=by
 by_cases c:xs=[]
 ·rw [tL_n c];show 1<=_;omega
 ·by_cases h:xs.length<=100/\∀ x∈xs,InR x
  ·rw [tL_t h c];have:=jsize (xs:=xs) (f:=itoaB) (s:=⟨#[44]⟩) (m:=10) (N:=100) (fun x i=>Za0 (h.2 x i)) h.1 xs.length;rw [List.take_length] at this;exact this
  ·rw [tL_f h];show 0<=_;omega
theorem Zjc {n:Int} (c:0<=n) (P:Int->Prop):(∃ k,0<=k/\k<n/\P k/\∀ j,0<=j->j<k->¬ P j)\/∀ j,0<=j->j<n->¬ P j:=by
 rcases Za1 (σ:=Int) (ρ:=Unit) (B:=fun k=>some (.inl (k+1))) (fun k=>k) P c (fun k _ _ _=>rfl) with ⟨k,h1,i,l,o,_⟩|⟨h,_⟩
 ·exact .inl ⟨k,h1,i,l,o⟩
 ·exact .inr h
theorem ZHn {xs:List Int} {n:Int} (l:n<=(xs.length:Int)) (h:∀ j,0<=j->j<n->InR (ix xs j)):∀ x∈xs.take n.toNat,InR x:=by
 intro x k;obtain ⟨i,c,h1,rfl⟩:=ZR k;rw [List.length_take] at h1;rw [Zda c ω];exact h i c ω
theorem ZsE {xs:List Int} {n:Int} (u:0<=n) (hn:n<=(xs.length:Int)) (hl:xs.length<=100) (h:∀ j,0<=j->j<n->InR (ix xs j)):
  loop (Zcb xs) (⟨#[]⟩,0)=loop (Zcb xs) (joinB ((xs.take n.toNat).map itoaB) ⟨#[44]⟩,n):=by
 refine Zh (fun k:Int=>(joinB ((xs.take k.toNat).map itoaB) ⟨#[44]⟩,k)) u fun k k0 k1=>?_;have hk:=h k k0 k1;have hd:=Zec (n:=ix xs k) (by have:=hk.1;omega) (by have:=hk.2;omega);have hz:=Za0 hk;have a3:(xs.take k.toNat).length<=100:=by rw [List.length_take];omega
 have hj:=ZrY (l:=(xs.take k.toNat).map itoaB) (s:=⟨#[44]⟩) (m:=10) fun y hy=>by
  obtain ⟨x,hx,rfl⟩:=List.mem_map.1 hy;exact Za0 (ZHn (n:=k) ω (fun j a b=>h j a ω) x hx)
 rw [List.length_map] at hj;have i:(joinB ((xs.take k.toNat).map itoaB) ⟨#[44]⟩).size<=1100:=Nat.le_trans hj (Nat.mul_le_mul_left 11 a3);have hi:ZI (ix xs k) (-999999999) 999999999=some true:=by
  have:=hk.1;have:=hk.2;simp (disch:=omega) only [pz,ZI]
 by_cases o:k=0
 ·subst o;rw [Znu ω];have c:gFit ⟨#[]⟩ (itoaB (ix xs 0))=some ():=gFitW (by show 0+_<=_;omega);have e0:joinB ((xs.take (0:Int).toNat).map itoaB) ⟨#[44]⟩=⟨#[]⟩:=rfl;rw [e0];simp (disch:=omega) only [pz,Zcb,Zh4,hi,hd,c,ZJR]
 ·rw [Zpy ω ω];generalize joinB ((xs.take k.toNat).map itoaB) ⟨#[44]⟩=a0 at i;have f1:gFit a0 ⟨#[44]⟩=some ():=gFitW (by show a0.size+1<=_;omega);have c:gFit (a0++⟨#[44]⟩) (itoaB (ix xs k))=some ():=gFitW (by rw [Zan];show a0.size+1+_<=_;omega);simp (disch:=omega) only [pz,Zcb,Zh4,hi,hd,f1,c]
theorem ZrO {xs:List Int}:(∀ x∈xs,InR x)↔∀ j,0<=j->j<(xs.length:Int)->InR (ix xs j):=
 ⟨fun h j a b=>h _ (Zl a b),fun h x c=>by obtain ⟨i,a,b,rfl⟩:=ZR c;exact h i a b⟩
theorem Zwo (xs:List Int):ZgV xs=some (tL xs):=by
 unfold ZgV;by_cases hl:xs.length<=100
 ·by_cases c:xs=[]
  ·rw [tL_n c];subst c;simp (disch:=omega) only [pz,List.length_nil]
  ·have hp:0<(xs.length:Int):=by
    cases xs with
    | nil=>exact absurd rfl c
    | cons a t=>simp
   rcases Zjc (n:=xs.length) ω (fun k=>¬ InR (ix xs k)) with ⟨k,k0,k1,hk,i⟩|i
   ·rw [tL_f fun h=>hk (ZrO.1 h.2 k k0 k1)];have e:=ZsE (xs:=xs) (n:=k) k0 ω hl fun j a b=>Classical.not_not.1 (i j a b);have hi:ZI (ix xs k) (-999999999) 999999999=some false:=by
     by_cases h1:-999999999<=ix xs k
     ·have:¬ ix xs k<=999999999:=fun o=>hk ⟨h1,o⟩;simp (disch:=omega) only [pz,ZI]
     ·simp (disch:=omega) only [pz,ZI]
    have l:loop (Zcb xs) (⟨#[]⟩,0)=some ⟨#[]⟩:=by
     rw [e];exact Zc (by simp (disch:=omega) only [pz,Zcb,hi])
    simp (disch:=omega) only [pz,l]
   ·have u:∀ j,0<=j->j<(xs.length:Int)->InR (ix xs j):=fun j a b=>Classical.not_not.1 (i j a b);rw [tL_t ⟨hl,ZrO.2 u⟩ c];have e:=ZsE (xs:=xs) (n:=xs.length) ω ω hl u;rw [Int.toNat_natCast,List.take_length] at e;have l:loop (Zcb xs) (⟨#[]⟩,0)=some (joinB (xs.map itoaB) ⟨#[44]⟩):=by
     rw [e];exact Zc (by simp (disch:=omega) only [pz,Zcb])
    simp (disch:=omega) only [pz,l]
 ·rw [tL_f fun h=>hl h.1];simp (disch:=omega) only [pz,]
theorem ZpN (xs:List Int):Zem xs=some (tL xs):=by
 unfold Zem;by_cases hl:xs.length<=100
 ·have u:=containsL (s:=xs) (fn:=fun y0=>ZfH y0) (q:=fun x=>¬ InR x) ω fun x j=>by
   by_cases h1:-999999999<=x
   ·by_cases y:x<=999999999
    ·simp (disch:=omega) only [pz,ZfH,ZK];exact IsQ.f fun h=>h ⟨h1,y⟩
    ·simp (disch:=omega) only [pz,ZfH,ZK];exact IsQ.t fun h=>y h.2
   ·simp (disch:=omega) only [pz,ZfH,ZK];exact IsQ.t fun h=>h1 h.1
  by_cases ha:∀ x∈xs,InR x
  ·have c:=u.ne fun ⟨x,j,h⟩=>h (ha x j);by_cases o:xs=[]
   ·rw [tL_n o];subst o;simp (disch:=omega) only [pz,c,Zmx,List.length_nil]
   ·rw [tL_t ⟨hl,ha⟩ o];have hp:0<(xs.length:Int):=by
     cases xs with
     | nil=>exact absurd rfl o
     | cons a t=>simp
    have e:loop (ZiG xs) ([],0)=some (joinB (xs.map itoaB) ⟨#[44]⟩):=by
     have e1:=Zh (B:=ZiG xs) (fun k:Int=>((xs.take k.toNat).map itoaB,k)) (i:=0) (n:=xs.length) ω fun k k0 k1=>by
      have hk:=ha _ (Zl k0 k1);have hd:=ZcR (n:=ix xs k) (by have:=hk.1;omega) (by have:=hk.2;omega);have a7:((xs.take k.toNat).map itoaB).length<=100:=by rw [List.length_map,List.length_take];omega
      rw [ZeS k0 k1];have hg:gApp 16 ((xs.take k.toNat).map itoaB) [itoaB (ix xs k)]=some ((xs.take k.toNat).map itoaB++[itoaB (ix xs k)]):=gApp1 ω ω;simp (disch:=omega) only [pz,ZiG,hd,hg]
     rw [Int.toNat_natCast,List.take_length] at e1;refine e1.trans (Zc ?_);have hj:=jsize (xs:=xs) (f:=itoaB) (s:=⟨#[44]⟩) (m:=10) (N:=100) (fun x j=>Za0 (ha x j)) hl xs.length;rw [List.take_length] at hj;have hq:=ZnH (l:=xs.map itoaB) (s:=⟨#[44]⟩) (by rw [List.length_map];omega) (Nat.le_trans hj (by decide));simp (disch:=omega) only [pz,ZiG,hq]
    simp (disch:=omega) only [pz,c,Zmx,e]
  ·have c:=u.eq (by
    refine Classical.byContradiction fun h=>ha fun x j=>Classical.not_not.1 fun hh=>h ⟨x,j,hh⟩)
   rw [tL_f fun h=>ha h.2];simp (disch:=omega) only [pz,c]
 ·rw [tL_f fun h=>hl h.1];simp (disch:=omega) only [pz,]
theorem ZFT {k:Int} (h1:1<=k) (c:k<=7):∃ l s,Zep=some l/\gIdx l k=some s/\Zl9 k=some s/\s.size<=10/\32∉s.data.toList:=by
 have j:k=1\/k=2\/k=3\/k=4\/k=5\/k=6\/k=7:=ω;have w:ε.wrap (k-1)=k-1:=Zaf ω ω;have o:ZK k 1 7=some true:=by simp (disch:=omega) only [pz,ZK]
 have hi:ZjZ k=some true:=by simp (disch:=omega) only [pz,ZjZ,o]
 unfold Zl9 Zep Zih;rw [hi,w];rcases j with rfl|rfl|rfl|rfl|rfl|rfl|rfl<;>exact ⟨_,_,rfl,rfl,rfl,by decide,by decide⟩
theorem ZCl {o:Zf} (h:ZaE o=some true):1<=o.Kind/\o.Kind<=7:=by
 refine Classical.byContradiction fun c=>?_;have:ZaE o=some false:=by
  unfold ZaE;by_cases h1:o.Kind<1
  ·simp (disch:=omega) only [pz,]
  ·simp (disch:=omega) only [pz,]
 rw [this] at h;cases h
noncomputable def tR (rows:List (List Int)):ByteArray:=if rows=[] then ⟨#[110,111,110,101]⟩ else joinB (rows.map tL) ⟨#[47]⟩
theorem ZIR {rows:List (List Int)} (h:rows.length<=1048576):(tR rows).size<=1154482176:=by
 unfold tR;split
 ·show 4<=_;omega
 ·have:=jsize (xs:=rows) (f:=tL) (s:=⟨#[47]⟩) (m:=1100) (N:=1048576) (fun x _=>Zhi x) h rows.length;rw [List.take_length] at this;exact this
theorem ZIe {o:Zf} {pre:ByteArray} (hp:pre.size<=100) (h:o.Rows.length<=1048576) (a2:o.Rows≠[]):
  loop (Zb1 o) (pre,0)=some (pre++tR o.Rows):=by
 have e:tR o.Rows=joinB (o.Rows.map tL) ⟨#[47]⟩:=by unfold tR;rw [if_neg a2]
 rw [e];have l:=Zh (B:=Zb1 o) (fun k:Int=>(pre++joinB ((o.Rows.take k.toNat).map tL) ⟨#[47]⟩,k)) (i:=0) (n:=o.Rows.length) ω fun k k0 k1=>by
  have hj:=jsize (xs:=o.Rows) (f:=tL) (s:=⟨#[47]⟩) (m:=1100) (N:=1048576) (fun x _=>Zhi x) h k.toNat;have hs:=Zhi (ix o.Rows k);have hl:=Zwo (ix o.Rows k);have u:(joinB ((o.Rows.take k.toNat).map tL) ⟨#[47]⟩).size<=1154482176:=hj;by_cases y:k=0
  ·subst y;rw [Znu ω];have c:joinB ((o.Rows.take (0:Int).toNat).map tL) ⟨#[47]⟩=⟨#[]⟩:=rfl;have a0:pre++(⟨#[]⟩:ByteArray)=pre:=by
    have:=Zbe pre.data.toList [];rw [Zam,List.append_nil,Zam] at this;exact this
   rw [c,a0];have j:gFit pre (tL (ix o.Rows 0))=some ():=gFitW ω;simp (disch:=omega) only [pz,Zb1,Zfn,hl,j]
  ·rw [Zpy ω ω];generalize joinB ((o.Rows.take k.toNat).map tL) ⟨#[47]⟩=a1 at u;have f1:gFit (pre++a1) ⟨#[47]⟩=some ():=gFitW (by rw [Zan];show _+1<=_;omega);have j:gFit ((pre++a1)++⟨#[47]⟩) (tL (ix o.Rows k))=some ():=gFitW (by rw [Zan,Zan];show _+1+_<=_;omega);have e3:pre++(a1++⟨#[47]⟩++tL (ix o.Rows k))=pre++a1++⟨#[47]⟩++tL (ix o.Rows k):=by rw [ZoD,ZoD,ZoD]
   rw [e3];simp (disch:=omega) only [pz,Zb1,Zfn,hl,f1,j]
 have c:pre++joinB ((o.Rows.take (0:Int).toNat).map tL) ⟨#[47]⟩=pre:=by
  have:=Zbe pre.data.toList [];rw [Zam,List.append_nil,Zam] at this;exact this
 rw [Int.toNat_natCast,List.take_length] at l;have a3:loop (Zb1 o) (pre,0)=loop (Zb1 o) (pre++joinB (o.Rows.map tL) ⟨#[47]⟩,(o.Rows.length:Int)):=by
  have e2:loop (Zb1 o) (pre++joinB ((o.Rows.take (0:Int).toNat).map tL) ⟨#[47]⟩,0)=_:=l;rwa [c] at e2
 rw [a3];exact Zc (by simp (disch:=omega) only [pz,Zb1])
theorem ZF1 {o:Zf} (h1:1<=o.Kind) (h7:o.Kind<=7) (hs:-9223372036854775808<=o.Size/\o.Size<=9223372036854775807) (h:o.Rows.length<=1048576):
  ∃ t,Zlx o=some t/\(ZaE o=some true->ZmF o=some t)/\t.size<=1154482300/\∃ s:ByteArray,32∉s.data.toList/\t=(((s++⟨#[32]⟩)++itoaB o.Size)++⟨#[32]⟩)++tR o.Rows:=by
 obtain ⟨l,s,n1,n2,n3,n4,n5⟩:=ZFT h1 h7;have d1:=Zec hs.1 hs.2;have d2:=ZcR hs.1 hs.2;have dz:=ZvR (n:=o.Size) 18 ω ω;have ab:(⟨#[32]⟩:ByteArray).size=1:=rfl;have u:gFit s ⟨#[32]⟩=some ():=gFitW ω;have y:gFit (s++⟨#[32]⟩) (itoaB o.Size)=some ():=gFitW (by rw [Zan];omega);have f3:gFit ((s++⟨#[32]⟩)++itoaB o.Size) ⟨#[32]⟩=some ():=gFitW (by rw [Zan,Zan];omega);have hz:=ZIR h;have hp:(((s++⟨#[32]⟩)++itoaB o.Size)++⟨#[32]⟩).size<=100:=by rw [Zan,Zan,Zan];omega
 have f4:gFit (((s++⟨#[32]⟩)++itoaB o.Size)++⟨#[32]⟩) (tR o.Rows)=some ():=gFitW ω;have k1:ZiD o (tR o.Rows)=some ((((s++⟨#[32]⟩)++itoaB o.Size)++⟨#[32]⟩)++tR o.Rows):=by
  unfold ZiD;simp (disch:=omega) only [pz,n3,d2,u,y,f3,f4]
 have e:Zf.mk o.Kind o.Size o.Rows=o:=rfl;refine ⟨(((s++⟨#[32]⟩)++itoaB o.Size)++⟨#[32]⟩)++tR o.Rows,?_,fun hv=>?_,by rw [Zan];omega,s,n5,rfl⟩
 ·unfold Zlx;by_cases c:o.Rows=[]
  ·have er:tR o.Rows=⟨#[110,111,110,101]⟩:=by unfold tR;rw [if_pos c]
   rw [er] at f4 ⊢;have j:(o.Rows.length:Int)=0:=by rw [c];rfl
   simp (disch:=omega) only [pz,n1,n2,d1,u,y,f3,f4]
  ·have j:¬ (o.Rows.length:Int)=0:=by
    intro h0;exact c (List.eq_nil_of_length_eq_zero ω)
   have hr:=ZIe (o:=o) hp h c;simp (disch:=omega) only [pz,n1,n2,d1,u,y,f3,hr]
 ·unfold ZmF;by_cases c:o.Rows=[]
  ·have er:tR o.Rows=⟨#[110,111,110,101]⟩:=by unfold tR;rw [if_pos c]
   rw [er] at k1 ⊢;have j:(o.Rows.length:Int)=0:=by rw [c];rfl
   simp (disch:=omega) only [pz,e,hv,k1]
  ·have j:0<(o.Rows.length:Int):=by
    have:o.Rows.length≠0:=fun h0=>c (List.eq_nil_of_length_eq_zero h0);omega
   have er:tR o.Rows=joinB (o.Rows.map tL) ⟨#[47]⟩:=by unfold tR;rw [if_neg c]
   have e1:=Zh (B:=ZhN o) (fun k:Int=>((o.Rows.take k.toNat).map tL,k)) (i:=0) (n:=o.Rows.length) ω fun k a b=>by
    have a1:=ZpN (ix o.Rows k);have ad:((o.Rows.take k.toNat).map tL).length<=1048576:=by rw [List.length_map,List.length_take];omega
    rw [ZeS a b];have hg:gApp 16 ((o.Rows.take k.toNat).map tL) [tL (ix o.Rows k)]=some ((o.Rows.take k.toNat).map tL++[tL (ix o.Rows k)]):=gApp1 ω ω;simp (disch:=omega) only [pz,ZhN,a1,hg]
   rw [Int.toNat_natCast,List.take_length] at e1;have hq:=ZnH (l:=o.Rows.map tL) (s:=⟨#[47]⟩) (by rw [List.length_map];omega) (by rw [<-er];omega);rw [er] at k1;have e2:loop (ZhN o) ([],0)=some ((((s++⟨#[32]⟩)++itoaB o.Size)++⟨#[32]⟩)++joinB (o.Rows.map tL) ⟨#[47]⟩):=by
    refine Eq.trans e1 (Zc ?_);simp (disch:=omega) only [pz,ZhN,hq,k1]
   rw [er];simp (disch:=omega) only [pz,e,hv,e2]
set_option linter.unusedSectionVars false
theorem Zr4 {l:List Int} {lo hi:Int} (h:Rising l lo hi) {i:Int} (c:0<=i):∀ (d:Nat) (j:Int),j=i+1+d->j<(l.length:Int)->ix l i<ix l j
 | 0,j,hj,hl=>by
  have:=(h j ω hl).2 ω;rw [show j-1=i by omega] at this;exact this
 | d+1,j,hj,hl=>by
  have:=(h j ω hl).2 ω;have k:=Zr4 h c d (j-1) ω ω;omega
theorem ZGs {l:List Int} {lo hi:Int} (h:Rising l lo hi) {i j:Int} (c:0<=i) (h1:i<j) (k:j<(l.length:Int)):ix l i<ix l j:=Zr4 h c (j-i-1).toNat j ω k
def cntB (bs:List (List Int)) (p:List Int->Bool):Nat->Int
 | 0=>0
 | n+1=>cntB bs p n+if p (ix bs n) then 1 else 0
section
variable {d:Zae} (hv:ValidD d)
include hv
end
def eT (e:Zb):ByteArray:=itoaB e.A++⟨#[45]⟩++itoaB e.B
noncomputable def gT (g:Za):ByteArray:=tL g.Colors++⟨#[59]⟩++joinB (g.Edges.map eT) ⟨#[44]⟩
section
variable {g:Za} (hg:ValidG g)
include hg
theorem Zn7 {k:Int} (k0:0<=k) (k1:k<(g.Edges.length:Int)):InR (ix g.Edges k).A/\InR (ix g.Edges k).B:=by
 have:=(hg.edg k k0 k1).1;have:=hg.cl;unfold InR;omega
theorem Ztn {k:Int} (k0:0<=k) (k1:k<(g.Edges.length:Int)):(eT (ix g.Edges k)).size<=21:=by
 obtain ⟨h1,c⟩:=Zn7 hg k0 k1;have:=Za0 h1;have:=Za0 c;unfold eT;rw [Zan,Zan];show _+1+_<=21;omega
theorem Zti (i:Nat):(joinB ((g.Edges.take i).map eT) ⟨#[44]⟩).size<=22*512:=by
 refine jsize (xs:=g.Edges) (f:=eT) (s:=⟨#[44]⟩) (m:=21) (N:=512) (fun x c=>?_) (by have:=hg.el;omega) i;obtain ⟨i,a,b,rfl⟩:=ZR c;exact Ztn hg a b
theorem ZAK:ZlC g=some (gT g):=by
 unfold ZlC;have a9:=Zhi g.Colors;have aa:=hg.el;have y:gFit (tL g.Colors) ⟨#[59]⟩=some ():=gFitW (by show _+1<=_;omega);have hP:(tL g.Colors++(⟨#[59]⟩:ByteArray)).size<=1101:=by rw [Zan];show _+1<=_;omega
 have hl:=Zwo g.Colors;have e:loop (ZeZ g) (tL g.Colors++(⟨#[59]⟩:ByteArray),0)=some (gT g):=by
  unfold gT;generalize tL g.Colors++(⟨#[59]⟩:ByteArray)=P at hP;have h:=Zh (B:=ZeZ g) (fun k:Int=>(P++joinB ((g.Edges.take k.toNat).map eT) ⟨#[44]⟩,k)) (i:=0) (n:=g.Edges.length) ω fun k k0 k1=>by
   obtain ⟨hA,hB⟩:=Zn7 hg k0 k1;have dA:=Zec (n:=(ix g.Edges k).A) (by have:=hA.1;omega) (by have:=hA.2;omega);have dB:=Zec (n:=(ix g.Edges k).B) (by have:=hB.1;omega) (by have:=hB.2;omega);have zA:=Za0 hA;have zB:=Za0 hB;have hj:=Zti hg k.toNat;have l:gFit (itoaB (ix g.Edges k).A) ⟨#[45]⟩=some ():=gFitW (by show _+1<=_;omega);have o:gFit (itoaB (ix g.Edges k).A++⟨#[45]⟩) (itoaB (ix g.Edges k).B)=some ():=gFitW (by rw [Zan];show _+1+_<=_;omega);have hz:(itoaB (ix g.Edges k).A++⟨#[45]⟩++itoaB (ix g.Edges k).B).size<=21:=Ztn hg k0 k1;have a0:eT (ix g.Edges k)=itoaB (ix g.Edges k).A++⟨#[45]⟩++itoaB (ix g.Edges k).B:=rfl;by_cases s:k=0
   ·subst s;rw [Znu ω,a0];have c:P++joinB ((g.Edges.take (0:Int).toNat).map eT) ⟨#[44]⟩=P:=ByteArray.append_empty;rw [c];have j:gFit P (itoaB (ix g.Edges 0).A++⟨#[45]⟩++itoaB (ix g.Edges 0).B)=some ():=gFitW ω;simp (disch:=omega) only [pz,ZeZ,Zgg,dA,dB,l,o,j]
   ·rw [Zpy ω ω,a0];generalize joinB ((g.Edges.take k.toNat).map eT) ⟨#[44]⟩=J at hj;have ea:∀ E:ByteArray,P++(J++⟨#[44]⟩++E)=P++J++⟨#[44]⟩++E:=fun E=>by rw [<-ByteArray.append_assoc,<-ByteArray.append_assoc]
    rw [ea];have a5:(P++J).size<=20000:=by rw [Zan];omega
    generalize P++J=Q at a5 ⊢;have j:gFit Q ⟨#[44]⟩=some ():=gFitW (by show _+1<=_;omega);have f4:gFit (Q++⟨#[44]⟩) (itoaB (ix g.Edges k).A++⟨#[45]⟩++itoaB (ix g.Edges k).B)=some ():=gFitW (by rw [Zan];show _+1+_<=_;omega);simp (disch:=omega) only [pz,ZeZ,Zgg,dA,dB,l,o,j,f4]
  have c:(P,(0:Int))=(fun k:Int=>(P++joinB ((g.Edges.take k.toNat).map eT) ⟨#[44]⟩,k)) 0:=by
   have u:P++joinB ((g.Edges.take (0:Int).toNat).map eT) ⟨#[44]⟩=P:=ByteArray.append_empty;dsimp only;rw [u]
  rw [c,h];refine Zc ?_;rw [Int.toNat_natCast,List.take_length];simp (disch:=omega) only [pz,ZeZ]
 simp (disch:=omega) only [pz,hl,y,e]
theorem ZDL:Zkq g=some (gT g):=by
 unfold Zkq;have a8:=Zhi g.Colors;have aa:=hg.el;have a9:=hg.cl;have hv:=(ZmD (g:=g) ω ω).eq hg;have j:gFit (tL g.Colors) ⟨#[59]⟩=some ():=gFitW (by show _+1<=_;omega);have hP:(tL g.Colors++(⟨#[59]⟩:ByteArray)).size<=1101:=by rw [Zan];show _+1<=_;omega
 have hl:=ZpN g.Colors;have hj:=Zti hg g.Edges.length;rw [List.take_length] at hj;have c:=ZnH (l:=g.Edges.map eT) (s:=⟨#[44]⟩) (by rw [List.length_map];omega) (Nat.le_trans hj (by decide));have e:loop (Zgh g) ([],0)=some (gT g):=by
  have h:=Zh (B:=Zgh g) (fun k:Int=>((g.Edges.take k.toNat).map eT,k)) (i:=0) (n:=g.Edges.length) ω fun k k0 k1=>by
   obtain ⟨hA,hB⟩:=Zn7 hg k0 k1;have dA:=ZcR (n:=(ix g.Edges k).A) (by have:=hA.1;omega) (by have:=hA.2;omega);have dB:=ZcR (n:=(ix g.Edges k).B) (by have:=hB.1;omega) (by have:=hB.2;omega);have zA:=Za0 hA;have zB:=Za0 hB;have o:gFit (itoaB (ix g.Edges k).A) ⟨#[45]⟩=some ():=gFitW (by show _+1<=_;omega);have u:gFit (itoaB (ix g.Edges k).A++⟨#[45]⟩) (itoaB (ix g.Edges k).B)=some ():=gFitW (by rw [Zan];show _+1+_<=_;omega);have a5:eT (ix g.Edges k)=itoaB (ix g.Edges k).A++⟨#[45]⟩++itoaB (ix g.Edges k).B:=rfl;have a4:((g.Edges.take k.toNat).map eT).length<=512:=by rw [List.length_map,List.length_take];omega
   rw [ZdK k0 k1,a5];generalize (g.Edges.take k.toNat).map eT=X at a4 ⊢;have a3:gApp 16 X [itoaB (ix g.Edges k).A++⟨#[45]⟩++itoaB (ix g.Edges k).B]=some (X++[itoaB (ix g.Edges k).A++⟨#[45]⟩++itoaB (ix g.Edges k).B]):=gApp1 ω ω;simp (disch:=omega) only [pz,Zgh,dA,dB,o,u,a3]
  refine h.trans (Zc ?_);rw [Int.toNat_natCast,List.take_length];unfold gT;generalize joinB (g.Edges.map eT) ⟨#[44]⟩=J at hj c ⊢;have y:gFit (tL g.Colors++⟨#[59]⟩) J=some ():=gFitW ω;simp (disch:=omega) only [pz,Zgh,hl,j,c,y]
 simp (disch:=omega) only [pz,hv,e]
end
theorem ZFM (B:Int):ZmY B=some (decide (1<=B/\B<=20000)):=by
 unfold ZmY;rw [in_ok];rfl
theorem Znh (B:Int):ZfB B=some (decide (1<=B/\B<=20000)):=by
 unfold ZfB;rw [ZT];rfl
def s00:CSt:=⟨⟨[],[]⟩,[],0,0,false⟩
theorem ZDP {g:Za} (hg:ValidG g) {B:Int} (h1:1<=B) (j:B<=20000):∃ r,Ze5 g B=some r/\Ze7 g B=some r:=by
 have am:=hg.cl;have ao:=hg.el;have ab:=(ZoG (g:=g) ω ω).eq hg;have ad:=(ZmD (g:=g) ω ω).eq hg;have a6:=ZFM B;have a9:=Znh B;rw [decide_eq_true (And.intro h1 j)] at a6 a9;have a7:=ZIO hg;have a8:=ZHF hg;have ae:=Zpe hg;have a5:=Zm0 g;have a2:=Zv1 (near:=nearM g) (c:=g.Colors) ae a5.symm;have a3:=Zwu (near:=nearM g) (c:=g.Colors) ae a5.symm;have hC:=Cel.ref (near:=nearM g) (cells:=g.Colors) a5.symm;have hi:CInv B 0 s00:=⟨by show (0:Int)<=0+0;omega,by show (0:Int)<=0;omega,by show (0:Int)<=0;omega,by show (0:Int)<=B;omega⟩
 have i:Bst g s00:=fun h=>absurd rfl h;have hm:(nearM g).length+1<=fuel:=by unfold fuel;omega
 have hd:(nearM g).length<(nearM g).length+1+cnt (refN (nearM g) g.Colors):=ω;have rs:=Zt4 hg j ((nearM g).length+1) fuel (refN (nearM g) g.Colors) s00 0 hm hC hd ω hi i;have ri:=Zu2 hg j ((nearM g).length+1) fuel (refN (nearM g) g.Colors) s00 0 hm hC hd ω hi i;obtain ⟨k,ac⟩:=Zlf (g:=g) a5 B ((nearM g).length+1) (refN (nearM g) g.Colors) s00 hC hd i;generalize srch g (nearM g) B ((nearM g).length+1) (refN (nearM g) g.Colors) s00=s at rs ri k ac;have eG:Za.mk g.Colors g.Edges=g:=rfl;have u:spS g (nearM g) B s00=⟨g,nearM g,⟨[],[]⟩,[],0,0,B,false⟩:=rfl;have y:ipS g (nearM g) B s00=⟨⟨B,false⟩,g,nearM g,0,0,⟨[],[]⟩,[]⟩:=by
  show Zt.mk ⟨B-0,false⟩ _ _ _ _ _ _=_;rw [Int.sub_zero];rfl
 rw [u] at rs;rw [y] at ri;have a1:ZpW ⟨g,nearM g,⟨[],[]⟩,[],0,0,B,false⟩ (refN (nearM g) g.Colors)=some (spS g (nearM g) B s):=rs;have a4:Zql ⟨⟨B,false⟩,g,nearM g,0,0,⟨[],[]⟩,[]⟩ (refN (nearM g) g.Colors)=some (ipS g (nearM g) B s):=ri;unfold Ze5 Ze7 Zju Zki Zj9 Zot;generalize nearM g=near at a7 a8 a2 a3 a1 a4;generalize refN near g.Colors=c0 at a2 a3 a1 a4;by_cases hf:s.full=true
 ·refine ⟨(⟨#[]⟩,5),?_,?_⟩
  ·simp (disch:=omega) only [pz,eG,ab,a6,a7,a2,a1,spS,hf]
  ·simp (disch:=omega) only [pz,eG,ad,a9,a8,a3,a4,ipS,hf]
 ·have hf:s.full=false:=by simpa using hf
  have o:=ac hf;obtain ⟨p,hp,ai⟩:=k o;have af:ValidG s.best:=by rw [ai];exact ZmR hg hp
  have ts:=ZAK af;have ti:=ZDL af;have eB:Za.mk s.best.Colors s.best.Edges=s.best:=rfl;have hx:gIdx s.perms 0=some (ix s.perms 0):=ZhU ω (by cases hh:s.perms with|nil=>exact absurd hh o|cons a l=>simp);refine ⟨(gT s.best,0),?_,?_⟩
  ·simp (disch:=omega) only [pz,eG,ab,a6,a7,a2,a1,spS,hf,eB,ts]
  ·simp (disch:=omega) only [pz,eG,ad,a9,a8,a3,a4,ipS,hf,eB,ti,hx]
theorem ZCf {g:Za} (i:g.Colors.length<=1000000) (he:g.Edges.length<=1000000) {B:Int} (h1:1<=B) (c:B<=20000):∃ r,Ze5 g B=some r/\Ze7 g B=some r:=by
 by_cases hg:ValidG g
 ·exact ZDP hg h1 c
 ·have l:=(ZoG (g:=g) ω ω).ne hg;have k:=(ZmD (g:=g) ω ω).ne hg;have j:Za.mk g.Colors g.Edges=g:=rfl;refine ⟨(⟨#[]⟩,1),?_,?_⟩
  ·unfold Ze5 Zj9;simp (disch:=omega) only [pz,j,l]
  ·unfold Ze7 Zju Zki;simp (disch:=omega) only [pz,j,k]
def wd (f:Ze) (q w:Int) (m:List (List Int)):Nat->Int->List Int
 | 0,_=>tabl w fun _=>0
 | i+1,n=>tabl w fun t=>sumA f (ix (wd f q w m i (n/q)) t) (mulA f (ix (ix m (i:Int)) t) (n%q)) 1
section
variable {f:Ze} {q:Int} {inv:List Int} (hF:Ff f q inv)
include hF
theorem add0 {a:Int} (c:0<=a) (i:a<q):sumA f a 0 1=a:=by
 have h:=hF.sub a 0 c i ω ω;rw [hF.z2 0 ω ω,hF.z2 a c i] at h;exact h.symm
variable {w:Int} {m:List (List Int)}
theorem Zie (w0:0<=w):∀ (i:Nat) (n:Int),((wd f q w m i n).length:Int)=w
 | 0,_=>by rw [wd,Zj];omega
 | i+1,_=>by rw [wd,Zj];omega
theorem wd_in (w0:0<=w):∀ (i:Nat) (n:Int),In q (wd f q w m i n)
 | 0,n=>fun t c j=>by
  have:=Zie hF (m:=m) w0 0 n;have:=hF.q2;rw [wd,ZG c ω];omega
 | i+1,n=>fun t c j=>by
  have:=Zie hF (m:=m) w0 (i+1) n;rw [wd,ZG c ω];exact ZlF hF.fd hF.pw _ _ _
variable (hm:Mat q w m)
include hm
end
def wtN (r:List Int):Nat->Int
 | 0=>0
 | n+1=>wtN r n+if ix r (n:Int)=0 then 0 else 1
def wt (r:List Int):Int:=wtN r r.length
theorem gAppV {xs:List (List Int)} {y:List Int} (h:xs.length<=100000):gApp 24 xs [y]=some (xs++[y]):=gApp1 ω ω
theorem ZIJ {xs:List Int} (hl:xs.length<=1000):ZjD xs=some (tabl xs.length fun t=>ix xs ((xs.length:Int)-1-t)):=by
 unfold ZjD;have e:=Zh (B:=ZgW) (fun i:Int=>(i,(xs.length:Int)-1-i,tabl xs.length fun t=>if t<i\/(xs.length:Int)-1-i<t then ix xs ((xs.length:Int)-1-t) else ix xs t)) (i:=0) (n:=(xs.length:Int)/2) ω fun i k u=>by
  have hL:((tabl xs.length fun t=>if t<i\/(xs.length:Int)-1-i<t then ix xs ((xs.length:Int)-1-t) else ix xs t).length:Int)=xs.length:=by rw [Zj];omega
  have x1:ix (tabl xs.length fun t=>if t<i\/(xs.length:Int)-1-i<t then ix xs ((xs.length:Int)-1-t) else ix xs t) i=ix xs i:=by rw [ZG k ω,if_neg ω]
  have x2:ix (tabl xs.length fun t=>if t<i\/(xs.length:Int)-1-i<t then ix xs ((xs.length:Int)-1-t) else ix xs t) ((xs.length:Int)-1-i)=ix xs ((xs.length:Int)-1-i):=by rw [ZG ω ω,if_neg ω]
  have hs:((tabl xs.length fun t=>if t<i\/(xs.length:Int)-1-i<t then ix xs ((xs.length:Int)-1-t) else ix xs t).set i.toNat (ix xs ((xs.length:Int)-1-i))).set ((xs.length:Int)-1-i).toNat (ix xs i)=tabl xs.length fun t=>if t<i+1\/(xs.length:Int)-1-(i+1)<t then ix xs ((xs.length:Int)-1-t) else ix xs t:=by
   rw [Zaj (n:=(xs.length:Int)) (f:=fun t=>if t<i\/(xs.length:Int)-1-i<t then ix xs ((xs.length:Int)-1-t) else ix xs t) (g:=fun t=>if t<i+1\/(xs.length:Int)-1-i<t then ix xs ((xs.length:Int)-1-t) else ix xs t) k ω (fun t c j ht=>by
    by_cases h:t<i\/(xs.length:Int)-1-i<t
    ·rw [if_pos h,if_pos ω]
    ·rw [if_neg h,if_neg ω]) (by rw [if_pos ω])]
   refine Zaj ω ω (fun t c j ht=>?_) ?_
   ·by_cases h:t<i+1\/(xs.length:Int)-1-i<t
    ·rw [if_pos h,if_pos ω]
    ·rw [if_neg h,if_neg ω]
   ·rw [if_pos ω,show (xs.length:Int)-1-((xs.length:Int)-1-i)=i by omega]
  have ej:(xs.length:Int)-1-i-1=(xs.length:Int)-1-(i+1):=ω;generalize (tabl xs.length fun t=>if t<i\/(xs.length:Int)-1-i<t then ix xs ((xs.length:Int)-1-t) else ix xs t)=A at hL x1 x2 hs ⊢;have l:(A.set i.toNat (ix xs ((xs.length:Int)-1-i))).length=A.length:=List.length_set;simp (disch:=omega) only [pz,ZgW,x1,x2,l,hs,ej]
 have o:((0:Int),ε.wrap ((xs.length:Int)-1),xs)=(fun i:Int=>(i,(xs.length:Int)-1-i,tabl xs.length fun t=>if t<i\/(xs.length:Int)-1-i<t then ix xs ((xs.length:Int)-1-t) else ix xs t)) 0:=by
  show _=((0:Int),_,_);rw [wr64 ω ω];congr 1;congr 1
  ·omega
  ·refine (Zbk xs).symm.trans (ZJ fun t c j=>?_);rw [if_neg ω]
 rw [o,e];have s:(tabl xs.length fun t=>if t<(xs.length:Int)/2\/(xs.length:Int)-1-(xs.length:Int)/2<t then ix xs ((xs.length:Int)-1-t) else ix xs t)=tabl xs.length fun t=>ix xs ((xs.length:Int)-1-t):=ZJ fun t c j=>by
  by_cases h:t<(xs.length:Int)/2\/(xs.length:Int)-1-(xs.length:Int)/2<t
  ·rw [if_pos h]
  ·rw [if_neg h,show (xs.length:Int)-1-t=t by omega]
 refine Zc ?_;simp (disch:=omega) only [pz,ZgW,s]
theorem pw_lo {p:Int} (hp:2<=p) {a b:Nat} (h:a<=b):pwN p a<=pwN p b:=by
 have:=ZiP hp (m:=a) (b-a);rwa [show a+(b-a)=b by omega] at this
theorem pwU {q:Int} (q2:2<=q) {k:Nat} (hk:k<=64) (h:pwN q k<=4096):Zbn q (k:Int) 4096=some (pwN q k):=by
 unfold Zbn;have e:=Zh (B:=ZaR q 4096) (fun j:Int=>((k:Int)-j,pwN q j.toNat)) (i:=0) (n:=(k:Int)) ω fun j o s=>by
  have h1:=pw_lo q2 (a:=j.toNat) (b:=k) ω;have u:=pw_lo q2 (a:=j.toNat+1) (b:=k) ω;have y:=Za6 (p:=q) q2 j.toNat;have h4:=Za6 (p:=q) q2 (j.toNat+1);have ee:(k:Int)-j-1=(k:Int)-(j+1):=ω;have c:pwN q (j+1).toNat=pwN q j.toNat*q:=by rw [show (j+1).toNat=j.toNat+1 by omega];rfl
  have h5:pwN q j.toNat*q<=4096:=by have:pwN q (j.toNat+1)=pwN q j.toNat*q:=rfl;omega
  have h6:1<=pwN q j.toNat*q:=by have:pwN q (j.toNat+1)=pwN q j.toNat*q:=rfl;omega
  rw [c];simp (disch:=omega) only [pz,ZaR,ZeY,ee]
 have l:((k:Int)-0,pwN q (0:Int).toNat)=((k:Int),(1:Int)):=by simp [pwN]
 rw [l] at e;rw [e];exact Zc (by simp (disch:=omega) only [pz,ZaR])
theorem ZxE {q:Int} (q2:2<=q) (q64:q<=64) {k:Nat} (hk:k<=64) {cs:Int} (h:loop (Zby q) ((k:Int),1)=some cs) (l:¬ cs=0):pwN q k<=4096:=by
 have st:∀ j:Nat,pwN q (j+1)=pwN q j*q:=fun _=>rfl;have o:((k:Int),(1:Int))=(fun j:Int=>((k:Int)-j,pwN q j.toNat)) 0:=by simp [pwN]
 rw [o] at h;rcases Za1 (B:=Zby q) (fun j:Int=>((k:Int)-j,pwN q j.toNat)) (fun j=>4096<pwN q (j.toNat+1)) (i:=0) (n:=(k:Int)) ω (fun j s u y=>by
  have h3:=Za6 (p:=q) q2 j.toNat;have h4:=Za6 (p:=q) q2 (j.toNat+1);have ee:(k:Int)-j-1=(k:Int)-(j+1):=ω;have e2:pwN q (j+1).toNat=pwN q j.toNat*q:=by rw [show (j+1).toNat=j.toNat+1 by omega];rfl
  have c:=st j.toNat;rw [e2];rw [c] at y h4;simp (disch:=omega) only [pz,Zby,ee]) with ⟨j,s,u,hj,hall,e⟩|⟨hall,_⟩
 ·refine absurd ?_ l;have h3:=Za6 (p:=q) q2 j.toNat;have h6:pwN q j.toNat<=4096:=by
   by_cases hz:j=0
   ·rw [hz];show (1:Int)<=4096;omega
   ·have:=hall (j-1) ω ω;rw [show (j-1).toNat+1=j.toNat by omega] at this;omega
  have c:=st j.toNat;rw [c] at hj;have h7:pwN q j.toNat*q<=4096*64:=Int.mul_le_mul h6 q64 ω ω;have e1:loop (Zby q) ((k:Int)-j,pwN q j.toNat)=some 0:=by
   refine Zc ?_;simp (disch:=omega) only [pz,Zby]
  rw [e] at h;exact (Option.some.inj (h.symm.trans e1))
 ·by_cases hz:k=0
  ·rw [hz];show (1:Int)<=4096;omega
  ·have:=hall ((k:Int)-1) ω ω;rw [show ((k:Int)-1).toNat+1=k by omega] at this;omega
def cwN (ws:List (List Int)) (w:Int) (m:Nat):List Int:=tabl (w+1) fun y=>cntB ws (fun r=>decide (wt r=y)) m
section
variable {f:Ze} {q:Int} {inv:List Int} (hF:Ff f q inv)
include hF
theorem ZHH {a b:List Int} (ha:In q a) (y:In q b) (hl:(a.length:Int)<=64) (he:b.length=a.length):ZjI f a b=some (tabl a.length fun t=>sumA f (ix a t) (ix b t) 1):=by
 have hq:=hF.q64;have hp:=hF.fd.p2;unfold ZjI;have a0:=Zas (b:=8) (z:=(0:Int)) (n:=(a.length:Int)) ω ω ω;have e:=Zh (B:=Zff f a b) (fun t:Int=>(t,tabl a.length fun u=>if u<t then sumA f (ix a u) (ix b u) 1 else 0)) (i:=0) (n:=(a.length:Int)) ω fun t j k=>by
  obtain ⟨g1,g2⟩:=ha t j k;obtain ⟨g3,g4⟩:=y t j ω;have hL:((tabl a.length fun u=>if u<t then sumA f (ix a u) (ix b u) 1 else 0).length:Int)=a.length:=by rw [Zj];omega
  have hs:(tabl a.length fun u=>if u<t then sumA f (ix a u) (ix b u) 1 else 0).set t.toNat (sumA f (ix a t) (ix b t) 1)=tabl a.length fun u=>if u<t+1 then sumA f (ix a u) (ix b u) 1 else 0:=by
   refine Zaj j k (fun u l o hu=>?_) (by rw [if_pos ω]);by_cases h:u<t
   ·rw [if_pos h,if_pos ω]
   ·rw [if_neg h,if_neg ω]
  generalize (tabl a.length fun u=>if u<t then sumA f (ix a u) (ix b u) 1 else 0)=A at hL hs ⊢;by_cases hz:ix b t=0
  ·rw [hz,add0 hF g1 g2] at hs;simp (disch:=omega) only [pz,Zff,hs]
  ·have hS:=Zr2 hF.fd (a:=ix a t) (b:=ix b t) (c:=1) ω ω ω ω ω ω;simp (disch:=omega) only [pz,Zff,hS,hs]
 have e0:(tabl a.length fun u=>if u<(0:Int) then sumA f (ix a u) (ix b u) 1 else 0)=List.replicate (a.length:Int).toNat 0:=by
  rw [Zd9];exact ZJ fun u l _=>by rw [if_neg ω]
 have e1:(tabl a.length fun u=>if u<(a.length:Int) then sumA f (ix a u) (ix b u) 1 else 0)=tabl a.length fun t=>sumA f (ix a t) (ix b t) 1:=ZJ fun u l o=>by rw [if_pos o]
 rw [e0,e1] at e;have s:loop (Zff f a b) (0,List.replicate (a.length:Int).toNat 0)=some (tabl a.length fun t=>sumA f (ix a t) (ix b t) 1):=e.trans (Zc (by simp (disch:=omega) only [pz,Zff]));rw [Int.toNat_natCast] at a0 s;simp (disch:=omega) only [pz,a0,s]
theorem ZIH {v w:List Int} {c:Int} (hv:In q v) (hw:In q w) (hl:(v.length:Int)<=64) (he:w.length=v.length) (l:0<=c) (c1:c<q):
  ZcN (tabs f q inv) v w c=some (tabl v.length fun t=>sumA f (ix v t) (mulA f (ix w t) c) 1):=by
 have hq:=hF.q64;unfold ZcN;have a0:=Zh (B:=ZbS (tabs f q inv) w c) (fun t=>(t,tabl v.length fun u=>if u<t then sumA f (ix v u) (mulA f (ix w u) c) 1 else ix v u)) (i:=0) (n:=v.length) ω fun t j k=>by
  obtain ⟨g1,g2⟩:=hv t j k;obtain ⟨o,s⟩:=hw t j ω;have a9:(tabl v.length fun u=>if u<t then sumA f (ix v u) (mulA f (ix w u) c) 1 else ix v u).length=v.length:=by rw [Zj];omega
  have y:ix (tabl v.length fun u=>if u<t then sumA f (ix v u) (mulA f (ix w u) c) 1 else ix v u) t=ix v t:=by rw [ZG j k,if_neg ω]
  obtain ⟨m0,m1⟩:=ZcI hF.fd hF.pw c (ix w t);have hs:(tabl v.length fun u=>if u<t then sumA f (ix v u) (mulA f (ix w u) c) 1 else ix v u).set t.toNat (sumA f (ix v t) (mulA f c (ix w t)) 1)=tabl v.length fun u=>if u<t+1 then sumA f (ix v u) (mulA f (ix w u) c) 1 else ix v u:=by
   apply Zaj j k
   ·intro u u0 u1 u2;by_cases h:u<t
    ·rw [if_pos h,if_pos (show u<t+1 by omega)]
    ·rw [if_neg h,if_neg (show ¬ u<t+1 by omega)]
   ·rw [if_pos ω,hF.comm c _ l c1 o s]
  have i2:gIdx (tabs f q inv).qadd (ix v t)=some (tabl q fun b=>sumA f (ix v t) b 1):=by rw [Zwy,Zat g1 g2]
  have i3:gIdx (tabs f q inv).qmul c=some (tabl q fun b=>mulA f c b):=by rw [Zj6,Zat l c1]
  have i4:gIdx (tabl q fun b=>mulA f c b) (ix w t)=some (mulA f c (ix w t)):=Zat o s;have i5:gIdx (tabl q fun b=>sumA f (ix v t) b 1) (mulA f c (ix w t))=some (sumA f (ix v t) (mulA f c (ix w t)) 1):=Zat m0 m1;simp (disch:=omega) only [pz,ZbS,y,i2,i3,i4,i5,hs]
 have e0:((0:Int),v)=(fun t=>(t,tabl v.length fun u=>if u<t then sumA f (ix v u) (mulA f (ix w u) c) 1 else ix v u)) 0:=by
  show _=((0:Int),_);congr 1;refine (Zbk v).symm.trans (ZJ fun t j k=>?_);rw [if_neg ω]
 rw [e0,a0];refine Zc ?_;have e1:(tabl v.length fun u=>if u<(v.length:Int) then sumA f (ix v u) (mulA f (ix w u) c) 1 else ix v u)=tabl v.length fun t=>sumA f (ix v t) (mulA f (ix w t) c) 1:=ZJ fun t j k=>by rw [if_pos k]
 simp (disch:=omega) only [pz,ZbS,e1]
variable {w:Int} {m:List (List Int)} (hm:Mat q w m)
include hm
theorem ZFh (w0:0<=w) (m1:1<=(m.length:Int)) (ai:∀ {g:Ze},True) {n:Int} (n0:0<=n) (n1:n<=4096):
  ∃ a0,ZlA n q (m.length:Int)=some a0/\ZiX (tabs f q inv) m a0=some (wd f q w m m.length n):=by
 have s:=hF.q64;have l:=hF.q2;have af:=hm.n;have a5:=hm.w1;have hd:=Zg8 (p:=q) (a:=n) (k:=(m.length:Int)) n0 ω l s ω ω;have a2:=ZaF (p:=q) (a:=n) (k:=(m.length:Int)) ω;have hr:=ZIJ (xs:=dig q m.length n) ω;refine ⟨_,by unfold ZlA;rw [hd,Option.bind_some,hr,Option.bind_some],?_⟩;rw [a2];have o:=hm.len 0 ω ω;have a6:=Zas (b:=8) (z:=(0:Int)) (n:=w) ω ω ω;generalize hM:(tabl (m.length:Int) fun t=>ix (dig q m.length n) ((m.length:Int)-1-t))=a0;have aj:(a0.length:Int)=m.length:=by rw [<-hM,Zj];omega
 have a3:∀ i,0<=i->i<(m.length:Int)->ix a0 i=qd q n ((m.length:Int)-(i+1)).toNat%q:=fun i c j=>by
  rw [<-hM,ZG c j,show (m.length:Int)-1-i=(m.length:Int)-(i+1) by omega];unfold dig;exact ZG ω ω
 have e:=Zh (B:=Zgk (tabs f q inv) m a0) (fun i:Int=>(i,wd f q w m i.toNat (qd q n ((m.length:Int)-i).toNat))) (i:=0) (n:=(m.length:Int)) ω fun i c j=>by
  have u:=a3 i c j;have ag:=(ZeQ (p:=q) n0 l ((m.length:Int)-(i+1)).toNat).1;have y:=Int.emod_nonneg (qd q n ((m.length:Int)-(i+1)).toNat) (b:=q) ω;have c1:=Int.emod_lt_of_pos (qd q n ((m.length:Int)-(i+1)).toNat) (b:=q) ω;have a4:=Zie hF (m:=m) w0 i.toNat (qd q n ((m.length:Int)-i).toNat);have a8:=wd_in hF (m:=m) w0 i.toNat (qd q n ((m.length:Int)-i).toNat);have ah:=hm.len i c j;have hA:=ZIH hF (v:=wd f q w m i.toNat (qd q n ((m.length:Int)-i).toNat)) (w:=ix m i) a8 (hm.rng i c j) ω ω y c1;have e2:qd q n ((m.length:Int)-i).toNat=qd q n ((m.length:Int)-(i+1)).toNat/q:=by
   rw [show ((m.length:Int)-i).toNat=((m.length:Int)-(i+1)).toNat+1 by omega];rfl
  have e3:wd f q w m (i+1).toNat (qd q n ((m.length:Int)-(i+1)).toNat)=tabl w fun t=>sumA f (ix (wd f q w m i.toNat (qd q n ((m.length:Int)-i).toNat)) t) (mulA f (ix (ix m i) t) (qd q n ((m.length:Int)-(i+1)).toNat%q)) 1:=by
   rw [show (i+1).toNat=i.toNat+1 by omega,wd,e2,show ((i.toNat:Nat):Int)=i by omega]
  rw [e3];rw [a4] at hA;have eT:Z1.mk (tabs f q inv).qq (tabs f q inv).qadd (tabs f q inv).qsub (tabs f q inv).qmul (tabs f q inv).qinv=tabs f q inv:=rfl;rw [<-u] at hA ⊢;generalize tabs f q inv=T at hA eT ⊢;generalize wd f q w m i.toNat (qd q n ((m.length:Int)-i).toNat)=V at hA ⊢;simp (disch:=omega) only [pz,Zgk,eT,hA]
 have e0:wd f q w m (0:Int).toNat (qd q n ((m.length:Int)-0).toNat)=List.replicate w.toNat 0:=by
  rw [Zd9];rfl
 have e9:wd f q w m (m.length:Int).toNat (qd q n ((m.length:Int)-(m.length:Int)).toNat)=wd f q w m m.length n:=by
  rw [Int.sub_self,Int.toNat_natCast];rfl
 rw [e0,e9] at e;have e1:loop (Zgk (tabs f q inv) m a0) (0,List.replicate w.toNat 0)=some (wd f q w m m.length n):=e.trans (Zc (by simp (disch:=omega) only [pz,Zgk]));unfold ZiX;simp (disch:=omega) only [pz,o,a6,e1]
theorem ZAn (w0:0<=w) (j:1<=(m.length:Int)) (hs:Zbj f=some q) (hN:pwN q m.length<=4096):ZiQ ⟨f,m⟩=some (tabl (pwN q m.length) (wd f q w m m.length)):=by
 have a3:=hm.n;have ht:=ZvO hF hs;have hp:=pwU hF.q2 (k:=m.length) ω hN;have hP:=Za6 (p:=q) hF.q2 m.length;have e:=Zh (B:=Zhd ⟨f,m⟩ (tabs f q inv) m.length (pwN q m.length)) (fun n:Int=>(tabl n (wd f q w m m.length),n)) (i:=0) (n:=pwN q m.length) ω fun n n0 n1=>by
  obtain ⟨a4,h1,c⟩:=ZFh hF hm w0 j (fun {_}=>trivial) n0 ω;have eT:Z1.mk (tabs f q inv).qq (tabs f q inv).qadd (tabs f q inv).qsub (tabs f q inv).qmul (tabs f q inv).qinv=tabs f q inv:=rfl;have o:(tabs f q inv).qq=q:=rfl;have u:Z1.mk q (tabs f q inv).qadd (tabs f q inv).qsub (tabs f q inv).qmul (tabs f q inv).qinv=tabs f q inv:=rfl;have hl:(tabl n (wd f q w m m.length)).length=n.toNat:=Zj;have hg:=gAppV (xs:=tabl n (wd f q w m m.length)) (y:=wd f q w m m.length n) ω;rw [<-ZU n0] at hg;generalize tabs f q inv=T at c eT u o ⊢;simp (disch:=omega) only [pz,Zhd,u,o,h1,c,hg]
 have l:loop (Zhd ⟨f,m⟩ (tabs f q inv) m.length (pwN q m.length)) ([],0)=some (tabl (pwN q m.length) (wd f q w m m.length)):=e.trans (Zc (by simp (disch:=omega) only [pz,Zhd]));have eF:Ze.mk f.Prime f.Degree f.Poly=f:=rfl;have o:(tabs f q inv).qq=q:=rfl;unfold ZiQ;simp (disch:=omega) only [pz,eF,ht,Z0,o,hp,l]
theorem ZIj (w0:0<=w) (m1:1<=(m.length:Int)) (hs:Zbq f=some q) (hN:pwN q m.length<=4096):ZjU ⟨f,m⟩=some (tabl (pwN q m.length) (wd f q w m m.length)):=by
 have au:=hm.n;have a7:=hm.w1;have c:=hF.q2;have a0:=hF.q64;have eF:Ze.mk f.Prime f.Degree f.Poly=f:=rfl;have l:=hm.len 0 ω ω;have aa:=Zas (b:=8) (z:=(0:Int)) (n:=w) ω ω ω;have e:=Zh (B:=ZfY ⟨f,m⟩ q) (fun i:Int=>(tabl (pwN q i.toNat) (wd f q w m i.toNat),i)) (i:=0) (n:=(m.length:Int)) ω fun i o s=>by
  have aw:=hm.len i o s;have ad:=hm.rng i o s;have a6:=Za6 (p:=q) c i.toNat;have ag:pwN q i.toNat*q<=4096:=by
   have h1:pwN q (i.toNat+1)=pwN q i.toNat*q:=rfl;have h2:=pw_lo c (a:=i.toNat+1) (b:=m.length) ω;omega
  have eP:pwN q (i+1).toNat=pwN q i.toNat*q:=by rw [show (i+1).toNat=i.toNat+1 by omega];rfl
  have hY:((tabl (pwN q i.toNat) (wd f q w m i.toNat)).length:Int)=pwN q i.toNat:=by rw [Zj];omega
  have a1:∀ k,0<=k->k<pwN q i.toNat->ix (tabl (pwN q i.toNat) (wd f q w m i.toNat)) k=wd f q w m i.toNat k:=fun k k0 k1=>ZG k0 k1;have hM:((tabl q fun x=>scl f (ix m i) x).length:Int)=q:=by rw [Zj];omega
  have a4:∀ x,0<=x->x<q->ix (tabl q fun x=>scl f (ix m i) x) x=scl f (ix m i) x:=fun x x0 x1=>ZG x0 x1;rw [eP];generalize ac:tabl (pwN q i.toNat) (wd f q w m i.toNat)=Y at hY a1 ⊢;generalize pwN q i.toNat=P at a6 ag hY a1 ac ⊢;have ax:P*1<=P*q:=Int.mul_le_mul_of_nonneg_left ω ω;have b4:∀ k,0<=k->k<P->loop (ZgK ⟨f,m⟩ q Y (tabl q fun x=>scl f (ix m i) x) k) (tabl (k*q) (wd f q w m (i+1).toNat),0)=some (.inl (tabl ((k+1)*q) (wd f q w m (i+1).toNat),k+1)):=fun k k0 k1=>by
   have av:0<=k*q:=Int.mul_nonneg k0 ω;have a8:(k+1)*q<=P*q:=Int.mul_le_mul_of_nonneg_right ω ω;have u:(k+1)*q=k*q+q:=by rw [Int.add_mul,Int.one_mul]
   have e:=Zh (B:=ZgK ⟨f,m⟩ q Y (tabl q fun x=>scl f (ix m i) x) k) (fun x:Int=>(tabl (k*q+x) (wd f q w m (i+1).toNat),x)) (i:=0) (n:=q) ω fun x x0 x1=>by
    have hl:((tabl (k*q+x) (wd f q w m (i+1).toNat)).length:Int)=k*q+x:=by rw [Zj];omega
    have ah:=a1 k k0 k1;have a9:=a4 x x0 x1;have a5:=Zie hF (m:=m) w0 i.toNat k;have af:=wd_in hF (m:=m) w0 i.toNat k;have ay:(scl f (ix m i) x).length=(ix m i).length:=Zgz;have a2:=ZHH hF (a:=wd f q w m i.toNat k) (b:=scl f (ix m i) x) af (ZlY hF) ω ω;have eW:(tabl ((wd f q w m i.toNat k).length:Int) fun t=>sumA f (ix (wd f q w m i.toNat k) t) (ix (scl f (ix m i) x) t) 1)=wd f q w m (i+1).toNat (k*q+x):=by
     rw [show (i+1).toNat=i.toNat+1 by omega,wd,a5];have j:(k*q+x)/q=k:=by rw [Int.add_comm,Int.add_mul_ediv_right _ _ ω,Int.ediv_eq_zero_of_lt x0 x1];omega
     have e2:(k*q+x)%q=x:=by rw [Int.add_comm,Int.add_mul_emod_self_right,Int.emod_eq_of_lt x0 x1]
     rw [j,e2,show ((i.toNat:Nat):Int)=i by omega];refine ZJ fun t t0 t1=>?_;congr 1;exact ZG t0 ω
    rw [eW] at a2;have hg:=gAppV (xs:=tabl (k*q+x) (wd f q w m (i+1).toNat)) (y:=wd f q w m (i+1).toNat (k*q+x)) ω;rw [<-ZU ω] at hg;have ea:k*q+(x+1)=k*q+x+1:=ω;rw [ea];simp (disch:=omega) only [pz,ZgK,ah,a9,eF,a2,hg]
   rw [Int.add_zero] at e;rw [e,u];exact Zc (by simp (disch:=omega) only [pz,ZgK])
  have b3:loop (Zht ⟨f,m⟩ q Y i (tabl q fun x=>scl f (ix m i) x)) ([],0)=some (.inr (.inl (tabl (P*q) (wd f q w m (i+1).toNat),i+1))):=by
   have e:=Zh (B:=Zht ⟨f,m⟩ q Y i (tabl q fun x=>scl f (ix m i) x)) (fun k:Int=>(tabl (k*q) (wd f q w m (i+1).toNat),k)) (i:=0) (n:=P) ω fun k k0 k1=>by
    have:=b4 k k0 k1;simp (disch:=omega) only [pz,Zht,this]
   rw [Int.zero_mul] at e;exact e.trans (Zc (by simp (disch:=omega) only [pz,Zht]))
  have b2:loop (Zij ⟨f,m⟩ q Y i) ([],0)=some (.inl (tabl (P*q) (wd f q w m (i+1).toNat),i+1)):=by
   have e:=Zh (B:=Zij ⟨f,m⟩ q Y i) (fun x:Int=>(tabl x fun x=>scl f (ix m i) x,x)) (i:=0) (n:=q) ω fun x x0 x1=>by
    have ae:=Zvt hF ad ω x0 x1;have hl:((tabl x fun x=>scl f (ix m i) x).length:Int)=x:=by rw [Zj];omega
    have hg:=gAppV (xs:=tabl x fun x=>scl f (ix m i) x) (y:=scl f (ix m i) x) ω;rw [<-ZU (f:=fun x=>scl f (ix m i) x) x0] at hg;simp (disch:=omega) only [pz,Zij,eF,ae,hg]
   exact e.trans (Zc (by simp (disch:=omega) only [pz,Zij,b3]))
  simp (disch:=omega) only [pz,ZfY,b2]
 have e0:tabl (pwN q (0:Int).toNat) (wd f q w m (0:Int).toNat)=[List.replicate w.toNat 0]:=by
  rw [Zd9];rfl
 rw [e0,Int.toNat_natCast] at e;have j:loop (ZfY ⟨f,m⟩ q) ([List.replicate w.toNat 0],0)=some (tabl (pwN q m.length) (wd f q w m m.length)):=e.trans (Zc (by simp (disch:=omega) only [pz,ZfY]));unfold ZjU;simp (disch:=omega) only [pz,eF,l,aa,hs,j]
end
structure CodeV (o:Zf) (f:Ze) (inv:List Int):Prop where
 F:Ff f o.Size inv
 si:Zbj f=some o.Size
 ss:Zbq f=some o.Size
 M:VMat o.Size o.Rows
 r8:(o.Rows.length:Int)<=8
 few:pwN o.Size o.Rows.length<=4096
 form:Ziq f o.Rows=some o.Rows
 cs:ZbD o=some ⟨f,o.Rows⟩
 ci:Zb5 o=some ⟨f,o.Rows⟩
 oks:ZaG ⟨f,o.Rows⟩=some true
 oki:Zcx ⟨f,o.Rows⟩=some true
theorem Zzf {o:Zf} (hs:Sz2 o.Rows) (h:ZaA o=some true) (hk:o.Kind=5):∃ f inv,CodeV o f inv:=by
 obtain ⟨cs,ci,b,j,y,c,g4⟩:=ZnB hs;have e2:ZW.mk (Ze.mk cs.Field.Prime cs.Field.Degree cs.Field.Poly) cs.Rows=cs:=rfl;have hb:ZaA o=some b:=by unfold ZaA;simp (disch:=omega) only [pz,j,e2,c]
 rw [h] at hb;obtain rfl:b=true:=(Option.some.inj hb).symm;rcases Zuo o.Size with ⟨f,hm⟩|⟨h1,e,h2⟩
 ·obtain ⟨inv,hF⟩:=ZrV hm.gf;have eF:Ze.mk f.Prime f.Degree f.Poly=f:=rfl;have l:ZbD o=some ⟨f,o.Rows⟩:=by
   have hp:=hF.fd.p2;unfold ZbD;rw [hm.split];simp (disch:=omega) only [pz,hm.mks,eF]
  have a2:Zb5 o=some ⟨f,o.Rows⟩:=by
   unfold Zb5;rw [Zbb hs,hm.mki];simp (disch:=omega) only [pz,eF]
  rw [l] at j;rw [a2] at y;obtain rfl:=Option.some.inj j;obtain rfl:=Option.some.inj y;have s:=hF.q2;have i:=hF.q64;have hN:=hs.1;by_cases hV:VMat o.Size o.Rows
  ·have k:=(ZiZ hm s i hs).eq hV;have n1:=hV.n1;have w2:=hV.w2;have w1:=hV.w1;by_cases h8:(o.Rows.length:Int)<=8
   ·obtain ⟨cs,ci,k1,k2,k3⟩:=ZnK s i o.Rows.length 1 ω ω ω;have c1:Zjt o.Size (o.Rows.length:Int)=some cs:=k1;by_cases hz:cs=0
    ·have:ZaG ⟨f,o.Rows⟩=some false:=by
      unfold ZaG Zdo;simp (disch:=omega) only [pz,eF,k,hm.szs,c1]
     rw [this] at c;cases c
    ·have a3:=ZxE s i ω k1 hz;obtain ⟨R,piv,d,u,r2,r3,r4⟩:=Zum hF hs hV.mat ω n1;obtain ⟨b,s1,s3⟩:=ZoV (a:=R) (b:=o.Rows) ω r4;have:ZaG ⟨f,o.Rows⟩=some b:=by
      unfold ZaG Zdo;simp (disch:=omega) only [pz,eF,k,hm.szs,c1,u,s1]
     rw [this] at c;rw [s3.1 (Option.some.inj c)] at u;exact ⟨f,inv,hF,hm.szi,hm.szs,hV,h8,a3,u,l,a2,by rw [this,c],g4⟩
   ·have:ZaG ⟨f,o.Rows⟩=some false:=by
     unfold ZaG Zdo;simp (disch:=omega) only [pz,eF,k]
    rw [this] at c;cases c
  ·have k:=(ZiZ hm s i hs).ne hV;have:ZaG ⟨f,o.Rows⟩=some false:=by
    unfold ZaG Zdo;simp (disch:=omega) only [pz,eF,k]
   rw [this] at c;cases c
 ·have l:ZbD o=some ⟨⟨0,0,[]⟩,[]⟩:=by
   unfold ZbD;rw [h1];simp (disch:=omega) only [pz,]
  rw [l] at j;obtain rfl:=Option.some.inj j;have:ZaG ⟨⟨0,0,[]⟩,[]⟩=some false:=rfl;rw [this] at c;cases c
def bipR (v m:Int) (rel:Int->Int->Bool) (x:Int):List Zb:=((idP m).filter fun i=>rel x i).map fun i=>⟨x,v+i⟩
def bipK (v m:Int) (rel:Int->Int->Bool) (k:Int):List Zb:=(idP k).flatMap (bipR v m rel)
theorem Zlm (v m:Int) (rel:Int->Int->Bool) (x:Int):(bipR v m rel x).length<=m.toNat:=by
 unfold bipR;rw [List.length_map];have:=List.length_filter_le (fun i=>rel x i) (idP m);rwa [Zai] at this
theorem Zsk {v k:Int} {rel:Int->Int->Bool} {x:Int} (h:0<=k):bipR v (k+1) rel x=bipR v k rel x++(if rel x k=true then [⟨x,v+k⟩] else []):=by
 unfold bipR idP;rw [ZU h,List.filter_append,List.map_append];by_cases c:rel x k=true
 ·rw [if_pos c];simp [c]
 ·rw [if_neg c];simp [c]
theorem Zjg {v m k:Int} {rel:Int->Int->Bool} (h:0<=k):bipK v m rel (k+1)=bipK v m rel k++bipR v m rel k:=by
 unfold bipK idP;rw [ZU h,List.flatMap_append];simp
theorem ZGS {v m k:Int} {rel:Int->Int->Bool} {e:Zb}:e∈bipK v m rel k↔(0<=e.A/\e.A<k)/\∃ i,(0<=i/\i<m)/\rel e.A i=true/\e.B=v+i:=by
 unfold bipK bipR;rw [List.mem_flatMap];constructor
 ·rintro ⟨a,o,he⟩;obtain ⟨i,hi,rfl⟩:=List.mem_map.1 he;rw [List.mem_filter] at hi;exact ⟨ZQ.1 o,i,ZQ.1 hi.1,hi.2,rfl⟩
 ·rintro ⟨h1,i,c,j,l⟩;refine ⟨e.A,ZQ.2 h1,List.mem_map.2 ⟨i,List.mem_filter.2 ⟨ZQ.2 c,j⟩,?_⟩⟩;cases e;simp only [Zb.mk.injEq,true_and];exact l.symm
theorem Zs1 (v m k:Int) (rel:Int->Int->Bool):(bipK v m rel k).Pairwise eLess:=by
 unfold bipK;rw [List.pairwise_flatMap];refine ⟨fun a o=>?_,(ZcP k).imp fun {a b} j x c y l=>?_⟩
 ·unfold bipR;rw [List.pairwise_map];exact ((ZcP m).filter _).imp fun h=>.inr ⟨rfl,by show v+_<v+_;omega⟩
 ·unfold bipR at c l;obtain ⟨_,_,rfl⟩:=List.mem_map.1 c;obtain ⟨_,_,rfl⟩:=List.mem_map.1 l;exact .inl j
theorem pw_nd {l:List Zb} (h:l.Pairwise eLess):l.Nodup:=h.imp fun {a b} h e=>by subst e;unfold eLess at h;omega
def setE (v:Int) (sets:List (List Int)) (k:Int):List Zb:=(idP k).flatMap fun i=>(ix sets i).map fun x=>⟨x,v+i⟩
theorem Zuk {v k:Int} {sets:List (List Int)} (h:0<=k):setE v sets (k+1)=setE v sets k++(ix sets k).map fun x=>⟨x,v+k⟩:=by
 unfold setE idP;rw [ZU h,List.flatMap_append];simp
structure Sts (v:Int) (sets:List (List Int)):Prop where
 v0:0<=v
 v1:v<=64
 m:(sets.length:Int)<=4096
 len:∀ s∈sets,s.length<=64
 nd:∀ s∈sets,s.Nodup
 rng:∀ s∈sets,∀ x∈s,0<=x/\x<v
section
variable {v:Int} {sets:List (List Int)} (h:Sts v sets)
include h
theorem Zwn {e:Zb}:e∈setE v sets sets.length↔∃ i,(0<=i/\i<(sets.length:Int))/\e.A∈ix sets i/\e.B=v+i:=by
 have _:=h;unfold setE;rw [List.mem_flatMap];constructor
 ·rintro ⟨i,hi,he⟩;obtain ⟨x,c,rfl⟩:=List.mem_map.1 he;exact ⟨i,ZQ.1 hi,c,rfl⟩
 ·rintro ⟨i,hi,c,j⟩;refine ⟨i,ZQ.2 hi,List.mem_map.2 ⟨e.A,c,?_⟩⟩;cases e;simp only [Zb.mk.injEq,true_and];exact j.symm
theorem ZsZ {e:Zb}:e∈setE v sets sets.length↔e∈bipK v sets.length (fun x i=>decide (x∈ix sets i)) v:=by
 rw [Zwn h,ZGS];constructor
 ·rintro ⟨i,hi,c,j⟩;have:=h.rng _ (Zl hi.1 hi.2) _ c;exact ⟨this,i,hi,by simpa using c,j⟩
 ·rintro ⟨_,i,hi,c,j⟩;exact ⟨i,hi,by simpa using c,j⟩
theorem Zzk:srtE ((setE v sets sets.length).map mkE)=bipK v sets.length (fun x i=>decide (x∈ix sets i)) v:=by
 refine (Zj4 (Zs1 _ _ _ _) fun z=>?_).symm;have hm:∀ e∈setE v sets sets.length,mkE e=e:=fun e he=>by
  obtain ⟨i,hi,c,j⟩:=(Zwn h).1 he;have:=h.rng _ (Zl hi.1 hi.2) _ c;unfold mkE;cases e;simp only [Zb.mk.injEq];dsimp only at j this;omega
 rw [List.mem_map,<-ZsZ h];constructor
 ·intro hz;exact ⟨z,hz,hm z hz⟩
 ·rintro ⟨e,he,rfl⟩;rw [hm e he];exact he
theorem ZwU:(setE v sets sets.length).length=(bipK v sets.length (fun x i=>decide (x∈ix sets i)) v).length:=by
 refine List.Perm.length_eq ((List.perm_ext_iff_of_nodup ?_ (pw_nd (Zs1 _ _ _ _))).2 fun e=>ZsZ h);unfold setE List.Nodup;rw [List.pairwise_flatMap];refine ⟨fun i hi=>?_,(ZcP _).imp fun {a b} j x c y k e=>?_⟩
 ·have hi:=ZQ.1 hi;rw [List.pairwise_map];refine (h.nd _ (Zl hi.1 hi.2)).imp fun {a b} j e=>j ?_;simp only [Zb.mk.injEq] at e;exact e.1
 ·obtain ⟨_,_,rfl⟩:=List.mem_map.1 c;obtain ⟨_,_,rfl⟩:=List.mem_map.1 k;simp only [Zb.mk.injEq] at e;omega
end
def cols (z o:Int):List Int:=tabl (z+o) fun i=>if i<z then 0 else 1
theorem ZsC {z o:Int}:(cols z o).length=(z+o).toNat:=Zj
theorem ZDh {z o:Int} (s:0<=z) (u:0<=o) (h:z+o<=1000000):ZmT z o=some (cols z o):=by
 unfold ZmT;have a0:gMake 8 (0:Int) (ε.wrap (z+o)) (ε.wrap (z+o))=some (tabl (z+o) fun i=>if z<=i/\i<z then 1 else 0):=by
  rw [wr64 ω ω,Zas ω ω ω];congr 1;refine ZaC (by rw [List.length_replicate,Zj]) fun i j l=>?_;rw [List.length_replicate] at l;rw [Zci j ω,ZG j ω,if_neg ω]
 rw [a0,Option.bind_some];have h1:=Zh (B:=ZkA z o) (fun k=>(k,tabl (z+o) fun i=>if z<=i/\i<k then (1:Int) else 0)) (i:=z) (n:=z+o) ω fun k k0 k1=>by
  have hs:(tabl (z+o) fun i=>if z<=i/\i<k then (1:Int) else 0).set k.toNat 1=tabl (z+o) fun i=>if z<=i/\i<k+1 then (1:Int) else 0:=by
   refine Zaj ω k1 (fun i j l hi=>?_) ?_
   ·by_cases c:z<=i/\i<k
    ·rw [if_pos c,if_pos ω]
    ·rw [if_neg c,if_neg ω]
   ·rw [if_pos ω]
  have hX:(tabl (z+o) fun i=>if z<=i/\i<k then (1:Int) else 0).length=(z+o).toNat:=Zj;generalize (tabl (z+o) fun i=>if z<=i/\i<k then (1:Int) else 0)=X at hs hX ⊢;simp (disch:=omega) only [pz,ZkA,hs]
 rw [h1];have e:(tabl (z+o) fun i=>if z<=i/\i<z+o then (1:Int) else 0)=cols z o:=ZJ fun i j l=>by
  by_cases c:i<z
  ·rw [if_pos c,if_neg ω]
  ·rw [if_neg c,if_pos ω]
 rw [e];exact Zc (by simp (disch:=omega) only [pz,ZkA])
def nilG:Za:=⟨[],[]⟩
theorem Zu4 {cs:List Int} {es:List Zb} (h:es.length<=1000000):ZiI cs es=some (if (cs.length:Int)>64 then (nilG,5) else if (es.length:Int)>512 then (nilG,5) else (⟨cs,srtE (es.map mkE)⟩,0)):=by
 unfold ZiI Zqt;have hs:=Zrh h;by_cases c:(cs.length:Int)>64
 ·rw [if_pos c];simp (disch:=omega) only [pz,];rfl
 ·by_cases d:(es.length:Int)>512
  ·rw [if_neg c,if_pos d];simp (disch:=omega) only [pz,];rfl
  ·rw [if_neg c,if_neg d];simp (disch:=omega) only [pz,hs]
def bipG (v m:Int) (rel:Int->Int->Bool):Za×Int:=if v+m>64 then (nilG,5) else if ((bipK v m rel v).length:Int)>512 then (nilG,5) else (⟨cols v m,bipK v m rel v⟩,0)
theorem Zwt {v:Int} {sets:List (List Int)} (h:Sts v sets):Zgx v sets=some (bipG v sets.length fun x i=>decide (x∈ix sets i)):=by
 unfold Zgx;have u:=h.v0;have a8:=h.v1;have hm:=h.m;obtain ⟨⟨a0,j⟩,⟨h1,y,h3⟩,h4⟩:=ZeC (B:=Zmy v sets) (fun k q=>q.2=k/\q.1=setE v sets k/\(q.1.length:Int)<=64*k) (i:=0) (n:=sets.length) ω (s:=(([]:List Zb),(0:Int))) ⟨rfl,rfl,by simp⟩ fun k q k0 k1 ⟨g1,l,g3⟩=>by
  obtain ⟨a0,j⟩:=q;dsimp only at g1 l g3;subst g1;have ag:=h.len _ (Zl k0 k1);have a5:=Zh (B:=Zh0 v j (ix sets j)) (fun i=>(a0++((ix sets j).take i.toNat).map (fun x=>Zb.mk x (v+j)),i)) (i:=0) (n:=(ix sets j).length) ω fun i i0 i1=>by
   have hl:(a0++((ix sets j).take i.toNat).map (fun x=>Zb.mk x (v+j))).length<=1000000:=by rw [List.length_append,List.length_map,List.length_take];omega
   have a3:((ix sets j).take (i+1).toNat).map (fun x=>Zb.mk x (v+j))=_:=ZdK i0 i1;rw [a3,<-List.append_assoc];generalize a0++((ix sets j).take i.toNat).map (fun x=>Zb.mk x (v+j))=X at hl ⊢;simp (disch:=omega) only [pz,Zh0]
  have e0:(a0,(0:Int))=(fun i:Int=>(a0++((ix sets j).take i.toNat).map (fun x=>Zb.mk x (v+j)),i)) 0:=by simp
  have a2:loop (Zh0 v j (ix sets j)) (a0,0)=some (.inl (setE v sets (j+1),j+1)):=by
   rw [e0,a5];refine Zc ?_;rw [Int.toNat_natCast,List.take_length,Zuk k0,<-l];simp (disch:=omega) only [pz,Zh0]
  refine ⟨(setE v sets (j+1),j+1),by simp (disch:=omega) only [pz,Zmy,a2],rfl,rfl,?_⟩;dsimp only;rw [Zuk k0,<-l,List.length_append,List.length_map];omega
 dsimp only at h1 y h3;rw [h4];subst h1;have a4:=ZDh (z:=v) (o:=sets.length) u ω ω;have a1:=Zu4 (cs:=cols v sets.length) (es:=a0) ω;have a6:=ZsC (z:=v) (o:=sets.length);have a7:=ZwU h;have hr:(if ((cols v sets.length).length:Int)>64 then (nilG,(5:Int)) else if (a0.length:Int)>512 then (nilG,5) else (⟨cols v sets.length,srtE (a0.map mkE)⟩,0))=bipG v sets.length fun x i=>decide (x∈ix sets i):=by
  unfold bipG;rw [a6,y,a7,Zzk h];by_cases c:v+(sets.length:Int)>64
  ·rw [if_pos c,if_pos ω]
  ·rw [if_neg c,if_neg ω]
 rw [hr] at a1;refine Zc ?_;unfold Zmy;dsimp only;have e9:∀ r:Za×Int,(Za.mk r.1.Colors r.1.Edges,r.2)=r:=fun r=>rfl;simp (disch:=omega) only [pz,Z0,a4,a1,e9]
theorem ZI1 {d:Zae} (h:Sts d.Points d.Blocks):ZkG d=some (bipG d.Points d.Blocks.length fun x i=>decide (x∈ix d.Blocks i)):=by
 unfold ZkG bipG;have j:=h.v0;have a6:=h.v1;have hm:=h.m;by_cases c:d.Points+(d.Blocks.length:Int)>64
 ·rw [if_pos c];simp (disch:=omega) only [pz,];rfl
 rw [if_neg c];have h1:=Zh (B:=Zim d) (fun k=>(k,tabl k fun i=>if i<d.Points then (0:Int) else 1)) (i:=0) (n:=d.Points) j fun k k0 k1=>by
  have hl:(tabl k fun i=>if i<d.Points then (0:Int) else 1).length<=64:=by rw [Zj];omega
  have a0:(tabl (k+1) fun i=>if i<d.Points then (0:Int) else 1)=_:=ZU k0;rw [if_pos k1] at a0;rw [a0];generalize (tabl k fun i=>if i<d.Points then (0:Int) else 1)=X at hl ⊢;simp (disch:=omega) only [pz,Zim]
 have l:=Zh (B:=Ze6 d) (fun k=>(k,tabl (d.Points+k) fun i=>if i<d.Points then (0:Int) else 1)) (i:=0) (n:=d.Blocks.length) ω fun k k0 k1=>by
  have hl:(tabl (d.Points+k) fun i=>if i<d.Points then (0:Int) else 1).length<=64:=by rw [Zj];omega
  have a0:(tabl (d.Points+k+1) fun i=>if i<d.Points then (0:Int) else 1)=_:=ZU ω;rw [if_neg ω] at a0;rw [<-Int.add_assoc,a0];generalize (tabl (d.Points+k) fun i=>if i<d.Points then (0:Int) else 1)=X at hl ⊢;simp (disch:=omega) only [pz,Ze6]
 generalize a3:(fun (x:Int) (i:Int)=>decide (x∈ix d.Blocks i))=rel;have a7:∀ k:Int,0<=k->k<=d.Points->((bipK d.Points d.Blocks.length rel k).length:Int)<=64*k:=by
  intro k k0 k1;obtain ⟨n,rfl⟩:∃ n:Nat,k=n:=⟨k.toNat,by omega⟩
  clear k0;induction n with
  | zero=>simp [bipK,idP,tabl]
  | succ n ih=>
   have:=ih ω;have l:=Zlm d.Points d.Blocks.length rel (n:Int);rw [show ((n+1:Nat):Int)=(n:Int)+1 by omega,Zjg ω,List.length_append];omega
 have h3:=Zh (B:=Zef d (cols d.Points d.Blocks.length)) (fun k=>(k,bipK d.Points d.Blocks.length rel k)) (i:=0) (n:=d.Points) j fun k k0 k1=>by
  have ah:=a7 k k0 ω;have a8:=Zh (B:=Zfp d k) (fun i=>(i,bipK d.Points d.Blocks.length rel k++bipR d.Points i rel k)) (i:=0) (n:=d.Blocks.length) ω fun i o i1=>by
   have hl:=Zlm d.Points i rel k;have u:(bipK d.Points d.Blocks.length rel k++bipR d.Points i rel k).length<=100000:=by rw [List.length_append];omega
   have a0:=Zsk (v:=d.Points) (rel:=rel) (x:=k) o;have ae:=h.len _ (Zl o i1);have a2:=Zp1 (s:=ix d.Blocks i) (v:=k) ω;have y:rel k i=decide (k∈ix d.Blocks i):=by rw [<-a3]
   by_cases cc:k∈ix d.Blocks i
   ·have hh:=a2.eq cc;rw [if_pos (by rw [y];simpa using cc)] at a0;rw [a0,<-List.append_assoc];generalize bipK d.Points d.Blocks.length rel k++bipR d.Points i rel k=X at u ⊢;simp (disch:=omega) only [pz,Zfp,hh]
   ·have hh:=a2.ne cc;rw [if_neg (by rw [y];simpa using cc),List.append_nil] at a0;rw [a0];simp (disch:=omega) only [pz,Zfp,hh]
  have e0:((0:Int),bipK d.Points d.Blocks.length rel k)=(fun i:Int=>(i,bipK d.Points d.Blocks.length rel k++bipR d.Points i rel k)) 0:=by
   show _=((0:Int),_++bipR d.Points 0 rel k);rw [show bipR d.Points 0 rel k=[] from rfl,List.append_nil]
  have a4:loop (Zfp d k) (0,bipK d.Points d.Blocks.length rel k)=some (.inl (k+1,bipK d.Points d.Blocks.length rel (k+1))):=by
   rw [e0,a8];refine Zc ?_;rw [Zjg k0];simp (disch:=omega) only [pz,Zfp]
  simp (disch:=omega) only [pz,Zef,a4]
 have e1:((0:Int),([]:List Int))=(fun k:Int=>(k,tabl k fun i=>if i<d.Points then (0:Int) else 1)) 0:=rfl;have e2:((0:Int),tabl d.Points fun i=>if i<d.Points then (0:Int) else 1)=(fun k:Int=>(k,tabl (d.Points+k) fun i=>if i<d.Points then (0:Int) else 1)) 0:=by
  show _=((0:Int),tabl (d.Points+0) _);rw [Int.add_zero]
 have e3:((0:Int),([]:List Zb))=(fun k:Int=>(k,bipK d.Points d.Blocks.length rel k)) 0:=rfl;have k3:loop (Zef d (cols d.Points d.Blocks.length)) (0,([]:List Zb))=some (.inr (.inr (if ((bipK d.Points d.Blocks.length rel d.Points).length:Int)>512 then (nilG,5) else (⟨cols d.Points d.Blocks.length,bipK d.Points d.Blocks.length rel d.Points⟩,0)))):=by
  rw [e3,h3];refine Zc ?_;by_cases cc:((bipK d.Points d.Blocks.length rel d.Points).length:Int)>512
  ·rw [if_pos cc];simp (disch:=omega) only [pz,Zef];rfl
  ·rw [if_neg cc];simp (disch:=omega) only [pz,Zef]
 have k2:loop (Ze6 d) (0,tabl d.Points fun i=>if i<d.Points then (0:Int) else 1)=some (.inr (if ((bipK d.Points d.Blocks.length rel d.Points).length:Int)>512 then (nilG,5) else (⟨cols d.Points d.Blocks.length,bipK d.Points d.Blocks.length rel d.Points⟩,0))):=by
  rw [e2,l];refine Zc ?_;show Ze6 d ((d.Blocks.length:Int),cols d.Points d.Blocks.length)=_;simp (disch:=omega) only [pz,Ze6,k3]
 have k1:loop (Zim d) (0,([]:List Int))=some (if ((bipK d.Points d.Blocks.length rel d.Points).length:Int)>512 then (nilG,5) else (⟨cols d.Points d.Blocks.length,bipK d.Points d.Blocks.length rel d.Points⟩,0)):=by
  rw [e1,h1];exact Zc (by simp (disch:=omega) only [pz,Zim,k2])
 simp (disch:=omega) only [pz,k1]
theorem ZtB {k:Type} {n:Int} {f:Int->k} {y:k} (h:y∈tabl n f):∃ i,f i=y:=by
 unfold tabl at h;obtain ⟨j,_,e⟩:=List.mem_map.1 h;exact ⟨_,e⟩
def supp (r:List Int):List Int:=(idP r.length).filter fun x=>decide (¬ ix r x=0)
theorem ZHz {r:List Int} (j:r.length<=1000):Zmp r=some (supp r):=by
 unfold Zmp;have h:=Zh (B:=Zhl r) (fun k=>((idP k).filter fun x=>decide (¬ ix r x=0),k)) (i:=0) (n:=r.length) ω fun k k0 k1=>by
  have hl:((idP k).filter fun x=>decide (¬ ix r x=0)).length<=1000:=by
   have:=List.length_filter_le (fun x=>decide (¬ ix r x=0)) (idP k);rw [Zai] at this;omega
  have hs:(idP (k+1)).filter (fun x=>decide (¬ ix r x=0))=((idP k).filter fun x=>decide (¬ ix r x=0))++(if ¬ ix r k=0 then [k] else []):=by
   unfold idP;rw [ZU k0,List.filter_append];by_cases c:ix r k=0
   ·rw [if_neg (Classical.not_not.2 c)];simp [c]
   ·rw [if_pos c];simp [c]
  rw [hs];generalize ((idP k).filter fun x=>decide (¬ ix r x=0))=X at hl ⊢;by_cases c:ix r k=0
  ·rw [if_neg (Classical.not_not.2 c),List.append_nil];simp (disch:=omega) only [pz,Zhl]
  ·rw [if_pos c];simp (disch:=omega) only [pz,Zhl]
 exact h.trans (Zc (by simp (disch:=omega) only [pz,Zhl];rfl))
theorem ZCJ {v m k:Int} {c r2:Int->Int->Bool} (h:∀ x i,0<=x->x<k->0<=i->i<m->c x i=r2 x i):bipK v m c k=bipK v m r2 k:=by
 unfold bipK;have:∀ l:List Int,(∀ x∈l,0<=x/\x<k)->l.flatMap (bipR v m c)=l.flatMap (bipR v m r2):=fun l=>by
  induction l with
  | nil=>intro _;rfl
  | cons a l o=>
   intro hl;rw [List.flatMap_cons,List.flatMap_cons,o fun x j=>hl x (.tail _ j)];congr 1;unfold bipR;congr 1;refine List.filter_congr fun i hi=>?_;have:=hl a (.head _);have:=ZQ.1 hi;exact h _ _ ω ω ω ω
 exact this _ fun x j=>ZQ.1 j
theorem ZEP {v m:Int} {c r2:Int->Int->Bool} (h:∀ x i,0<=x->x<v->0<=i->i<m->c x i=r2 x i):bipG v m c=bipG v m r2:=by
 unfold bipG;rw [ZCJ h]
section
variable {e:List Int} {ws:List (List Int)} (he:(e.length:Int)<=64) (hl:∀ r∈ws,(r.length:Int)=e.length) (hi:∀ r∈ws,In 2 r) (w1:1<=(ws.length:Int)) (wN:(ws.length:Int)<=4096)
include he hl hi w1 wN
theorem ZGN:Sts e.length ((ws.drop 1).map supp) where
 v0:=ω
 v1:=he
 m:=by rw [List.length_map,List.length_drop];omega
 len:=fun s hs=>by
  obtain ⟨r,j,rfl⟩:=List.mem_map.1 hs;have:=hl r (List.mem_of_mem_drop j);unfold supp;have i:=List.length_filter_le (fun x=>decide (¬ ix r x=0)) (idP r.length);rw [Zai] at i;omega
 nd:=fun s hs=>by
  obtain ⟨r,j,rfl⟩:=List.mem_map.1 hs;exact (ZkX _).filter _
 rng:=fun s hs x c=>by
  obtain ⟨r,j,rfl⟩:=List.mem_map.1 hs;have:=hl r (List.mem_of_mem_drop j);unfold supp at c;have:=ZQ.1 (List.mem_filter.1 c).1;omega
theorem ZCy:(bif decide ((ε.wrap ((ε.wrap ((e.length:Int)+(ws.length:Int)))-1):Int)>64) then
   some (((Za.mk ([]:List Int) ([]:List Zb)),(5:Int)))
  else loop (ZeA e ws) (0,([]:List Int)))=some (bipG e.length ((ws.drop 1).map supp).length fun x i=>decide (x∈ix ((ws.drop 1).map supp) i)):=by
 have a2:(((ws.drop 1).map supp).length:Int)=(ws.length:Int)-1:=by rw [List.length_map,List.length_drop];omega
 have a5:∀ x i:Int,0<=x->x<(e.length:Int)->0<=i->i<(ws.length:Int)-1->decide (x∈ix ((ws.drop 1).map supp) i)=decide (ix (ix ws (i+1)) x=1):=fun x i x0 x1 j o=>by
  have hm:ix ws (i+1)∈ws:=Zl ω ω;have h1:=hl _ hm;have l:=hi _ hm x x0 ω;rw [ZfS j (by rw [List.length_drop];omega),show ws.drop 1=ws.drop (1:Int).toNat from rfl,Zlb ω j,Int.add_comm 1 i];unfold supp;rw [decide_eq_decide,List.mem_filter,ZQ,decide_eq_true_eq];omega
 rw [ZEP (r2:=fun x i=>decide (ix (ix ws (i+1)) x=1)) (by rw [a2];exact a5),a2];generalize hR:(fun (x:Int) (i:Int)=>decide (ix (ix ws (i+1)) x=1))=rel;have v0:(0:Int)<=e.length:=ω;generalize hv:(e.length:Int)=v at *;generalize hm:(ws.length:Int)-1=m at *;unfold bipG;by_cases c:v+m>64
 ·rw [if_pos c];simp (disch:=omega) only [pz,];rfl
 rw [if_neg c];have h1:=Zh (B:=ZeA e ws) (fun k=>(k,tabl k fun i=>if i<v then (0:Int) else 1)) (i:=0) (n:=v) v0 fun k k0 k1=>by
  have hl:(tabl k fun i=>if i<v then (0:Int) else 1).length<=64:=by rw [Zj];omega
  have a0:(tabl (k+1) fun i=>if i<v then (0:Int) else 1)=_:=ZU k0;rw [if_pos k1] at a0;rw [a0];generalize (tabl k fun i=>if i<v then (0:Int) else 1)=X at hl ⊢;simp (disch:=omega) only [pz,ZeA]
 have l:=Zh (B:=ZeM e ws) (fun k=>(k,tabl (v+(k-1)) fun i=>if i<v then (0:Int) else 1)) (i:=1) (n:=ws.length) ω fun k k0 k1=>by
  have hl:(tabl (v+(k-1)) fun i=>if i<v then (0:Int) else 1).length<=64:=by rw [Zj];omega
  have a0:(tabl (v+(k-1)+1) fun i=>if i<v then (0:Int) else 1)=_:=ZU ω;rw [if_neg ω] at a0;rw [show v+(k+1-1)=v+(k-1)+1 by omega,a0];generalize (tabl (v+(k-1)) fun i=>if i<v then (0:Int) else 1)=X at hl ⊢;simp (disch:=omega) only [pz,ZeM]
 have a6:∀ k:Int,0<=k->k<=v->((bipK v m rel k).length:Int)<=64*k:=by
  intro k k0 k1;obtain ⟨n,rfl⟩:∃ n:Nat,k=n:=⟨k.toNat,by omega⟩
  clear k0;induction n with
  | zero=>simp [bipK,idP,tabl]
  | succ n ih=>
   have:=ih ω;have l:=Zlm v m rel (n:Int);rw [show ((n+1:Nat):Int)=(n:Int)+1 by omega,Zjg ω,List.length_append];omega
 have y:=Zh (B:=Zek e ws (cols v m)) (fun k=>(k,bipK v m rel k)) (i:=0) (n:=v) v0 fun k k0 k1=>by
  have ah:=a6 k k0 ω;have a7:=Zh (B:=Zea e ws k) (fun i=>(i,bipK v m rel k++bipR v (i-1) rel k)) (i:=1) (n:=ws.length) ω fun i j o=>by
   have a4:=Zlm v (i-1) rel k;have s:(bipK v m rel k++bipR v (i-1) rel k).length<=100000:=by rw [List.length_append];omega
   have a0:=Zsk (v:=v) (rel:=rel) (x:=k) (k:=i-1) ω;have ad:=hl _ (Zl (xs:=ws) (i:=i) ω o);have u:rel k (i-1)=decide (ix (ix ws i) k=1):=by rw [<-hR];show decide (ix (ix ws (i-1+1)) k=1)=_;rw [Int.sub_add_cancel]
   have ei:i+1-1=i-1+1:=ω;have ew:v+i-1=v+(i-1):=ω;rw [ei];by_cases cc:ix (ix ws i) k=1
   ·rw [if_pos (by rw [u];simpa using cc)] at a0;rw [a0,<-List.append_assoc];generalize bipK v m rel k++bipR v (i-1) rel k=X at s ⊢;simp (disch:=omega) only [pz,Zea,hv,ew]
   ·rw [if_neg (by rw [u];simpa using cc),List.append_nil] at a0;rw [a0];simp (disch:=omega) only [pz,Zea]
  have e0:((1:Int),bipK v m rel k)=(fun i:Int=>(i,bipK v m rel k++bipR v (i-1) rel k)) 1:=by
   show _=((1:Int),_++bipR v 0 rel k);rw [show bipR v 0 rel k=[] from rfl,List.append_nil]
  have a3:loop (Zea e ws k) (1,bipK v m rel k)=some (.inl (k+1,bipK v m rel (k+1))):=by
   rw [e0,a7];refine Zc ?_;rw [hm,Zjg k0];simp (disch:=omega) only [pz,Zea]
  simp (disch:=omega) only [pz,Zek,a3,hv]
 have e1:((0:Int),([]:List Int))=(fun k:Int=>(k,tabl k fun i=>if i<v then (0:Int) else 1)) 0:=rfl;have e2:((1:Int),tabl v fun i=>if i<v then (0:Int) else 1)=(fun k:Int=>(k,tabl (v+(k-1)) fun i=>if i<v then (0:Int) else 1)) 1:=by
  show _=((1:Int),tabl (v+0) _);rw [Int.add_zero]
 have e3:((0:Int),([]:List Zb))=(fun k:Int=>(k,bipK v m rel k)) 0:=rfl;have k3:loop (Zek e ws (cols v m)) (0,([]:List Zb))=some (.inr (.inr (if ((bipK v m rel v).length:Int)>512 then (nilG,5) else (⟨cols v m,bipK v m rel v⟩,0)))):=by
  rw [e3,y];refine Zc ?_;by_cases cc:((bipK v m rel v).length:Int)>512
  ·rw [if_pos cc];simp (disch:=omega) only [pz,Zek,hv];rfl
  ·rw [if_neg cc];simp (disch:=omega) only [pz,Zek,hv]
 have k2:loop (ZeM e ws) (1,tabl v fun i=>if i<v then (0:Int) else 1)=some (.inr (if ((bipK v m rel v).length:Int)>512 then (nilG,5) else (⟨cols v m,bipK v m rel v⟩,0))):=by
  rw [e2,l];refine Zc ?_;rw [hm];show ZeM e ws ((ws.length:Int),cols v m)=_;simp (disch:=omega) only [pz,ZeM,k3]
 have k1:loop (ZeA e ws) (0,([]:List Int))=some (if ((bipK v m rel v).length:Int)>512 then (nilG,5) else (⟨cols v m,bipK v m rel v⟩,0)):=by
  rw [e1,h1];exact Zc (by simp (disch:=omega) only [pz,ZeA,k2,hv])
 simp (disch:=omega) only [pz,k1]
end
theorem ZCu {o:Zf} (hs:Sz2 o.Rows) {f:Ze} {inv:List Int} (h:CodeV o f inv):∃ r,ZfT ⟨f,o.Rows⟩=some r/\ZfZ ⟨f,o.Rows⟩=some r/\(r=(nilG,6)\/∃ v m rel,0<=v/\0<=m/\r=bipG v m rel):=by
 have eF:Ze.mk f.Prime f.Degree f.Poly=f:=rfl;have eC:ZW.mk f o.Rows=⟨f,o.Rows⟩:=rfl;have a3:=h.si;have a2:=h.ss;have a8:=h.oki;by_cases j:o.Size=2
 ·have n1:=h.M.n1;have w1:=h.M.w1;have w2:=h.M.w2;have hF:=h.F;have hM:=h.M.mat;have ac:=ZAn hF hM ω n1 a3 h.few;have ab:=ZIj hF hM ω n1 a2 h.few;have aj:=h.few;have hP:=Za6 (p:=o.Size) hF.q2 o.Rows.length;have a0:=hM.len 0 ω ω;generalize hW:tabl (pwN o.Size o.Rows.length) (wd f o.Size (ix o.Rows 0).length o.Rows o.Rows.length)=W at ac ab;have al:(W.length:Int)=pwN o.Size o.Rows.length:=by rw [<-hW,Zj];omega
  have a5:∀ r∈W,(r.length:Int)=(ix o.Rows 0).length:=fun r hr=>by
   rw [<-hW] at hr;obtain ⟨n,rfl⟩:=ZtB hr;exact Zie hF ω _ _
  have aa:∀ r∈W,In 2 r:=fun r hr=>by
   rw [<-hW] at hr;obtain ⟨n,rfl⟩:=ZtB hr;have:=wd_in hF (m:=o.Rows) (w:=(ix o.Rows 0).length) ω o.Rows.length n;rw [j] at this ⊢;exact this
  clear hW;have hg:=ZCy (e:=ix o.Rows 0) (ws:=W) ω a5 aa ω ω;have a9:=Zwt (ZGN (e:=ix o.Rows 0) (ws:=W) ω a5 aa ω ω);have a4:=Zkf (xs:=W) (lo:=1) ω ω;have eD:W.drop (1:Int).toNat=W.drop 1:=rfl;rw [eD] at a4;have af:((W.drop 1).length:Int)=(W.length:Int)-1:=by rw [List.length_drop];omega
  have c:∀ r∈W.drop 1,(r.length:Int)=(ix o.Rows 0).length:=fun r hr=>a5 r (List.mem_of_mem_drop hr);refine ⟨bipG (ix o.Rows 0).length ((W.drop 1).map supp).length fun x i=>decide (x∈ix ((W.drop 1).map supp) i),?_,?_,.inr ⟨_,_,_,Int.natCast_nonneg (ix o.Rows 0).length,Int.natCast_nonneg ((W.drop 1).map supp).length,rfl⟩⟩
  ·unfold ZfT;have l:ε.wrap (((ix o.Rows 0).length:Int)+(W.length:Int))=(ix o.Rows 0).length+(W.length:Int):=wr64 ω ω;have s:ε.wrap (((ix o.Rows 0).length:Int)+(W.length:Int)-1)=(ix o.Rows 0).length+(W.length:Int)-1:=wr64 ω ω;rw [l,s] at hg;simp (disch:=omega) only [pz,eF,a2,ab];exact hg
  ·generalize W.drop 1=D at a9 a4 af c;have ag:=Zh (B:=ZhW ⟨f,o.Rows⟩ D) (fun k=>((D.take k.toNat).map supp,k)) (i:=0) (n:=D.length) ω fun k k0 k1=>by
    have hm:=c _ (Zl k0 k1);have ai:=ZHz (r:=ix D k) ω;have hl:((D.take k.toNat).map supp).length<=10000:=by rw [List.length_map,List.length_take];omega
    rw [ZdK k0 k1];generalize (D.take k.toNat).map supp=X at hl ⊢;have ah:=gAppV (xs:=X) (y:=supp (ix D k)) ω;simp (disch:=omega) only [pz,ZhW,ai,ah]
   have ae:loop (ZhW ⟨f,o.Rows⟩ D) ([],0)=some (bipG (ix o.Rows 0).length (D.map supp).length fun x i=>decide (x∈ix (D.map supp) i)):=by
    refine ag.trans (Zc ?_);rw [Int.toNat_natCast,List.take_length];have u:∀ r:Za×Int,(Za.mk r.1.Colors r.1.Edges,r.2)=r:=fun r=>rfl;simp (disch:=omega) only [pz,ZhW,ZnF,ZS,a9,u]
   unfold ZfZ;simp (disch:=omega) only [pz,eF,a8,a3,ac,a4,ae]
 ·refine ⟨_,?_,?_,.inl rfl⟩
  ·unfold ZfT;simp (disch:=omega) only [pz,eF,a2];rfl
  ·unfold ZfZ;simp (disch:=omega) only [pz,eF,a8,a3];rfl
def sqP (n:Int) (a:List (List Int)) (l x y:Int):Bool:=decide (l=x\/l=n+y\/l=2*n+ix (ix a x) y)
def sqR (n:Int) (a:List (List Int)) (l x k:Int):List Zb:=((idP k).filter fun y=>sqP n a l x y).map fun y=>⟨l,3*n+x*n+y⟩
def sqX (n:Int) (a:List (List Int)) (l k:Int):List Zb:=(idP k).flatMap fun x=>sqR n a l x n
def sqL (n:Int) (a:List (List Int)) (k:Int):List Zb:=(idP k).flatMap fun l=>sqX n a l n
def sqC (n:Int):List Int:=tabl (3*n+n*n) fun v=>if v<3*n then v/n else 3
theorem ZEW {n l x k:Int} {a:List (List Int)} (h:0<=k):sqR n a l x (k+1)=sqR n a l x k++(if sqP n a l x k=true then [⟨l,3*n+x*n+k⟩] else []):=by
 unfold sqR idP;rw [ZU h,List.filter_append,List.map_append];by_cases c:sqP n a l x k=true
 ·rw [if_pos c];simp [c]
 ·rw [if_neg c];simp [c]
theorem Zvb {n l k:Int} {a:List (List Int)} (h:0<=k):sqX n a l (k+1)=sqX n a l k++sqR n a l k n:=by
 unfold sqX idP;rw [ZU h,List.flatMap_append];simp
theorem Zrg {n k:Int} {a:List (List Int)} (h:0<=k):sqL n a (k+1)=sqL n a k++sqX n a k n:=by
 unfold sqL idP;rw [ZU h,List.flatMap_append];simp
theorem ZsQ (n l x k:Int) (a:List (List Int)):(sqR n a l x k).length<=k.toNat:=by
 unfold sqR;rw [List.length_map];have:=List.length_filter_le (fun y=>sqP n a l x y) (idP k);rwa [Zai] at this
theorem ZvX {n:Int} (c:n<=6) (l:Int) (a:List (List Int)) (k:Nat):(sqX n a l k).length<=6*k:=by
 induction k with
 | zero=>simp [sqX,idP,tabl]
 | succ k j=>
  have:=ZsQ n l k n a;rw [show ((k+1:Nat):Int)=(k:Int)+1 by omega,Zvb ω,List.length_append];omega
theorem Zvz {n:Int} (n0:0<=n) (c:n<=6) (a:List (List Int)) (k:Nat):(sqL n a k).length<=36*k:=by
 induction k with
 | zero=>simp [sqL,idP,tabl]
 | succ k j=>
  have:=ZvX c k a n.toNat;rw [show ((n.toNat:Nat):Int)=n by omega] at this;rw [show ((k+1:Nat):Int)=(k:Int)+1 by omega,Zrg ω,List.length_append];omega
theorem Zvr {n k:Int} {a:List (List Int)} {e:Zb}:e∈sqL n a k↔(0<=e.A/\e.A<k)/\∃ x y,(0<=x/\x<n)/\(0<=y/\y<n)/\sqP n a e.A x y=true/\e.B=3*n+x*n+y:=by
 unfold sqL sqX sqR;rw [List.mem_flatMap];constructor
 ·rintro ⟨l,hl,he⟩;obtain ⟨x,c,he⟩:=List.mem_flatMap.1 he;obtain ⟨y,j,rfl⟩:=List.mem_map.1 he;rw [List.mem_filter] at j;exact ⟨ZQ.1 hl,x,y,ZQ.1 c,ZQ.1 j.1,j.2,rfl⟩
 ·rintro ⟨h1,x,y,c,j,hp,o⟩;refine ⟨e.A,ZQ.2 h1,List.mem_flatMap.2 ⟨x,ZQ.2 c,List.mem_map.2 ⟨y,List.mem_filter.2 ⟨ZQ.2 j,hp⟩,?_⟩⟩⟩;cases e;simp only [Zb.mk.injEq,true_and];exact o.symm
theorem ZCH (n k:Int) (n0:0<=n) (a:List (List Int)):(sqL n a k).Pairwise eLess:=by
 unfold sqL;rw [List.pairwise_flatMap];refine ⟨fun l hl=>?_,(ZcP k).imp fun {l l'} a4 x c y hy=>?_⟩
 ·unfold sqX;rw [List.pairwise_flatMap];refine ⟨fun x c=>?_,(ZcP n).imp fun {x x'} a7 u hu v hv=>?_⟩
  ·unfold sqR;rw [List.pairwise_map];exact ((ZcP n).filter _).imp fun h=>.inr ⟨rfl,by show _+_<_+_;omega⟩
  ·unfold sqR at hu hv;obtain ⟨y,hy,rfl⟩:=List.mem_map.1 hu;obtain ⟨y',a5,rfl⟩:=List.mem_map.1 hv;have h1:=ZQ.1 (List.mem_filter.1 hy).1;have s:=ZQ.1 (List.mem_filter.1 a5).1;have i:(x+1)*n<=x'*n:=Int.mul_le_mul_of_nonneg_right ω n0;rw [Int.add_mul,Int.one_mul] at i;exact .inr ⟨rfl,by show 3*n+x*n+y<3*n+x'*n+y';omega⟩
 ·have fA:∀ {l:Int} {e:Zb},e∈sqX n a l n->e.A=l:=fun he=>by
   obtain ⟨x,c,he⟩:=List.mem_flatMap.1 he;obtain ⟨y,hy,rfl⟩:=List.mem_map.1 he;rfl
  have j:=fA c;have o:=fA hy;exact .inl (by rw [j,o];exact a4)
def sqT (n:Int) (a:List (List Int)) (x y:Int):List Zb:=[⟨x,3*n+n*x+y⟩,⟨n+y,3*n+n*x+y⟩,⟨2*n+ix (ix a x) y,3*n+n*x+y⟩]
def sqU (n:Int) (a:List (List Int)) (x k:Int):List Zb:=(idP k).flatMap fun y=>sqT n a x y
def sqE (n:Int) (a:List (List Int)) (k:Int):List Zb:=(idP k).flatMap fun x=>sqU n a x n
theorem Zr3 {n x k:Int} {a:List (List Int)} (h:0<=k):sqU n a x (k+1)=sqU n a x k++sqT n a x k:=by
 unfold sqU idP;rw [ZU h,List.flatMap_append];simp
theorem Zt6 {n k:Int} {a:List (List Int)} (h:0<=k):sqE n a (k+1)=sqE n a k++sqU n a k n:=by
 unfold sqE idP;rw [ZU h,List.flatMap_append];simp
theorem Zrf (n x:Int) (a:List (List Int)) (k:Nat):(sqU n a x k).length=3*k:=by
 induction k with
 | zero=>simp [sqU,idP,tabl]
 | succ k j=>
  rw [show ((k+1:Nat):Int)=(k:Int)+1 by omega,Zr3 ω,List.length_append,j];simp [sqT];omega
theorem Zvf {n:Int} (n0:0<=n) (c:n<=6) (a:List (List Int)) (k:Nat):(sqE n a k).length<=18*k:=by
 induction k with
 | zero=>simp [sqE,idP,tabl]
 | succ k j=>
  have:=Zrf n k a n.toNat;rw [show ((n.toNat:Nat):Int)=n by omega] at this;rw [show ((k+1:Nat):Int)=(k:Int)+1 by omega,Zt6 ω,List.length_append];omega
section
variable {a:List (List Int)} (h:ValidSq a) (h6:(a.length:Int)<=6)
include h h6
theorem Zoo {x y:Int} (x0:0<=x) (x1:x<(a.length:Int)) (c:0<=y) (k:y<(a.length:Int)):((ix a x).length:Int)=a.length/\0<=ix (ix a x) y/\ix (ix a x) y<(a.length:Int):=by
 obtain ⟨i,r2,j⟩:=h.row _ (Zl x0 x1);have:=j.rng _ (Zl (xs:=ix a x) c ω);exact ⟨i,this.1,by omega⟩
theorem ZI0:srtE ((sqE a.length a a.length).map mkE)=sqL a.length a (3*a.length):=by
 have n1:=h.n1;have o:∀ z:Zb,z∈sqE a.length a a.length↔z∈sqL a.length a (3*a.length):=fun z=>by
  rw [Zvr];unfold sqE sqU sqT;rw [List.mem_flatMap];constructor
  ·rintro ⟨x,c,hz⟩;obtain ⟨y,k,hz⟩:=List.mem_flatMap.1 hz;have c:=ZQ.1 c;have k:=ZQ.1 k;obtain ⟨_,i,j⟩:=Zoo h h6 c.1 c.2 k.1 k.2;rw [List.mem_cons,List.mem_cons,List.mem_singleton] at hz;rcases hz with rfl|rfl|rfl
   ·exact ⟨by dsimp only;omega,x,y,c,k,by simp [sqP],by show (_:Int)=_;simp only [];rw [Int.mul_comm (a.length:Int) x]⟩
   ·exact ⟨by dsimp only;omega,x,y,c,k,by simp [sqP],by show (_:Int)=_;simp only [];rw [Int.mul_comm (a.length:Int) x]⟩
   ·exact ⟨by dsimp only;omega,x,y,c,k,by simp [sqP],by show (_:Int)=_;simp only [];rw [Int.mul_comm (a.length:Int) x]⟩
  ·rintro ⟨h1,x,y,c,k,hp,l⟩;refine ⟨x,ZQ.2 c,List.mem_flatMap.2 ⟨y,ZQ.2 k,?_⟩⟩;unfold sqP at hp;rw [decide_eq_true_eq] at hp;rw [List.mem_cons,List.mem_cons,List.mem_singleton];cases z;simp only [Zb.mk.injEq];dsimp only at hp l;rw [Int.mul_comm (a.length:Int) x];rcases hp with hp|hp|hp
   ·exact .inl ⟨hp,l⟩
   ·exact .inr (.inl ⟨hp,l⟩)
   ·exact .inr (.inr ⟨hp,l⟩)
 have hm:∀ z∈sqE a.length a a.length,mkE z=z:=fun z hz=>by
  obtain ⟨h1,x,y,c,k,hp,l⟩:=Zvr.1 ((o z).1 hz);have u:0<=x*(a.length:Int):=Int.mul_nonneg c.1 ω;unfold mkE;cases z;simp only [Zb.mk.injEq];dsimp only at h1 l;omega
 refine (Zj4 (ZCH _ _ ω _) fun z=>?_).symm;rw [List.mem_map,<-o];constructor
 ·intro hz;exact ⟨z,hz,hm z hz⟩
 ·rintro ⟨e,he,rfl⟩;rw [hm e he];exact he
theorem ZEZ:ZjB a false=some ⟨sqC a.length,sqL a.length a (3*a.length)⟩:=by
 unfold ZjB;have n1:=h.n1;have a4:(a.length:Int)*a.length<=36:=by
  have:=Int.mul_le_mul h6 h6 ω (by omega:(0:Int)<=6);omega
 have o:0<=(a.length:Int)*a.length:=Int.mul_nonneg ω ω;generalize c:(a.length:Int)=n at n1 h6 a4 o ⊢;have h1:=Zh (B:=ZiM a false) (fun k=>(k,tabl k fun v=>if v<3*n then v/n else 3)) (i:=0) (n:=3*n) ω fun k k0 k1=>by
  have hl:(tabl k fun v=>if v<3*n then v/n else 3).length<=18:=by rw [Zj];omega
  have a0:(tabl (k+1) fun v=>if v<3*n then v/n else 3)=_:=ZU k0;rw [if_pos k1] at a0;have hd:Int.tdiv k n=k/n:=Int.tdiv_eq_ediv_of_nonneg k0;have a7:0<=k/n:=Int.ediv_nonneg k0 ω;have a8:k/n<3:=Int.ediv_lt_of_lt_mul ω ω;rw [a0];generalize (tabl k fun v=>if v<3*n then v/n else 3)=X at hl ⊢;simp (disch:=omega) only [pz,ZiM,Zlw,c,hd]
 have h2:=Zh (B:=Zfs a) (fun k=>(k,tabl (3*n+k) fun v=>if v<3*n then v/n else 3)) (i:=0) (n:=n*n) ω fun k k0 k1=>by
  have hl:(tabl (3*n+k) fun v=>if v<3*n then v/n else 3).length<=54:=by rw [Zj];omega
  have a0:(tabl (3*n+k+1) fun v=>if v<3*n then v/n else 3)=_:=ZU ω;rw [if_neg ω] at a0;rw [<-Int.add_assoc,a0];generalize (tabl (3*n+k) fun v=>if v<3*n then v/n else 3)=X at hl ⊢;simp (disch:=omega) only [pz,Zfs,c]
 have h3:=Zh (B:=ZgL a (sqC n)) (fun k=>(k,sqL n a k)) (i:=0) (n:=3*n) ω fun l l0 l1=>by
  have hL:=Zvz ω h6 a l.toNat;rw [show ((l.toNat:Nat):Int)=l by omega] at hL;have hx:=Zh (B:=ZhM a l) (fun x=>(x,sqL n a l++sqX n a l x)) (i:=0) (n:=n) ω fun x x0 x1=>by
   have hX:=ZvX h6 l a x.toNat;rw [show ((x.toNat:Nat):Int)=x by omega] at hX;have a5:0<=x*n:=Int.mul_nonneg x0 ω;have a6:x*n<=n*n:=Int.mul_le_mul_of_nonneg_right ω ω;have hy:=Zh (B:=Zc9 a l x) (fun y=>(y,sqL n a l++sqX n a l x++sqR n a l x y)) (i:=0) (n:=n) ω fun y s y1=>by
    obtain ⟨u,e2,e3⟩:=Zoo h ω x0 ω s (show y<(a.length:Int) by omega);have hR:=ZsQ n l x y a;have hl:(sqL n a l++sqX n a l x++sqR n a l x y).length<=100000:=by rw [List.length_append,List.length_append];omega
    have a0:=ZEW (n:=n) (l:=l) (x:=x) (a:=a) s;by_cases hp:l=x\/l=n+y\/l=2*n+ix (ix a x) y
    ·rw [if_pos (by unfold sqP;simpa using hp)] at a0;rw [a0,<-List.append_assoc];generalize sqL n a l++sqX n a l x++sqR n a l x y=X at hl ⊢;by_cases c1:l=x
     ·simp (disch:=omega) only [pz,Zc9,ZcS,c]
     ·by_cases c2:l=n+y
      ·simp (disch:=omega) only [pz,Zc9,ZcS,c]
      ·simp (disch:=omega) only [pz,Zc9,ZcS,c]
    ·rw [if_neg (by unfold sqP;simpa using hp),List.append_nil] at a0;rw [a0];simp (disch:=omega) only [pz,Zc9,ZcS,c]
   have j:((0:Int),sqL n a l++sqX n a l x)=(fun y:Int=>(y,sqL n a l++sqX n a l x++sqR n a l x y)) 0:=by
    show _=((0:Int),_++sqR n a l x 0);rw [show sqR n a l x 0=[] from rfl,List.append_nil]
   have a1:loop (Zc9 a l x) (0,sqL n a l++sqX n a l x)=some (.inl (x+1,sqL n a l++sqX n a l (x+1))):=by
    rw [j,hy];refine Zc ?_;rw [Zvb x0,<-List.append_assoc];simp (disch:=omega) only [pz,Zc9,c]
   simp (disch:=omega) only [pz,ZhM,c,a1]
  have j:((0:Int),sqL n a l)=(fun x:Int=>(x,sqL n a l++sqX n a l x)) 0:=by
   show _=((0:Int),_++sqX n a l 0);rw [show sqX n a l 0=[] from rfl,List.append_nil]
  have a1:loop (ZhM a l) (0,sqL n a l)=some (.inl (l+1,sqL n a (l+1))):=by
   rw [j,hx];refine Zc ?_;rw [Zrg l0];simp (disch:=omega) only [pz,ZhM,c]
  simp (disch:=omega) only [pz,ZgL,c,a1]
 have u:((0:Int),([]:List Int))=(fun k:Int=>(k,tabl k fun v=>if v<3*n then v/n else 3)) 0:=rfl;have e2:((0:Int),tabl (3*n) fun v=>if v<3*n then v/n else 3)=(fun k:Int=>(k,tabl (3*n+k) fun v=>if v<3*n then v/n else 3)) 0:=by
  show _=((0:Int),tabl (3*n+0) _);rw [Int.add_zero]
 have e3:((0:Int),([]:List Zb))=(fun k:Int=>(k,sqL n a k)) 0:=rfl;have k3:loop (ZgL a (sqC n)) (0,([]:List Zb))=some (.inr (.inr ⟨sqC n,sqL n a (3*n)⟩)):=by
  rw [e3,h3];exact Zc (by simp (disch:=omega) only [pz,ZgL,c])
 have k2:loop (Zfs a) (0,tabl (3*n) fun v=>if v<3*n then v/n else 3)=some (.inr ⟨sqC n,sqL n a (3*n)⟩):=by
  rw [e2,h2];refine Zc ?_;show Zfs a (n*n,sqC n)=_;simp (disch:=omega) only [pz,Zfs,c,k3]
 rw [u,h1];exact Zc (by simp (disch:=omega) only [pz,ZiM,c,k2])
theorem ZEY (hs:Sz2 a):ZeF a false=some (⟨sqC a.length,sqL a.length a (3*a.length)⟩,0):=by
 unfold ZeF;have hv:=(Zi8 hs).eq h;have n1:=h.n1;have aa:(a.length:Int)*a.length<=36:=by
  have:=Int.mul_le_mul h6 h6 ω (by omega:(0:Int)<=6);omega
 have j:0<=(a.length:Int)*a.length:=Int.mul_nonneg ω ω;have a1:=ZI0 h h6;have ab:=Zvf ω h6 a a.length;generalize hn:(a.length:Int)=n at n1 h6 aa j a1 ab ⊢;have h1:=Zh (B:=Zeo a false n) (fun k=>(tabl k fun v=>if v<3*n then v/n else 3,k)) (i:=0) (n:=3*n+n*n) ω fun k k0 k1=>by
  have hl:(tabl k fun v=>if v<3*n then v/n else 3).length<=54:=by rw [Zj];omega
  have a0:(tabl (k+1) fun v=>if v<3*n then v/n else 3)=_:=ZU k0;have hd:Int.tdiv k n=k/n:=Int.tdiv_eq_ediv_of_nonneg k0;have a6:0<=k/n:=Int.ediv_nonneg k0 ω;have a7:k/n<=k:=Int.ediv_le_self _ k0;have hw:ε.wrap (k/n)=k/n:=wr64 ω ω;have l:(if (3:Int)<k/n then 3 else k/n)=if k<3*n then k/n else 3:=by
   by_cases c:k<3*n
   ·have o:k/n<3:=Int.ediv_lt_of_lt_mul ω ω;rw [if_pos c,if_neg ω]
   ·have o:3<=k/n:=Int.le_ediv_of_mul_le ω ω;rw [if_neg c];by_cases d:3<k/n
    ·rw [if_pos d]
    ·rw [if_neg d];omega
  rw [<-l] at a0;rw [a0];generalize (tabl k fun v=>if v<3*n then v/n else 3)=X at hl ⊢;simp (disch:=omega) only [pz,Zeo,ZgM,hd,hw]
 have h2:=Zh (B:=Zg0 a n (sqC n)) (fun k=>(sqE n a k,k)) (i:=0) (n:=n) ω fun x x0 x1=>by
  have hE:=Zvf ω h6 a x.toNat;rw [show ((x.toNat:Nat):Int)=x by omega] at hE;have a3:0<=n*x:=Int.mul_nonneg ω x0;have a4:n*x<=n*n:=Int.mul_le_mul_of_nonneg_left ω ω;have hy:=Zh (B:=ZgH a n x) (fun y=>(sqE n a x++sqU n a x y,y)) (i:=0) (n:=n) ω fun y s y1=>by
   obtain ⟨u,e2,e3⟩:=Zoo h ω x0 ω s (show y<(a.length:Int) by omega);have hU:=Zrf n x a y.toNat;rw [show ((y.toNat:Nat):Int)=y by omega] at hU;have hl:(sqE n a x++sqU n a x y).length<=1000:=by rw [List.length_append];omega
   have a0:=Zr3 (n:=n) (x:=x) (a:=a) s;rw [a0,<-List.append_assoc];generalize sqE n a x++sqU n a x y=X at hl ⊢;have a5:gApp 16 X (sqT n a x y)=some (X++sqT n a x y):=ZaQ (by simp [sqT];omega) (by simp [sqT];omega);unfold sqT at a5 ⊢;simp (disch:=omega) only [pz,ZgH,a5]
  have e0:(sqE n a x,(0:Int))=(fun y:Int=>(sqE n a x++sqU n a x y,y)) 0:=by
   show _=(_++sqU n a x 0,(0:Int));rw [show sqU n a x 0=[] from rfl,List.append_nil]
  have a8:loop (ZgH a n x) (sqE n a x,0)=some (.inl (sqE n a (x+1),x+1)):=by
   rw [e0,hy];refine Zc ?_;rw [Zt6 x0];simp (disch:=omega) only [pz,ZgH]
  simp (disch:=omega) only [pz,Zg0,a8]
 have u:(([]:List Int),(0:Int))=(fun k:Int=>(tabl k fun v=>if v<3*n then v/n else 3,k)) 0:=rfl;have e3:(([]:List Zb),(0:Int))=(fun k:Int=>(sqE n a k,k)) 0:=rfl;have aj:(sqC n).length=(3*n+n*n).toNat:=Zj;have a2:=Zu4 (cs:=sqC n) (es:=sqE n a n) ω;rw [if_neg ω,if_neg ω,a1] at a2;have k3:loop (Zg0 a n (sqC n)) (([]:List Zb),0)=some (.inr (⟨sqC n,sqL n a (3*n)⟩,0)):=by
  rw [e3,h2];exact Zc (by simp (disch:=omega) only [pz,Zg0,a2])
 have k1:loop (Zeo a false n) (([]:List Int),0)=some (⟨sqC n,sqL n a (3*n)⟩,0):=by
  rw [u,h1];refine Zc ?_;show Zeo a false n (sqC n,3*n+n*n)=_;simp (disch:=omega) only [pz,Zeo,k3]
 simp (disch:=omega) only [pz,hv,Z0,hn,k1]
end
theorem ZGj {a:List (List Int)} (h:ValidSq a) (hs:Sz2 a):∃ r,Zf1 a false=some r/\ZeF a false=some r/\r.1.Colors.length<=64/\r.1.Edges.length<=1000:=by
 have c:=(ZoF hs).eq h;have n1:=h.n1;by_cases h6:(a.length:Int)<=6
 ·have s:=ZEZ h h6;have j:(a.length:Int)*a.length<=36:=by
   have:=Int.mul_le_mul h6 h6 ω (by omega:(0:Int)<=6);omega
  have hl:=Zvz (n:=a.length) ω h6 a (3*a.length);refine ⟨_,?_,ZEY h h6 hs,?_,?_⟩
  ·unfold Zf1;simp (disch:=omega) only [pz,c,s]
  ·show (sqC a.length).length<=64;unfold sqC;rw [Zj];omega
  ·show (sqL a.length a (3*a.length)).length<=1000;rw [show ((3*a.length:Nat):Int)=3*(a.length:Int) by omega] at hl;omega
 ·refine ⟨(nilG,5),?_,?_,by simp [nilG],by simp [nilG]⟩
  ·unfold Zf1;simp (disch:=omega) only [pz,c];rfl
  ·unfold ZeF;have hv:=(Zi8 hs).eq h;simp (disch:=omega) only [pz,hv,Z0];rfl
def marks (k:Int) (n:Nat):List Int:=(List.range n).map fun (j:Nat)=>k+(j:Int)
theorem ZcF (k:Int) (n:Nat):(marks k n).length=n:=by unfold marks;simp
theorem ZBX {k:Int} {n j:Nat} (h:j<n):(marks k n)[j]?=some (k+(j:Int)):=by
 unfold marks;rw [List.getElem?_map,List.getElem?_range h];rfl
theorem ZF3 {xs:List Int} {k:Int} (h:xs.length<=4194304) (y:0<=k) (h1:k<=9100000000000000000):ZjC xs k=some (k+(xs.length:Int),marks k xs.length):=by
 unfold ZjC
 let f:Nat->Int×Int×List Int:=fun j=>(k+(j:Int),(j:Int),marks k j++xs.drop j)
 have o:f 0=(k,0,xs):=by simp [f,marks]
 have s:f xs.length=(k+(xs.length:Int),(xs.length:Int),marks k xs.length):=by simp only [f];rw [List.drop_length,List.append_nil]
 rw [<-o,Ze1 f xs.length fun j hj=>?_,s]
 ·refine Zc ?_;rw [Zly];have:decide ((xs.length:Int)<((marks k xs.length).length:Int))=false:=by rw [ZcF];simp
  rw [this];rfl
 ·obtain ⟨x,c⟩:=ZaK (xs:=xs) (k:=j) hj;have hl:(marks k j++xs.drop j).length=xs.length:=by rw [List.length_append,ZcF,List.length_drop];omega
  have u:(marks k j++xs.drop j)[j]?=some x:=by
   rw [List.getElem?_append_right (by rw [ZcF];omega),ZcF,Nat.sub_self,List.getElem?_drop];simpa using c
  simp only [f];rw [Zly];have:decide ((j:Int)<((marks k j++xs.drop j).length:Int))=true:=by rw [hl];simpa using hj
  rw [this,ZbC u];simp only [cond_true,Option.bind_some];rw [wrapN hj (by unfold M63;omega),Zaf ω ω,Int.toNat_natCast];have hs:(marks k j++xs.drop j).set j (k+(j:Int))=marks k (j+1)++xs.drop (j+1):=by
   rw [List.set_append,if_neg (by rw [ZcF];omega),ZcF,Nat.sub_self];have hd:xs.drop j=x::xs.drop (j+1):=by
    rw [List.drop_eq_getElem_cons hj];congr 1;have:=List.getElem?_eq_getElem (l:=xs) (i:=j) hj;rw [c] at this;exact (Option.some.inj this).symm
   rw [hd];unfold marks;rw [List.range_succ,List.map_append];simp
  rw [hs,show k+(j:Int)+1=k+((j+1:Nat):Int) by omega]
theorem ZAf {n:Nat} {k:Int} (h:n<=4194304) (l:0<=k) (h1:k<=9100000000000000000):ZiO (marks k n) k=some (k+(n:Int)):=by
 unfold ZiO
 let f:Nat->Int×Int:=fun j=>(k+(j:Int),(j:Int))
 have c:f 0=(k,0):=by simp [f]
 rw [<-c,Ze1 f n fun j o=>?_]
 ·refine Zc ?_;simp only [f];rw [Zqz];have:decide ((n:Int)<((marks k n).length:Int))=false:=by rw [ZcF];simp
  rw [this];rfl
 ·simp only [f];rw [Zqz];have:decide ((j:Int)<((marks k n).length:Int))=true:=by rw [ZcF];simpa using o
  rw [this,ZbC (ZBX o)];simp only [cond_true,Option.bind_some];have i:((k+(j:Int)) !=(k+(j:Int)))=false:=by simp
  rw [i];simp only [cond_false];rw [wrapN o (by unfold M63;omega),Zaf ω ω,show k+(j:Int)+1=k+((j+1:Nat):Int) by omega]
def marksR:Int->List (List Int)->List (List Int)
 | _,[]=>[]
 | k,r::rs=>marks k r.length::marksR (k+r.length) rs
def total:List (List Int)->Nat
 | []=>0
 | r::rs=>r.length+total rs
theorem Zi1:∀ (xs:List (List Int)),(∀ r∈xs,r.length<=4194304)->total xs<=xs.length*4194304
 | [],_=>by simp [total]
 | r::rs,h=>by
  have h1:=h r (List.mem_cons_self ..);have i:=Zi1 rs fun x c=>h x (List.mem_cons_of_mem _ c);simp only [total,List.length_cons];omega
theorem ZeH:∀ (k:Int) (xs:List (List Int)),(marksR k xs).length=xs.length
 | _,[]=>rfl
 | k,r::rs=>by simp [marksR,ZeH]
theorem Zrd {xs:List (List Int)} {j:Nat} {r:List Int} (h:xs[j]?=some r):total (xs.take (j+1))=total (xs.take j)+r.length:=by
 induction xs generalizing j with
 | nil=>simp at h
 | cons x xs k=>
  cases j with
  | zero=>simp at h;subst h;simp [total]
  | succ j=>simp only [List.take_succ_cons,total];rw [k (by simpa using h)];omega
theorem ZqZ {xs:List (List Int)} {j:Nat} {r:List Int} (h:xs[j]?=some r):∀ k:Int,(marksR k xs)[j]?=some (marks (k+(total (xs.take j):Int)) r.length):=by
 induction xs generalizing j with
 | nil=>simp at h
 | cons x xs l=>
  intro k;cases j with
  | zero=>simp at h;subst h;simp [marksR,total]
  | succ j=>
   simp only [marksR,List.getElem?_cons_succ,List.take_succ_cons,total];rw [l (by simpa using h)];congr 2;omega
theorem ZqS (xs:List (List Int)) (j:Nat):total (xs.take j)<=total xs:=by
 induction xs generalizing j with
 | nil=>simp [total]
 | cons x xs k=>
  cases j with
  | zero=>simp [total]
  | succ j=>simp only [List.take_succ_cons,total];have:=k j;omega
theorem ZJb {xs:List (List Int)} {k:Int} (h:xs.length<=4194304) (hr:∀ r∈xs,r.length<=4194304) (y:0<=k) (h1:k<=9000000000000000000):ZiU xs k=some (k+(total xs:Int),marksR k xs):=by
 have a2:=Zi1 xs hr;have a4:total xs<=17592186044416:=Nat.le_trans a2 ω;unfold ZiU
 let f:Nat->Int×Int×List (List Int):=fun j=>(k+(total (xs.take j):Int),(j:Int),(marksR k xs).take j++xs.drop j)
 have o:f 0=(k,0,xs):=by simp [f,total]
 have s:f xs.length=(k+(total xs:Int),(xs.length:Int),marksR k xs):=by
  simp only [f];rw [List.take_length,List.drop_length,List.append_nil,List.take_of_length_le (by rw [ZeH];omega)]
 rw [<-o,Ze1 f xs.length fun j hj=>?_,s]
 ·refine Zc ?_;rw [Zjh];have:decide ((xs.length:Int)<((marksR k xs).length:Int))=false:=by rw [ZeH];simp
  rw [this];rfl
 ·obtain ⟨r,c⟩:=ZaK (xs:=xs) (k:=j) hj;have a1:((marksR k xs).take j).length=j:=by rw [List.length_take,ZeH];omega
  have hl:((marksR k xs).take j++xs.drop j).length=xs.length:=by rw [List.length_append,a1,List.length_drop];omega
  have u:((marksR k xs).take j++xs.drop j)[j]?=some r:=by
   rw [List.getElem?_append_right ω,a1,Nat.sub_self,List.getElem?_drop];simpa using c
  have a5:=ZqS xs j;simp only [f];rw [Zjh];have:decide ((j:Int)<(((marksR k xs).take j++xs.drop j).length:Int))=true:=by rw [hl];simpa using hj
  rw [this,ZbC u];simp only [cond_true,Option.bind_some];rw [ZF3 (hr r (List.mem_of_getElem? c)) ω ω];simp only [Option.bind_some];rw [wrapN hj (by unfold M63;omega),Int.toNat_natCast];have hs:((marksR k xs).take j++xs.drop j).set j (marks (k+(total (xs.take j):Int)) r.length)=(marksR k xs).take (j+1)++xs.drop (j+1):=by
   rw [List.set_append,if_neg ω,a1,Nat.sub_self,List.take_add_one,ZqZ c];have hd:xs.drop j=r::xs.drop (j+1):=by
    rw [List.drop_eq_getElem_cons hj];congr 1;have:=List.getElem?_eq_getElem (l:=xs) (i:=j) hj;rw [c] at this;exact (Option.some.inj this).symm
   rw [hd];simp
  rw [hs,Zrd c,show k+(total (xs.take j):Int)+(r.length:Int)=k+((total (xs.take j)+r.length:Nat):Int) by omega]
theorem Ztd {l:List Int} {hi:Int} (h:Rising l 0 hi):∀ n:Nat,(n:Int)<l.length->(n:Int)<=ix l n
 | 0,c=>(h 0 ω c).1.1
 | n+1,c=>by
  have:=Ztd h n ω;have i:=(h ((n+1:Nat):Int) ω c).2 ω;rw [show ((n+1:Nat):Int)-1=(n:Int) by omega] at i;omega
theorem Zw0 {l:List Int} {lo hi:Int} (h:Rising l lo hi):l.Nodup:=by
 unfold List.Nodup;rw [List.pairwise_iff_getElem];intro i j hi u o;have h1:=ZGs h (i:=(i:Int)) (j:=(j:Int)) ω ω ω;have c:=Zaa (xs:=l) (i:=(i:Int)) ω ω;have k:=Zaa (xs:=l) (i:=(j:Int)) ω ω;rw [Int.toNat_natCast,List.getElem?_eq_getElem ω] at c k;rw [Option.some.inj c,Option.some.inj k];omega
theorem ZDV {d:Zae} (h:ValidD d):Sts d.Points d.Blocks where
 v0:=by have:=h.p1;omega
 v1:=by have:=h.p2;omega
 m:=by have:=h.len;omega
 len:=fun s hs=>by
  obtain ⟨k,k0,k1,rfl⟩:=ZR hs;have hr:=(h.blk k k0 k1).2;have o:=h.p2;by_cases hz:(ix d.Blocks k).length=0
  ·omega
  ·have u:=Ztd hr ((ix d.Blocks k).length-1) ω;have y:=(hr (((ix d.Blocks k).length-1:Nat):Int) ω ω).1.2;omega
 nd:=fun s hs=>by
  obtain ⟨k,k0,k1,rfl⟩:=ZR hs;exact Zw0 (h.blk k k0 k1).2
 rng:=fun s hs x c=>by
  obtain ⟨k,k0,k1,rfl⟩:=ZR hs;obtain ⟨j,i,l,rfl⟩:=ZR c;have:=((h.blk k k0 k1).2 j i l).1;omega
theorem ZvB {v m:Int} {rel:Int->Int->Bool} (v0:0<=v) (i:0<=m):(bipG v m rel).1.Colors.length<=1000/\(bipG v m rel).1.Edges.length<=1000:=by
 unfold bipG;by_cases c:v+m>64
 ·rw [if_pos c];exact ⟨Nat.zero_le _,Nat.zero_le _⟩
 ·rw [if_neg c];by_cases d:((bipK v m rel v).length:Int)>512
  ·rw [if_pos d];exact ⟨Nat.zero_le _,Nat.zero_le _⟩
  ·rw [if_neg d];have j:=ZsC (z:=v) (o:=m);exact ⟨by show (cols v m).length<=1000;omega,by show (bipK v m rel v).length<=1000;omega⟩
theorem ZEn {o:Zf} (hs:Sz2 o.Rows) (hv:ZaA o=some true) (hi:ZaE o=some true):∃ r,ZcG o=some r/\Zcm o=some r/\r.1.Colors.length<=1000/\r.1.Edges.length<=1000:=by
 have e:Zf.mk o.Kind o.Size o.Rows=o:=rfl;have eG:∀ r:Za×Int,(Za.mk r.1.Colors r.1.Edges,r.2)=r:=fun r=>rfl;have eH:∀ r:Za,Za.mk r.Colors r.Edges=r:=fun r=>rfl;have hN:=hs.1;by_cases h1:o.Kind=1
 ·have j:ValidSq o.Rows:=by
   refine Classical.byContradiction fun s=>?_;have j:=(ZoF hs).ne s;have:ZaA o=some false:=by unfold ZaA;simp (disch:=omega) only [pz,j]
   rw [hv] at this;cases this
  obtain ⟨r,c,k,l,y⟩:=ZGj j hs;refine ⟨r,?_,?_,by omega,y⟩
  ·unfold ZcG;simp (disch:=omega) only [pz,c,eG]
  ·unfold Zcm;simp (disch:=omega) only [pz,k,eG]
 by_cases h2:o.Kind=2
 ·have j:ValidD ⟨o.Size,o.Rows⟩:=by
   refine Classical.byContradiction fun s=>?_;have j:=(Ztl (d:=⟨o.Size,o.Rows⟩) hs).ne s;have:ZaA o=some false:=by unfold ZaA;simp (disch:=omega) only [pz,j]
   rw [hv] at this;cases this
  have a2:=ZDV j;have c:=ZI1 a2;have k:=Zwt a2;have l:=(Zqw (d:=⟨o.Size,o.Rows⟩) hs).eq j;have a0:0<=o.Size:=a2.v0;obtain ⟨z1,z2⟩:=ZvB (v:=o.Size) (m:=(o.Rows.length:Int)) (rel:=fun x i=>decide (x∈ix o.Rows i)) a0 ω;refine ⟨bipG o.Size o.Rows.length fun x i=>decide (x∈ix o.Rows i),?_,?_,z1,z2⟩
  ·unfold ZcG;dsimp only at c;simp (disch:=omega) only [pz,c,eG]
  ·unfold Zcm;dsimp only at k;simp (disch:=omega) only [pz,e,ZeU,Zbb hs,ZoC,l,k,eG]
 by_cases h5:o.Kind=5
 ·obtain ⟨f,inv,u⟩:=Zzf hs hv h5;obtain ⟨r,c,k,l⟩:=ZCu hs u;have a5:=u.cs;have a3:=u.ci;have eF:Ze.mk f.Prime f.Degree f.Poly=f:=rfl;have hz:r.1.Colors.length<=1000/\r.1.Edges.length<=1000:=by
   rcases l with rfl|⟨v,m,rel,v0,m0,rfl⟩
   ·exact ⟨Nat.zero_le _,Nat.zero_le _⟩
   ·exact ZvB v0 m0
  refine ⟨r,?_,?_,hz⟩
  ·unfold ZcG;simp (disch:=omega) only [pz,a5,eF,c,eG]
  ·unfold Zcm;simp (disch:=omega) only [pz,e,a3,k,eG]
 by_cases h6:o.Kind=6
 ·obtain ⟨r,c,k,l,y⟩:=Zps hs;have hr:r.2=true:=by
   have:ZaA o=some r.2:=by unfold ZaA;simp (disch:=omega) only [pz,c]
   rw [hv] at this;exact (Option.some.inj this).symm
  have hz:=l hr;refine ⟨(r.1,0),?_,?_,by dsimp only;omega,by dsimp only;omega⟩
  ·unfold ZcG;simp (disch:=omega) only [pz,c,eH]
  ·unfold Zcm;simp (disch:=omega) only [pz,e,ZqG,Zqp,hi,k,eH]
 ·refine ⟨(nilG,6),?_,?_,Nat.zero_le _,Nat.zero_le _⟩
  ·unfold ZcG;simp (disch:=omega) only [pz,];rfl
  ·unfold Zcm;simp (disch:=omega) only [pz,];rfl
theorem ZGP {o:Zf} (hs:Sz2 o.Rows) (B:Int):∃ r,Zkb o B=some r/\Zkj o B=some r:=by
 have e:Zf.mk o.Kind o.Size o.Rows=o:=rfl;obtain ⟨c,h1,j⟩:=Zwl hs;unfold Zkb Zkj;have k:=in_ok B 1 20000;have i:=Znh B;cases c
 ·exact ⟨(⟨#[]⟩,1),by simp (disch:=omega) only [pz,e,h1],by simp (disch:=omega) only [pz,e,j]⟩
 by_cases hB:1<=B/\B<=20000
 ·rw [decide_eq_true hB] at k i;obtain ⟨r,l,s,u,y⟩:=ZEn hs h1 j;have eH:∀ r:Za,Za.mk r.Colors r.Edges=r:=fun r=>rfl;by_cases hc:r.2=0
  ·obtain ⟨x,k1,k2⟩:=ZCf (g:=r.1) ω ω hB.1 hB.2;exact ⟨x,by simp (disch:=omega) only [pz,e,h1,k,l,eH,k1],by simp (disch:=omega) only [pz,e,j,i,s,eH,k2]⟩
  ·exact ⟨(⟨#[]⟩,r.2),by simp (disch:=omega) only [pz,e,h1,k,l],by simp (disch:=omega) only [pz,e,j,i,s]⟩
 ·rw [decide_eq_false hB] at k i;exact ⟨(⟨#[]⟩,2),by simp (disch:=omega) only [pz,e,h1,k],by simp (disch:=omega) only [pz,e,j,i]⟩
theorem Zcz (s:ByteArray):(byts s).length=s.size:=by
 unfold byts;rw [List.length_map,Array.length_toList];rfl
theorem ZmW {s:ByteArray} {i:Int} (j:0<=i) (h1:i<(s.size:Int)):∃ c:UInt8,gSt s i=some c/\(c.toNat:Int)=ix (byts s) i:=by
 have hl:i.toNat<s.size:=ω;refine ⟨s[i.toNat],?_,?_⟩
 ·unfold gSt;rw [if_pos j];exact getElem?_pos s i.toNat hl
 ·have k:i.toNat<(byts s).length:=by rw [Zcz];exact hl
  have:(byts s)[i.toNat]?=some ((s[i.toNat]).toNat:Int):=by
   rw [List.getElem?_eq_getElem k];simp [byts];rfl
  have l:=Zaa (xs:=byts s) j (by rw [Zcz];exact h1);rw [this] at l;exact Option.some.inj l
structure Nam (s:ByteArray):Prop where
 s1:1<=(s.size:Int)
 s2:(s.size:Int)<=10
 fst:97<=ix (byts s) 0/\ix (byts s) 0<=122
 all:∀ i,0<=i->i<(s.size:Int)->(97<=ix (byts s) i/\ix (byts s) i<=122)\/(48<=ix (byts s) i/\ix (byts s) i<=57)
theorem ZFK (s:ByteArray):IsQ (Zku s) (Nam s):=by
 unfold Zku Znt;by_cases u:(s.size:Int)=0
 ·have e:s=⟨#[]⟩:=by
   have:s.data=#[]:=Array.eq_empty_of_size_eq_zero (by have:s.size=s.data.size:=rfl;omega);cases s;simp at this;rw [this]
  rw [(ZX s ⟨#[]⟩).2 e];exact IsQ.f fun h=>by have:=h.s1;omega
 ·have ne:(s.toList==(⟨#[]⟩:ByteArray).toList)=false:=by
   cases hb:s.toList==(⟨#[]⟩:ByteArray).toList with
   | false=>rfl
   | true=>
    have:=(ZX s ⟨#[]⟩).1 hb;rw [this] at u;exact absurd rfl u
  rw [ne];by_cases k:(s.size:Int)<=10
  ·obtain ⟨c,j,he⟩:=ZmW (s:=s) (i:=0) ω ω;by_cases hf:97<=ix (byts s) 0/\ix (byts s) 0<=122
   ·simp (disch:=omega) only [pz,j,Za7,he];refine (Zav (P:=fun i=>(97<=ix (byts s) i/\ix (byts s) i<=122)\/(48<=ix (byts s) i/\ix (byts s) i<=57)) (n:=s.size) (Q:=True) ω ?_ ?_ fun _=>?_).congr ⟨fun g=>⟨by omega,k,hf,g.1⟩,fun g=>⟨g.all,trivial⟩⟩
    ·intro i l o g2;obtain ⟨c,j,he⟩:=ZmW (s:=s) l o;by_cases hl:97<=ix (byts s) i
     ·by_cases a2:ix (byts s) i<=122
      ·simp (disch:=omega) only [pz,Zdy,j,Za7,ZaO,he]
      ·omega
     ·simp (disch:=omega) only [pz,Zdy,j,Za7,ZaO,he]
    ·intro i l o g2;obtain ⟨c,j,he⟩:=ZmW (s:=s) l o;by_cases hl:97<=ix (byts s) i
     ·simp (disch:=omega) only [pz,Zdy,j,Za7,ZaO,he]
     ·by_cases hd:48<=ix (byts s) i
      ·simp (disch:=omega) only [pz,Zdy,j,Za7,ZaO,he]
      ·simp (disch:=omega) only [pz,Zdy,j,Za7,ZaO,he]
    ·rw [Zc (r:=true) (by simp (disch:=omega) only [pz,Zdy])];exact IsQ.t trivial
   ·have y:IsQ (some false) (Nam s):=IsQ.f fun h=>hf h.fst;by_cases hl:97<=ix (byts s) 0
    ·simp (disch:=omega) only [pz,j,Za7,he];exact y
    ·simp (disch:=omega) only [pz,j,Za7,he];exact y
  ·simp (disch:=omega) only [pz,];exact IsQ.f fun h=>k h.s2
theorem ZJj (s:ByteArray):IsQ (ZlP s) (Nam s):=by
 have a0:=Zcz s;unfold ZlP ZpT;by_cases y:(s.size:Int)<1
 ·simp (disch:=omega) only [pz,];exact IsQ.f fun h=>by have:=h.s1;omega
 ·by_cases c:(s.size:Int)<=10
  ·simp (disch:=omega) only [pz,];refine (Zav (P:=fun i=>(97<=ix (byts s) i/\ix (byts s) i<=122)\/(¬ i=0/\48<=ix (byts s) i/\ix (byts s) i<=57)) (n:=s.size) (Q:=True) ω ?_ ?_ fun _=>?_).congr ⟨fun g=>⟨by omega,c,?_,fun i a b=>?_⟩,fun g=>⟨fun i a b=>?_,trivial⟩⟩
   ·intro i j k l;by_cases hl:97<=ix (byts s) i
    ·by_cases u:ix (byts s) i<=122
     ·simp (disch:=omega) only [pz,ZbA,Zbg,Za4]
     ·omega
    ·simp (disch:=omega) only [pz,ZbA,Zbg,Za4]
   ·intro i j k l;by_cases hl:97<=ix (byts s) i
    ·by_cases hz:i=0
     ·simp (disch:=omega) only [pz,ZbA,Zbg,Za4]
     ·simp (disch:=omega) only [pz,ZbA,Zbg,Za4]
    ·by_cases hz:i=0
     ·by_cases hd:48<=ix (byts s) i
      ·simp (disch:=omega) only [pz,ZbA,Zbg,Za4]
      ·simp (disch:=omega) only [pz,ZbA,Zbg,Za4]
     ·by_cases hd:48<=ix (byts s) i
      ·simp (disch:=omega) only [pz,ZbA,Zbg,Za4]
      ·simp (disch:=omega) only [pz,ZbA,Zbg,Za4]
   ·rw [Zc (r:=true) (by simp (disch:=omega) only [pz,ZbA])];exact IsQ.t trivial
   ·have:=g.1 0 ω ω;omega
   ·have:=g.1 i a b;omega
   ·have h1:=g.all i a b;have o:=g.fst;by_cases hz:i=0
    ·subst hz;exact .inl o
    ·omega
  ·simp (disch:=omega) only [pz,];exact IsQ.f fun h=>c h.s2
instance :Inhabited Zd:=⟨⟨⟨#[]⟩,⟨0,0,[]⟩,⟨#[]⟩⟩⟩
def ObjV (o:Zf):Prop:=ZaA o=some true
structure ItemV (x:Zd):Prop where
 nam:Nam x.Name
 obj:ObjV x.Object
 k1:1<=(x.Key.size:Int)
 k2:(x.Key.size:Int)<=4000
theorem Zpw:∀ a b:List UInt8,(Op.bytesLess a b||a==b)=!Op.bytesLess b a
 | [],[]=>rfl
 | [],b::y=>rfl
 | a::x,[]=>rfl
 | a::x,b::y=>by
  have o:=Zpw x y;show ((decide (a<b)||(a==b&&Op.bytesLess x y))||((a::x)==(b::y)))=!(decide (b<a)||(b==a&&Op.bytesLess y x));rw [show ((a::x)==(b::y))=(a==b&&x==y) from rfl];by_cases h:a=b
  ·subst h;have h1:decide (a<a)=false:=by simp
   rw [h1,beq_self_eq_true];simpa using o
  ·have h1:(a==b)=false:=by simpa using h
   have c:(b==a)=false:=by simpa using fun e=>h e.symm
   rw [h1,c];simp only [Bool.false_and,Bool.or_false];have i:a<b\/b<a:=by
    rcases Nat.lt_or_gt_of_ne (fun e=>h (UInt8.toNat_inj.1 e)) with g|g
    ·exact .inl (UInt8.lt_iff_toNat_lt.2 g)
    ·exact .inr (UInt8.lt_iff_toNat_lt.2 g)
   rcases i with g|g
   ·have:¬ b<a:=fun l=>by
     have j:=UInt8.lt_iff_toNat_lt.1 g;have k:=UInt8.lt_iff_toNat_lt.1 l;omega
    simp [g,this]
   ·have:¬ a<b:=fun l=>by
     have j:=UInt8.lt_iff_toNat_lt.1 g;have k:=UInt8.lt_iff_toNat_lt.1 l;omega
    simp [g,this]
def Like (a b:Zd):Prop:=a.Object.Kind=b.Object.Kind/\a.Key=b.Key
theorem Zr1 (a b:Zd):IsQ (Zgt a b) (Like a b):=by
 unfold Zgt Like;by_cases h:a.Object.Kind=b.Object.Kind
 ·simp (disch:=omega) only [pz,];exact ⟨_,rfl,by rw [ZX];simp [h]⟩
 ·simp (disch:=omega) only [pz,];exact IsQ.f fun g=>h g.1
theorem ZIv (a b:Zd):IsQ (Znd a b) (Like a b):=Zr1 a b
def Szc (c:List Zd):Prop:=(c.length:Int)<=1048576/\∀ x∈c,Sz2 x.Object.Rows
structure At (c:List Zd) (i:Int):Prop where
 item:ItemV (ix c i)
 ord:0<i->Op.bytesLess (ix c (i-1)).Name.toList (ix c i).Name.toList=true
 new:∀ j,0<=j->j<i->¬ Like (ix c i) (ix c j)
structure CatV (c:List Zd):Prop where
 at_:∀ i,0<=i->i<(c.length:Int)->At c i
 n:(c.length:Int)<=24
theorem ZEG {c:Zm} (h:Szc c.Items):Zu1 c:=by
 refine ⟨by unfold M63;have:=h.1;omega,fun x i=>?_⟩;have j:=h.2 x i;exact ⟨by unfold M63;have:=j.1;omega,fun y k=>⟨by unfold M63;have:=j.2 y k;omega,fun _ _=>trivial⟩⟩
theorem Zxj {xs:List (List Int)} {k:Int} (h:xs.length<=4194304) (hr:∀ r∈xs,r.length<=4194304) (s:0<=k) (h1:k<=9000000000000000000):Zl8 (marksR k xs) k=some (k+(total xs:Int)):=by
 have a1:=Zi1 xs hr;have a3:total xs<=17592186044416:=Nat.le_trans a1 ω;unfold Zl8
 let f:Nat->Int×Int:=fun j=>(k+(total (xs.take j):Int),(j:Int))
 have i:f 0=(k,0):=by simp [f,total]
 have l:f xs.length=(k+(total xs:Int),(xs.length:Int)):=by simp only [f];rw [List.take_length]
 rw [<-i,Ze1 f xs.length fun j u=>?_,l]
 ·refine Zc ?_;rw [ZoZ];have:decide ((xs.length:Int)<((marksR k xs).length:Int))=false:=by rw [ZeH];simp
  rw [this];rfl
 ·obtain ⟨r,c⟩:=ZaK (xs:=xs) (k:=j) u;have a4:=ZqS xs j;have o:=ZqS xs (j+1);simp only [f];rw [ZoZ];have:decide ((j:Int)<((marksR k xs).length:Int))=true:=by rw [ZeH];simpa using u
  rw [this,ZbC (ZqZ c k)];simp only [cond_true,Option.bind_some];rw [ZAf (hr r (List.mem_of_getElem? c)) ω ω];simp only [Option.bind_some];have a0:decide (k+(total (xs.take j):Int)+(r.length:Int)<0)=false:=by simp;omega
  rw [a0];simp only [cond_false];rw [wrapN u (by unfold M63;omega),Zrd c,show k+(total (xs.take j):Int)+(r.length:Int)=k+((total (xs.take j)+r.length:Nat):Int) by omega]
theorem ZwA {a b:ByteArray} (h:a.size+b.size<=1000):gFit a b=some ():=by
 unfold gFit;rw [if_pos];have:IntKind.i64.max=9223372036854775807:=rfl;omega
theorem gByt1 {x:Int} (c:0<=x) (h1:x<=255):gByt [x]=some (bstr [x]):=by
 unfold gByt;rw [if_pos];intro y j;simp at j;omega
theorem bstr1 (x:Int):(bstr [x]).size=1:=rfl
theorem Zxx (a b:ByteArray):(a++b).size=a.size+b.size:=by simp
theorem ZxD:∀ (n:Nat) (k:Int) (o:ByteArray),0<=k->k<10^n->k<=9223372036854775807->o.size+n<=100->∃ t,loop Zhc (k,o)=some t:=by
 have u:∀ o:ByteArray,o.size<=100->loop Zhc (0,o)=some ((⟨#[109]⟩:ByteArray)++o):=fun o h=>by
  have hf:gFit ⟨#[109]⟩ o=some ():=ZwA (by show 1+o.size<=1000;omega);refine Zc ?_;simp (disch:=omega) only [pz,Zhc,hf]
 intro n;induction n with
 | zero=>
  intro k o c h1 _ i;have:k=0:=by simp at h1;omega
  subst this;exact ⟨_,u o ω⟩
 | succ n ih=>
  intro k o c h1 l i;by_cases hk:k=0
  ·subst hk;exact ⟨_,u o ω⟩
  ·have hm:Int.tmod k 10=k%10:=Int.tmod_eq_emod_of_nonneg c;have hd:Int.tdiv k 10=k/10:=Int.tdiv_eq_ediv_of_nonneg c;have w1:ε.wrap (48+k%10)=48+k%10:=Zaf ω ω;have w2:IntKind.u8.wrap (48+k%10)=48+k%10:=u8_of ω ω;have j:=gByt1 (x:=48+k%10) ω ω;have hf:gFit (bstr [48+k%10]) o=some ():=ZwA (by rw [bstr1];omega);have hp:k/10<10^n:=by
    have e:(10:Int)^(n+1)=10^n*10:=Int.pow_succ ..;omega
   obtain ⟨t,ht⟩:=ih (k/10) (bstr [48+k%10]++o) ω hp ω (by rw [Zxx,bstr1];omega);refine ⟨t,?_⟩;rw [<-ht];refine Zy ?_;simp (disch:=omega) only [pz,Zhc,hm,hd,w1,w2,j,hf]
theorem mtext {k:Int} (h1:k<=9223372036854775807):∃ t,Zb4 k=some t:=by
 unfold Zb4;by_cases h:k<=0
 ·exact ⟨⟨#[109,48]⟩,by simp (disch:=omega) only [pz,]⟩
 ·obtain ⟨t,j⟩:=ZxD 19 k ⟨#[]⟩ ω ω h1 (by decide);exact ⟨t,by simp (disch:=omega) only [pz,j]⟩
noncomputable def mtx (k:Int):ByteArray:=(Zb4 k).getD ⟨#[]⟩
theorem Zla {k:Int} (h1:k<=9223372036854775807):Zb4 k=some (mtx k):=by
 obtain ⟨t,j⟩:=mtext h1;unfold mtx;rw [j];rfl
instance :Inhabited ByteArray:=⟨⟨#[]⟩⟩
noncomputable def mIt (k:Int) (x:Zd):Zd:=⟨mtx k,⟨k+1,k+1+1,marksR (k+1+1+1) x.Object.Rows⟩,mtx (k+1+1+1+(total x.Object.Rows:Int))⟩
def kIt (k:Int) (x:Zd):Int:=k+1+1+1+(total x.Object.Rows:Int)+1
noncomputable def mItems:Int->List Zd->List Zd
 | _,[]=>[]
 | k,x::xs=>mIt k x::mItems (kIt k x) xs
def kItems:Int->List Zd->Int
 | k,[]=>k
 | k,x::xs=>kItems (kIt k x) xs
theorem ZtO:∀ (k:Int) (xs:List Zd),(mItems k xs).length=xs.length
 | _,[]=>rfl
 | k,x::xs=>by simp [mItems,ZtO]
theorem Zj0 {r:List (List Int)} (h:Sz2 r):total r<=4398046511104:=by
 have h1:=h.1;have i:=Zi1 r fun x c=>by have:=h.2 x c;omega
 omega
theorem gMid {j:Type} {A C:List j} {y:j}:gIdx (A++y::C) (A.length:Int)=some y:=by
 unfold gIdx;rw [if_pos ω,Int.toNat_natCast,List.getElem?_append_right (Nat.le_refl _),Nat.sub_self];rfl
theorem sMid {j:Type} {A C:List j} {y z:j}:(A++y::C).set A.length z=A++z::C:=by
 rw [List.set_append_right _ _ (Nat.le_refl _),Nat.sub_self];rfl
theorem iMid {j:Type} [Inhabited j] {A C:List j} {y:j}:ix (A++y::C) (A.length:Int)=y:=ixMid rfl
theorem ZDS {A C:List Zd} {b:Zd} {k:Int} (hs:Sz2 b.Object.Rows) (j:0<=k) (h1:k<=8900000000000000000) (u:A.length+C.length<=4194304):
  Zez (k,(A.length:Int),A++b::C)=some (.inl (kIt k b,(A.length:Int)+1,A++mIt k b::C)):=by
 have hl:((A++b::C).length:Int)=(A.length:Int)+1+(C.length:Int):=by simp;omega
 have o:=Zj0 hs;have hm:=ZJb (xs:=b.Object.Rows) (k:=k+1+1+1) (by have:=hs.1;omega) (fun r l=>by have:=hs.2 r l;omega) ω ω;have c:=Zla (k:=k) ω;have i:=Zla (k:=k+1+1+1+(total b.Object.Rows:Int)) ω;have w1:ε.wrap (k+1+1+1+(total b.Object.Rows:Int)+1)=k+1+1+1+(total b.Object.Rows:Int)+1:=Zaf ω ω;simp (disch:=omega) only [pz,Zez,gMid,iMid,sMid,c,hm,i,w1,mIt,kIt]
theorem ZzJ:∀ (C A:List Zd) (k:Int),(∀ x∈C,Sz2 x.Object.Rows)->0<=k->k+C.length*4398046511108<=8900000000000000000->A.length+C.length<=4194304 ->
  loop Zez (k,(A.length:Int),A++C)=some (kItems k C,A++mItems k C):=by
 intro C;induction C with
 | nil=>
  intro A k _ c _ l;refine Zc ?_;have hl:(((A++[]).length:Nat):Int)=(A.length:Int):=by simp
  simp (disch:=omega) only [pz,Zez,hl,kItems,mItems,List.append_nil]
 | cons b C o=>
  intro A k hs c h1 l;rw [List.length_cons] at h1 l;have i:=hs b (List.mem_cons_self ..);have u:=Zj0 i;rw [Zy (ZDS i c ω ω)];have e:A++mIt k b::C=(A++[mIt k b])++C:=by simp
  have el:(A.length:Int)+1=((A++[mIt k b]).length:Int):=by simp
  rw [e,el,o (A++[mIt k b]) (kIt k b) (fun x j=>hs x (List.mem_cons_of_mem _ j)) (by unfold kIt;omega) (by unfold kIt;omega) (by simp;omega)];simp [kItems,mItems]
theorem ZnG:∀ (C:List Zd) (k:Int),k<=kItems k C
 | [],k=>Int.le_refl _
 | x::C,k=>by
  have:=ZnG C (kIt k x);unfold kItems;unfold kIt at this ⊢;omega
theorem ZBU {c:Zm} (hs:Szc c.Items):ZlR c 1=some (kItems 1 c.Items,⟨mItems 1 c.Items⟩):=by
 have h:=ZzJ c.Items [] 1 hs.2 ω (by have:=hs.1;omega) (by have:=hs.1;simp;omega);have e:Zo8 c.Items 1=some (kItems 1 c.Items,mItems 1 c.Items):=h;unfold ZlR;simp (disch:=omega) only [pz,e]
theorem ZEx {A D:List Zd} {b:Zd} {k:Int} (hs:Sz2 b.Object.Rows) (h0:0<=k) (h1:k<=8900000000000000000) (hA:A.length+D.length<=4194304):
  Zfq (A++mIt k b::D) (k,(A.length:Int))=some (.inl (kIt k b,(A.length:Int)+1)):=by
 have hl:((A++mIt k b::D).length:Int)=(A.length:Int)+1+(D.length:Int):=by simp;omega
 have ht:=Zj0 hs;have hm:=Zxj (xs:=b.Object.Rows) (k:=k+1+1+1) (by have:=hs.1;omega) (fun r hr=>by have:=hs.2 r hr;omega) ω ω;have c:=Zla (k:=k) ω;have i:=Zla (k:=k+1+1+1+(total b.Object.Rows:Int)) ω;have w1:ε.wrap (k+1+1+1+(total b.Object.Rows:Int)+1)=k+1+1+1+(total b.Object.Rows:Int)+1:=Zaf ω ω;have j:(mIt k b).Name=mtx k:=rfl;have l:(mIt k b).Object.Kind=k+1:=rfl;have o:(mIt k b).Object.Size=k+1+1:=rfl;have s:(mIt k b).Object.Rows=marksR (k+1+1+1) b.Object.Rows:=rfl;have u:(mIt k b).Key=mtx (k+1+1+1+(total b.Object.Rows:Int)):=rfl;have y:((mtx k).toList==(mtx k).toList)=true:=by simp
 have e2:((mtx (k+1+1+1+(total b.Object.Rows:Int))).toList==(mtx (k+1+1+1+(total b.Object.Rows:Int))).toList)=true:=by simp
 simp (disch:=omega) only [pz,Zfq,gMid,iMid,c,j,y,l,o,s,hm,i,u,e2,w1,kIt]
theorem Zz1:∀ (C A:List Zd) (k:Int),(∀ x∈C,Sz2 x.Object.Rows)->0<=k->k+C.length*4398046511108<=8900000000000000000->A.length+C.length<=4194304 ->
  loop (Zfq (A++mItems k C)) (k,(A.length:Int))=some (kItems k C):=by
 intro C;induction C with
 | nil=>
  intro A k _ c _ o;refine Zc ?_;have hl:(((A++mItems k []).length:Nat):Int)=(A.length:Int):=by simp [mItems]
  simp (disch:=omega) only [pz,Zfq,hl,kItems]
 | cons b C u=>
  intro A k hs c h1 o;rw [List.length_cons] at h1 o;have i:=hs b (List.mem_cons_self ..);have ht:=Zj0 i;have l:=ZEx (A:=A) (D:=mItems (kIt k b) C) i c ω (by rw [ZtO];omega);show loop (Zfq (A++mIt k b::mItems (kIt k b) C)) _=_;rw [Zy l];have e:A++mIt k b::mItems (kIt k b) C=(A++[mIt k b])++mItems (kIt k b) C:=by simp
  have el:(A.length:Int)+1=((A++[mIt k b]).length:Int):=by simp
  rw [e,el,u (A++[mIt k b]) (kIt k b) (fun x j=>hs x (List.mem_cons_of_mem _ j)) (by unfold kIt;omega) (by unfold kIt;omega) (by simp;omega)];rfl
theorem ZxR {c:List Zd} (hs:Szc c):ZhB ⟨mItems 1 c⟩ 1=some (kItems 1 c):=by
 have h:=Zz1 c [] 1 hs.2 ω (by have:=hs.1;omega) (by have:=hs.1;simp;omega);have e:Zpp (mItems 1 c) 1=some (kItems 1 c):=h;have j:=ZnG c 1;unfold ZhB;simp (disch:=omega) only [pz,e]
def Bl (a b:ByteArray):Prop:=Op.bytesLess a.toList b.toList=true
instance (a b:ByteArray):Decidable (Bl a b):=inferInstanceAs (Decidable (_=true))
theorem ZB4 (a:List UInt8):Op.bytesLess a a=false:=by
 have h:=Zpw a a;have e:(a==a)=true:=by simp
 rw [e,Bool.or_true] at h;cases c:Op.bytesLess a a with
 | false=>rfl
 | true=>rw [c] at h;cases h
theorem ZsA:∀ a b c:List UInt8,Op.bytesLess a b=true->Op.bytesLess b c=true->Op.bytesLess a c=true
 | a,[],c,h,_=>by cases a<;>cases h
 | _,_::_,[],_,k=>by cases k
 | [],_::_,_::_,_,_=>rfl
 | a::x,b::y,c::z,h,k=>by
  have l:(decide (a<b)||(a==b&&Op.bytesLess x y))=true:=h;have k':(decide (b<c)||(b==c&&Op.bytesLess y z))=true:=k;show (decide (a<c)||(a==c&&Op.bytesLess x z))=true;simp only [Bool.or_eq_true,decide_eq_true_eq,Bool.and_eq_true,beq_iff_eq] at l k' ⊢;have o:∀ {p q r:UInt8},p<q->q<r->p<r:=fun i j=>by
   have i:=UInt8.lt_iff_toNat_lt.1 i;have j:=UInt8.lt_iff_toNat_lt.1 j;exact UInt8.lt_iff_toNat_lt.2 ω
  rcases l with l|⟨rfl,l⟩
  ·rcases k' with k'|⟨rfl,k'⟩
   ·exact .inl (o l k')
   ·exact .inl l
  ·rcases k' with k'|⟨rfl,k'⟩
   ·exact .inl k'
   ·exact .inr ⟨rfl,ZsA x y z l k'⟩
theorem Bl.trans {a b c:ByteArray} (h:Bl a b) (k:Bl b c):Bl a c:=ZsA _ _ _ h k
theorem Bl.irr {a:ByteArray} (h:Bl a a):False:=by
 unfold Bl at h;rw [ZB4] at h;cases h
def Rise (c:List Zd):Prop:=∀ i j:Int,0<=i->i<j->j<(c.length:Int)->Bl (ix c i).Name (ix c j).Name
structure Plc (c:List Zd) (name:ByteArray) (k:Int) (b:Bool):Prop where
 k0:0<=k
 k1:k<=(c.length:Int)
 lo:∀ j,0<=j->j<k->Bl (ix c j).Name name
 hi:∀ j,k<=j->j<(c.length:Int)->¬ Bl (ix c j).Name name
 eq:b=true↔k<(c.length:Int)/\(ix c k).Name=name
theorem Plc.none {c:List Zd} {a0:ByteArray} {k:Int} {b:Bool} (o:Rise c) (p:Plc c a0 k b) (i:b=false):∀ j,0<=j->j<(c.length:Int)->¬ (ix c j).Name=a0:=fun j s h1 e=>by
 have y:k<=j:=by
  rcases Int.lt_or_le j k with g|g
  ·have:=p.lo j s g;rw [e] at this;exact this.irr.elim
  ·exact g
 by_cases u:k=j
 ·subst u;rw [p.eq.2 ⟨h1,e⟩] at i;cases i
 ·have l:=o k j p.k0 ω h1;rw [e] at l;exact p.hi k (Int.le_refl _) ω l
theorem Zyn {c:Zm} {a0:ByteArray} {k:Int} {b:Bool} (u:Rise c.Items) (hl:(c.Items.length:Int)<=1048576) (p:Plc c.Items a0 k b):ZlN c a0=some (bif b then k else -1):=by
 have ne:∀ {s:ByteArray},¬ s=a0->(s.toList==a0.toList)=false:=fun {s} h=>by
  cases y:(s.toList==a0.toList) with
  | false=>rfl
  | true=>exact absurd ((ZX _ _).1 y) h
 unfold ZlN;cases b with
 | true=>
  obtain ⟨h1,h2⟩:=p.eq.1 rfl;have k0:=p.k0;have a1:=Zh (B:=Zd3 c a0) (fun j=>j) (i:=0) (n:=k) p.k0 fun j l o=>by
   have:=ne (s:=(ix c.Items j).Name) fun e=>by
    have:=p.lo j l o;rw [e] at this;exact this.irr
   simp (disch:=omega) only [pz,Zd3,this]
  rw [a1];refine Zc ?_;have:=(ZX (ix c.Items k).Name a0).2 h2;simp (disch:=omega) only [pz,Zd3,this]
 | false=>
  have hn:=p.none u rfl;have a1:=Zh (B:=Zd3 c a0) (fun j=>j) (i:=0) (n:=c.Items.length) ω fun j l o=>by
   have:=ne (hn j l o);simp (disch:=omega) only [pz,Zd3,this]
  rw [a1];refine Zc ?_;simp (disch:=omega) only [pz,Zd3]
theorem ZtG {x:Zd} (hs:Sz2 x.Object.Rows):ZdO x=some x:=by
 unfold ZdO;have h:=Zsz hs;simp (disch:=omega) only [pz,h]
noncomputable instance decLike (a b:Zd):Decidable (Like a b):=Classical.propDecidable _
noncomputable instance decLikeEx (n:Int) (f:Int->Zd) (y:Zd):Decidable (∃ j,0<=j/\j<n/\Like (f j) y):=Classical.propDecidable _
theorem Like.symm {a b:Zd} (h:Like a b):Like b a:=⟨h.1.symm,h.2.symm⟩
def insI (c:List Zd) (y:Zd) (k:Int):List Zd:=c.take k.toNat++[y]++c.drop k.toNat
theorem ZsI {c:List Zd} {y:Zd} {k:Int} (k1:k<=(c.length:Int)):((insI c y k).length:Int)=c.length+1:=by
 unfold insI;rw [List.length_append,List.length_append,List.length_take,List.length_drop,List.length_singleton];omega
theorem Zul {c:List Zd} {y:Zd} {k j:Int} (k1:k<=(c.length:Int)) (i:0<=j) (h:j<k):ix (insI c y k) j=ix c j:=by
 unfold insI;rw [List.append_assoc,ZlE i (by rw [List.length_take];omega),Zda i h]
theorem ZsM {c:List Zd} {y:Zd} {k:Int} (k0:0<=k) (k1:k<=(c.length:Int)):ix (insI c y k) k=y:=by
 unfold insI;rw [List.append_assoc];exact ixMid (by rw [List.length_take];omega)
theorem Zl0 {c:List Zd} {y:Zd} {k j:Int} (k0:0<=k) (k1:k<=(c.length:Int)) (h:k<j):ix (insI c y k) j=ix c (j-1):=by
 unfold insI;have hl:((c.take k.toNat++[y]).length:Int)=k+1:=by rw [List.length_append,List.length_take,List.length_singleton];omega
 rw [ZhV ω,hl,Zlb k0 ω,show k+(j-(k+1))=j-1 by omega]
theorem bl_or {a b:ByteArray}:(Op.bytesLess a.toList b.toList||a.toList==b.toList)=!Op.bytesLess b.toList a.toList:=Zpw _ _
theorem Ztj {a b:ByteArray} (h1:¬ Bl a b) (c:¬ a=b):Bl b a:=by
 have h:=@bl_or a b;have i:Op.bytesLess a.toList b.toList=false:=by unfold Bl at h1;simpa using h1
 have j:(a.toList==b.toList)=false:=by
  cases hh:(a.toList==b.toList) with
  | false=>rfl
  | true=>exact absurd ((ZX a b).1 hh) c
 rw [i,j] at h;unfold Bl;cases hh:Op.bytesLess b.toList a.toList with
 | true=>rfl
 | false=>rw [hh] at h;cases h
theorem ZCZ {c:List Zd} {y:Zd} {k:Int} (o:Rise c) (p:Plc c y.Name k false):Rise (insI c y k):=by
 have k0:=p.k0;have k1:=p.k1;have s:=p.none o rfl;have a0:∀ j,k<=j->j<(c.length:Int)->Bl y.Name (ix c j).Name:=fun j a b=>Ztj (p.hi j a b) (s j ω b);intro i j l h1 u;rw [ZsI k1] at u;rcases Int.lt_trichotomy i k with hi|hi|hi
 ·rw [Zul k1 l hi];rcases Int.lt_trichotomy j k with hj|hj|hj
  ·rw [Zul k1 ω hj];exact o i j l h1 ω
  ·rw [hj,ZsM k0 k1];exact p.lo i l hi
  ·rw [Zl0 k0 k1 hj];exact (p.lo i l hi).trans (a0 (j-1) ω ω)
 ·rw [hi,ZsM k0 k1,Zl0 k0 k1 ω];exact a0 (j-1) ω ω
 ·rw [Zl0 k0 k1 hi,Zl0 k0 k1 ω];exact o (i-1) (j-1) ω ω ω
theorem ZIg {c:List Zd} {y:Zd} {k:Int} (hc:Rise c) (hs:∀ x∈c,Sz2 x.Object.Rows) (hy:Sz2 y.Object.Rows) (hl:(c.length:Int)<=24) (p:Plc c y.Name k false):
  ZjM ⟨c⟩ y=some (if ∃ j,0<=j/\j<(c.length:Int)/\Like (ix c j) y then (⟨[]⟩,6) else if (c.length:Int)+1>24 then (⟨[]⟩,5) else (⟨insI c y k⟩,0)):=by
 have k0:=p.k0;have k1:=p.k1;have hn:=p.none hc rfl;have f1:=Zyn (c:=⟨c⟩) hc (by show (c.length:Int)<=1048576;omega) p;simp only [cond_false] at f1;have oy:=ZtG hy;have ox:∀ i,0<=i->i<(c.length:Int)->ZdO (ix c i)=some (ix c i):=fun i a b=>ZtG (hs _ (Zl a b));unfold ZjM;simp (disch:=omega) only [pz,f1];have a7:∀ i,Zgt (ix c i) y=some (decide (Like (ix c i) y)):=fun i=>by
  have q:=Zr1 (ix c i) y;by_cases g:Like (ix c i) y
  ·rw [q.eq g,decide_eq_true g]
  ·rw [q.ne g,decide_eq_false g]
 obtain ⟨f,hf⟩:∃ f:Int->Bool×Int×List Zd,f=fun i=>if i<=k then (false,i,c.take i.toNat) else (true,i,c.take k.toNat++[y]++(c.take i.toNat).drop k.toNat):=⟨_,rfl⟩
 have a0:∀ i,i<=k->f i=(false,i,c.take i.toNat):=fun i h=>by rw [hf];exact if_pos h
 have a1:∀ i,k<i->f i=(true,i,c.take k.toNat++[y]++(c.take i.toNat).drop k.toNat):=fun i h=>by rw [hf];exact if_neg ω
 have a5:∀ i,0<=i->i<(c.length:Int)->Like (ix c i) y->Zbd ⟨c⟩ y (f i)=some (.inr (⟨[]⟩,6)):=fun i a b g=>by
  have hd:=a7 i;rw [decide_eq_true g] at hd;by_cases aa:i<=k
  ·rw [a0 i aa];simp (disch:=omega) only [pz,Zbd,hd]
  ·rw [a1 i ω];simp (disch:=omega) only [pz,Zbd,hd]
 have a6:∀ i,0<=i->i<(c.length:Int)->¬ Like (ix c i) y->Zbd ⟨c⟩ y (f i)=some (.inl (f (i+1))):=fun i a b g=>by
  have hd:=a7 i;rw [decide_eq_false g] at hd;have ht:=Zap (xs:=c) a b;have ho:=ox i a b;have a2:=@bl_or (ix c i).Name y.Name;rcases Int.lt_trichotomy i k with h|h|h
  ·rw [a0 i ω,a0 (i+1) ω];have s:Op.bytesLess y.Name.toList (ix c i).Name.toList=false:=by
    cases hh:Op.bytesLess y.Name.toList (ix c i).Name.toList with
    | false=>rfl
    | true=>exact ((p.lo i a h).trans hh).irr.elim
   rw [s] at a2;have ae:(c.take i.toNat).length<=24:=by rw [List.length_take];omega
   simp (disch:=omega) only [pz,Zbd,hd,a2,Zfa,ZfN,ho,ht]
  ·subst h;rw [a0 i ω,a1 (i+1) ω];have s:Op.bytesLess y.Name.toList (ix c i).Name.toList=true:=Ztj (p.hi i ω b) (hn i a b);rw [s] at a2;have ae:(c.take i.toNat).length<=24:=by rw [List.length_take];omega
   have a3:(c.take (i+1).toNat).drop i.toNat=[ix c i]:=by
    rw [ht,List.drop_append_of_le_length (by rw [List.length_take];omega),List.drop_of_length_le (by rw [List.length_take];omega),List.nil_append]
   have u:(c.take i.toNat++[y]).length<=25:=by rw [List.length_append,List.length_singleton];omega
   simp (disch:=omega) only [pz,Zbd,hd,a2,Zfa,oy,ZfN,ho,a3]
  ·rw [a1 i h,a1 (i+1) ω];have a3:(c.take (i+1).toNat).drop k.toNat=(c.take i.toNat).drop k.toNat++[ix c i]:=by
    rw [ht,List.drop_append_of_le_length (by rw [List.length_take];omega)]
   have u:(c.take k.toNat++[y]++(c.take i.toNat).drop k.toNat).length<=50:=by rw [List.length_append,List.length_append,List.length_singleton,List.length_drop,List.length_take,List.length_take];omega
   simp (disch:=omega) only [pz,Zbd,hd,Zfa,ZfN,ho,a3,<-List.append_assoc]
 have e0:((false:Bool),(0:Int),([]:List Zd))=f 0:=by rw [a0 0 k0];rfl
 rw [e0];rcases Za1 (B:=Zbd ⟨c⟩ y) f (fun i=>Like (ix c i) y) (i:=0) (n:=c.length) ω a6 with ⟨i,h1,l,h3,h4,h5⟩|⟨h1,l⟩
 ·rw [h5,if_pos ⟨i,h1,l,h3⟩];exact Zc (a5 i h1 l h3)
 ·rw [l,if_neg fun ⟨j,a,b,g⟩=>h1 j a b g];refine Zc ?_;have a4:∀ xs:List Zd,(xs.length:Int)=c.length+1->xs=insI c y k->Zel xs=some (.inr (if (c.length:Int)+1>24 then (⟨[]⟩,5) else (⟨insI c y k⟩,0))):=fun xs hx e=>by
   by_cases h:(c.length:Int)+1>24
   ·rw [if_pos h];simp (disch:=omega) only [pz,Zel]
   ·rw [if_neg h,<-e];simp (disch:=omega) only [pz,Zel]
  by_cases hk:k=c.length
  ·rw [a0 _ ω];have o:c.take (c.length:Int).toNat=c:=by rw [Int.toNat_natCast,List.take_length]
   rw [o];have:=a4 (c++[y]) (by simp) (by unfold insI;rw [hk,o,Int.toNat_natCast,List.drop_length,List.append_nil]);simp (disch:=omega) only [pz,Zbd,oy,this]
  ·rw [a1 _ ω];have o:c.take (c.length:Int).toNat=c:=by rw [Int.toNat_natCast,List.take_length]
   rw [o];have:=a4 (c.take k.toNat++[y]++c.drop k.toNat) (ZsI k1) rfl;simp (disch:=omega) only [pz,Zbd,this]
section
variable {d:Zm} (hd:(d.Items.length:Int)<=24) (hds:∀ x∈d.Items,Sz2 x.Object.Rows)
include hd hds
end
theorem ZCL {o:Zf} (hs:Sz2 o.Rows) (B:Int):∃ r,ZkO o B=some r/\ZkD o B=some r:=by
 have e:Zf.mk o.Kind o.Size o.Rows=o:=rfl;obtain ⟨q,h1,i⟩:=ZGP hs B;unfold ZkO ZkD;by_cases c:q.2=0
 ·by_cases d:(q.1.size:Int)>4000
  ·exact ⟨(⟨#[]⟩,5),by simp (disch:=omega) only [pz,h1],by simp (disch:=omega) only [pz,e,i]⟩
  ·exact ⟨(q.1,0),by simp (disch:=omega) only [pz,h1],by simp (disch:=omega) only [pz,e,i]⟩
 ·exact ⟨(⟨#[]⟩,q.2),by simp (disch:=omega) only [pz,h1],by simp (disch:=omega) only [pz,e,i]⟩
theorem ZCC {c:List Zd} {x:Zd} (hN:(c.length:Int)<=1048576):∃ r:Int,Zl1 c x=some r/\(r=-1/\(∀ j,0<=j->j<(c.length:Int)->¬ Like (ix c j) x)\/0<=r/\r<(c.length:Int)/\Like (ix c r) x/\∀ j,0<=j->j<r->¬ Like (ix c j) x):=by
 unfold Zl1 Znx;obtain ⟨r,s,u⟩:=Zwh (xs:=c) (B:=ZiB c (fun i=>Zh9 i x)) (f:=fun i=>Zh9 i x) (q:=fun y=>Like x y) (by unfold M63;omega) (fun y _=>(ZIv x y).bind_id)
  (fun k y hy=>by
   have:=Z9 hy;simp (disch:=omega) only [pz,ZiB];rw [ZN hy])
  (by simp (disch:=omega) only [pz,ZiB])
 have sy:∀ {a b:Zd},Like a b->Like b a:=fun h=>⟨h.1.symm,h.2.symm⟩
 refine ⟨r,?_,?_⟩
 ·show (loop (ZiB c (fun i=>Zh9 i x)) 0).bind _=_;rw [s];rfl
 ·rcases u with ⟨o,l⟩|⟨k,y,o,l,h6,h7⟩
  ·exact .inl ⟨o,fun j a b g=>l _ (Zl a b) (sy g)⟩
  ·have hk:=Z9 l;subst o;refine .inr ⟨by omega,by omega,by rw [ZN l];exact sy h6,fun j a b g=>?_⟩;obtain ⟨m,rfl⟩:=Int.eq_ofNat_of_zero_le a;exact h7 m _ ω (Zaa a ω) (sy g)
def cs (x:Nat):Nat:=if 32768<=x then (2*x%65536)^^^4129 else 2*x
def csn:Nat->Nat->Nat
 | 0,x=>x
 | n+1,x=>cs (csn n x)
def crN (l:List Int):Nat:=l.foldl (fun x c=>csn 8 (x^^^(c.toNat*256))) 65535
theorem cs_lt {x:Nat} (h:x<65536):cs x<65536:=by
 unfold cs;split
 ·exact Nat.xor_lt_two_pow (n:=16) ω (by decide)
 ·omega
theorem Zln:∀ (n:Nat) {x:Nat},x<65536->csn n x<65536
 | 0,_,h=>h
 | n+1,_,h=>cs_lt (Zln n h)
theorem ofI {n:Nat} (h:n<9223372036854775808):(BitVec.ofInt 64 (n:Int)).toNat=n:=by
 rw [BitVec.toNat_ofInt];omega
theorem band {a b:Nat} (j:a<9223372036854775808) (c:b<9223372036854775808) {x y:Int} (i:x=a) (k:y=b):ε.wrap ((BitVec.ofInt IntKind.i64.bits x&&&BitVec.ofInt IntKind.i64.bits y).toNat:Int)=((a&&&b:Nat):Int):=by
 subst i k;show ε.wrap (((BitVec.ofInt 64 (a:Int)&&&BitVec.ofInt 64 (b:Int)).toNat:Nat):Int)=_;rw [BitVec.toNat_and,ofI j,ofI c];have:=Nat.and_le_left (n:=a) (m:=b);exact Zaf ω ω
theorem bxor {a b:Nat} (j:a<9223372036854775808) (c:b<9223372036854775808) {x y:Int} (i:x=a) (k:y=b):ε.wrap ((BitVec.ofInt IntKind.i64.bits x^^^BitVec.ofInt IntKind.i64.bits y).toNat:Int)=((a^^^b:Nat):Int):=by
 subst i k;show ε.wrap (((BitVec.ofInt 64 (a:Int)^^^BitVec.ofInt 64 (b:Int)).toNat:Nat):Int)=_;rw [BitVec.toNat_xor,ofI j,ofI c];have:=Nat.xor_lt_two_pow (x:=a) (y:=b) (n:=63) j c;exact Zaf ω ω
theorem dbl {x:Nat} (h:x<1000000):ε.wrap ((x:Int)*2^min (1:Int).toNat IntKind.i64.bits)=((2*x:Nat):Int):=by
 have e:(2:Int)^min (1:Int).toNat IntKind.i64.bits=2:=rfl;rw [e];have:=Zaf (n:=(x:Int)*2) ω ω;rw [this];omega
theorem ZmA {b:Int} (h:0<=b):gNn b=some ():=by unfold gNn;rw [if_pos h]
theorem and16 (x:Nat):x&&&65535=x%65536:=Nat.and_two_pow_sub_one_eq_mod x 16
theorem ZFq {x:Nat} (h:x<65536) (i5 k6:Int) (j:0<=k6) (h1:k6<8):ZdU i5 ((x:Int),k6)=some (.inl (((cs x:Nat):Int),k6+1)):=by
 have d:=dbl (x:=x) ω;have a:=band (a:=2*x) (b:=65535) ω ω (x:=((2*x:Nat):Int)) (y:=65535) rfl rfl;rw [and16] at a;have g:=ZmA (b:=1) ω;by_cases c:32768<=x
 ·have b:=bxor (a:=2*x%65536) (b:=4129) ω ω (x:=((2*x%65536:Nat):Int)) (y:=4129) rfl rfl;have e:cs x=(2*x%65536)^^^4129:=by unfold cs;rw [if_pos c]
  simp (disch:=omega) only [pz,ZdU,g,d,a,b,e]
 ·have e:cs x=2*x:=by unfold cs;rw [if_neg c]
  have i:2*x%65536=2*x:=ω;rw [i] at a;simp (disch:=omega) only [pz,ZdU,g,d,a,e]
theorem ZFS {x:Nat} (h:x<65536) (i5 k6:Int) (k:0<=k6) (h1:k6<8):ZdT i5 ((x:Int),k6)=some (.inl (((cs x:Nat):Int),k6+1)):=by
 have d:=dbl (x:=x) ω;have g:=ZmA (b:=1) ω;by_cases c:32768<=x
 ·have b:=bxor (a:=2*x) (b:=4129) ω ω (x:=((2*x:Nat):Int)) (y:=4129) rfl rfl;have i:2*x^^^4129<9223372036854775808:=Nat.xor_lt_two_pow (n:=63) ω (by decide);have a:=band (a:=2*x^^^4129) (b:=65535) i ω (x:=((2*x^^^4129:Nat):Int)) (y:=65535) rfl rfl;have e:cs x=(2*x%65536)^^^4129:=by unfold cs;rw [if_pos c]
  have j:(2*x^^^4129)&&&65535=(2*x%65536)^^^4129:=by
   rw [Nat.and_xor_distrib_right,and16,and16]
  rw [j] at a;simp (disch:=omega) only [pz,ZdT,g,d,b,a,e]
 ·have e:cs x=2*x:=by unfold cs;rw [if_neg c]
  simp (disch:=omega) only [pz,ZdT,g,d,e]
theorem ZHr {x:Nat} (h:x<65536) {i5:Int} (c:0<=i5) (h1:i5<9223372036854775807):loop (ZdU i5) ((x:Int),0)=some (.inl (((csn 8 x:Nat):Int),i5+1)):=by
 have e:=Zh (B:=ZdU i5) (fun k:Int=>(((csn k.toNat x:Nat):Int),k)) (i:=0) (n:=8) ω fun k a b=>by
  rw [show (k+1).toNat=k.toNat+1 by omega];exact ZFq (Zln _ h) i5 k a b
 refine Eq.trans e (Zc ?_);simp (disch:=omega) only [pz,ZdU];rfl
theorem ZHv {x:Nat} (h:x<65536) {i5:Int} (c:0<=i5) (h1:i5<9223372036854775807):loop (ZdT i5) ((x:Int),0)=some (.inl (((csn 8 x:Nat):Int),i5+1)):=by
 have e:=Zh (B:=ZdT i5) (fun k:Int=>(((csn k.toNat x:Nat):Int),k)) (i:=0) (n:=8) ω fun k a b=>by
  rw [show (k+1).toNat=k.toNat+1 by omega];exact ZFS (Zln _ h) i5 k a b
 refine Eq.trans e (Zc ?_);simp (disch:=omega) only [pz,ZdT];rfl
def Bys (l:List Int):Prop:=∀ x∈l,0<=x/\x<=255
theorem Zop (s:ByteArray):Bys (byts s):=by
 intro x c;obtain ⟨b,_,rfl⟩:=List.mem_map.1 c;have:=b.toNat_lt;omega
theorem Zw1 (f:Nat->Int->Nat) (k:∀ x c,x<65536->0<=c/\c<=255->f x c<65536) (l:List Int):∀ x:Nat,Bys l->x<65536->l.foldl f x<65536:=by
 induction l with
 | nil=>intro x _ h;exact h
 | cons c l j=>
  intro x hl h;rw [List.foldl_cons];exact j _ (fun y o=>hl y (List.mem_cons_of_mem _ o)) (k x c h (hl c (List.mem_cons_self ..)))
theorem Zn4 {l:List Int} (h:Bys l):crN l<65536:=by
 unfold crN;exact Zw1 _ (fun x c i j=>Zln 8 (Nat.xor_lt_two_pow (n:=16) i ω)) l _ h ω
theorem ZwC {l:List Int} {k:Int} (c:0<=k) (h1:k<(l.length:Int)):crN (l.take (k+1).toNat)=csn 8 (crN (l.take k.toNat)^^^((ix l k).toNat*256)):=by
 unfold crN;rw [Zap c h1,List.foldl_append,List.foldl_cons,List.foldl_nil]
theorem shl8 {c:Int} (i:0<=c) (h1:c<=255):ε.wrap (c*2^min (8:Int).toNat IntKind.i64.bits)=((c.toNat*256:Nat):Int):=by
 have e:(2:Int)^min (8:Int).toNat IntKind.i64.bits=256:=rfl;rw [e,Zaf (n:=c*256) ω ω];omega
theorem Zrz {l:List Int} (h:Bys l) (n:Nat):Bys (l.take n):=fun x c=>h x (List.mem_of_mem_take c)
theorem ZGk {s:ByteArray} (hs:s.size<=9000000000000000000):ZjS s 65535=some ((crN (byts s):Nat):Int):=by
 have j:=Zop s;have hl:=Zcz s;unfold ZjS;have e:=Zh (B:=Zmr s) (fun k:Int=>(((crN ((byts s).take k.toNat):Nat):Int),k)) (i:=0) (n:=s.size) ω fun k a b=>by
  obtain ⟨c,o,he⟩:=ZmW (s:=s) a b;have l:=j _ (Zl (xs:=byts s) a ω);have hk:=Zn4 (Zrz j k.toNat);have g:=ZmA (b:=8) ω;have sh:=shl8 l.1 l.2;rw [ZwC a ω];generalize crN ((byts s).take k.toNat)=x at hk;have u:(ix (byts s) k).toNat*256<65536:=ω;have xr:=bxor (a:=x) (b:=(ix (byts s) k).toNat*256) ω ω (x:=(x:Int)) (y:=(((ix (byts s) k).toNat*256:Nat):Int)) rfl rfl;have e8:=ZHr (x:=x^^^((ix (byts s) k).toNat*256)) (Nat.xor_lt_two_pow (n:=16) hk u) (i5:=k) a ω;simp (disch:=omega) only [pz,Zmr,o,he,g,sh,xr,e8]
 refine Eq.trans e (Zc ?_);rw [Int.toNat_natCast,<-hl,List.take_length,hl];simp (disch:=omega) only [pz,Zmr]
theorem ZD5 {s:ByteArray} (hs:s.size<=9000000000000000000):Zjr s 65535=some ((crN (byts s):Nat):Int):=by
 have c:=Zop s;have hl:=Zcz s;have hw:ZK 65535 0 65535=some true:=by simp (disch:=omega) only [pz,ZK]
 unfold Zjr;simp (disch:=omega) only [pz,hw];have e:=Zh (B:=ZkU s) (fun k:Int=>(((crN ((byts s).take k.toNat):Nat):Int),k)) (i:=0) (n:=s.size) ω fun k a b=>by
  have j:=c _ (Zl (xs:=byts s) a ω);have u:=Zn4 (Zrz c k.toNat);have g:=ZmA (b:=8) ω;have sh:=shl8 j.1 j.2;rw [ZwC a ω];generalize crN ((byts s).take k.toNat)=x at u;have l:(ix (byts s) k).toNat*256<65536:=ω;have xr:=bxor (a:=x) (b:=(ix (byts s) k).toNat*256) ω ω (x:=(x:Int)) (y:=(((ix (byts s) k).toNat*256:Nat):Int)) rfl rfl;have o:=ZHv (x:=x^^^((ix (byts s) k).toNat*256)) (Nat.xor_lt_two_pow (n:=16) u l) (i5:=k) a ω;simp (disch:=omega) only [pz,ZkU,g,sh,xr,o]
 refine Eq.trans e (Zc ?_);rw [Int.toNat_natCast,<-hl,List.take_length,hl];simp (disch:=omega) only [pz,ZkU]
open Go Go.Vc Go.Lib
def spl (b:UInt8):List UInt8->List (List UInt8)
 | []=>[[]]
 | c::l=>if c=b then []::spl b l else (c::(spl b l).headD [])::(spl b l).tail
theorem Ziy (b:UInt8) (l:List UInt8):spl b l≠[]:=by
 cases l with
 | nil=>simp [spl]
 | cons c l=>unfold spl;split<;>simp
theorem Zi2 {b:UInt8} {l:List UInt8}:∃ h t,spl b l=h::t:=by
 cases e:spl b l with
 | nil=>exact absurd e (Ziy b l)
 | cons h t=>exact ⟨h,t,rfl⟩
theorem Znk (x y:List UInt8) (r:List (List UInt8)) (s:List UInt8):join (x::y::r) s=x++s++join (y::r) s:=by
 rw [join_cons,join_cons];simp [joinTail]
theorem Zu0 (b:UInt8):∀ l:List UInt8,join (spl b l) [b]=l
 | []=>by simp [spl,join_one]
 | c::l=>by
  have j:=Zu0 b l;obtain ⟨h,t,e⟩:=Zi2 (b:=b) (l:=l);unfold spl;split
  ·rename_i i;rw [e] at j ⊢;rw [Znk,j,i];rfl
  ·rw [e] at j ⊢;rw [join_cons] at j ⊢;show c::h++joinTail [b] t=c::l;rw [<-j];rfl
theorem Zsn {b:UInt8}:∀ {x:List UInt8},b∉x->spl b x=[x]
 | [],_=>rfl
 | c::x,h=>by
  have j:=Zsn (x:=x) fun k=>h (List.mem_cons_of_mem _ k);unfold spl;rw [if_neg (fun e=>h (by rw [e];exact List.mem_cons_self ..)),j];rfl
theorem ZsK {b:UInt8}:∀ {x:List UInt8} (l:List UInt8),b∉x->spl b (x++b::l)=x::spl b l
 | [],l,_=>by simp [spl]
 | c::x,l,h=>by
  have j:=ZsK (x:=x) l fun k=>h (List.mem_cons_of_mem _ k);rw [List.cons_append]
  conv=>lhs;unfold spl
  rw [if_neg (fun e=>h (by rw [e];exact List.mem_cons_self ..)),j];rfl
theorem ZwB {b:UInt8}:∀ {xs:List (List UInt8)},xs≠[]->(∀ x∈xs,b∉x)->spl b (join xs [b])=xs
 | [],h,_=>absurd rfl h
 | [x],_,h=>by rw [join_one];exact Zsn (h x (List.mem_cons_self ..))
 | x::y::r,_,h=>by
  have j:=ZwB (b:=b) (xs:=y::r) (by simp) fun z hz=>h z (List.mem_cons_of_mem _ hz);rw [Znk,List.append_assoc];show spl b (x++b::join (y::r) [b])=_;rw [ZsK _ (h x (List.mem_cons_self ..)),j]
theorem ZkR {b:UInt8}:∀ (l:List UInt8) (c:UInt8) {os:List (List UInt8)} {u:List UInt8},spl b l=os++[u]->spl b (l++[c])=if c=b then os++[u]++[[]] else os++[u++[c]]
 | [],c,os,u,h=>by
  have k:[[]]=os++[u]:=h;cases os with
  | nil=>
   obtain rfl:[]=u:=by simpa using k
   simp [spl]
  | cons a t=>simp at k
 | d::l,c,os,u,h=>by
  obtain ⟨h1,i,e⟩:=Zi2 (b:=b) (l:=l);have j:∀ {os:List (List UInt8)} {u:List UInt8},spl b l=os++[u]->spl b (l++[c])=if c=b then os++[u]++[[]] else os++[u++[c]]:=fun h=>ZkR (b:=b) l c h
  rw [List.cons_append];unfold spl at h ⊢;by_cases hd:d=b
  ·rw [if_pos hd] at h ⊢;cases os with
   | nil=>
    exfalso;rw [e] at h;simp at h
   | cons a t=>
    rw [List.cons_append,List.cons.injEq] at h;obtain ⟨rfl,h⟩:=h;rw [j h];split<;>simp
  ·rw [if_neg hd] at h ⊢;cases os with
   | nil=>
    rw [e] at h;simp only [List.headD_cons,List.tail_cons,List.nil_append,List.cons.injEq] at h;obtain ⟨rfl,rfl⟩:=h;rw [j (os:=[]) (u:=h1) (by rw [e];rfl)];split<;>simp
   | cons a t=>
    rw [List.cons_append,List.cons.injEq,e] at h;obtain ⟨rfl,h⟩:=h;have h:i=t++[u]:=h;rw [j (os:=h1::t) (u:=u) (by rw [e,h];rfl)];split<;>simp
theorem Zlt (b:UInt8):∀ l:List UInt8,(spl b l).length<=l.length+1
 | []=>by simp [spl]
 | c::l=>by
  have j:=Zlt b l;obtain ⟨h,t,e⟩:=Zi2 (b:=b) (l:=l);unfold spl;rw [e] at j ⊢;split
  ·simp at j ⊢;omega
  ·simp at j ⊢;omega
theorem ZrC (b:UInt8):∀ l:List UInt8,∀ x∈spl b l,x.length<=l.length
 | [],x,i=>by simp [spl] at i;rw [i];simp
 | c::l,x,i=>by
  have j:=ZrC b l;obtain ⟨h,t,e⟩:=Zi2 (b:=b) (l:=l);unfold spl at i;rw [e] at j i;split at i
  ·rcases List.mem_cons.1 i with rfl|i
   ·simp
   ·have:=j x i;simp;omega
  ·rcases List.mem_cons.1 i with rfl|i
   ·have:=j h (List.mem_cons_self ..);simp;omega
   ·have:=j x (List.mem_cons_of_mem _ i);simp;omega
open Go Go.Vc Go.Lib
def Dg (c:UInt8):Prop:=48<=c.toNat/\c.toNat<=57
def vl (l:List UInt8):Nat:=l.foldl (fun n c=>10*n+(c.toNat-48)) 0
theorem Znp (l:List UInt8) (c:UInt8):vl (l++[c])=10*vl l+(c.toNat-48):=by
 unfold vl;rw [List.foldl_append,List.foldl_cons,List.foldl_nil]
theorem dch {d:Nat} (h:d<10):(UInt8.ofNat (48+d)).toNat=48+d:=by
 rw [UInt8.toNat_ofNat'];omega
theorem ZmJ {P:List UInt8->Nat->Prop} (h1:∀ u,u<10->P [UInt8.ofNat (48+u)] u) (c:∀ u,10<=u->P (decDigits (u/10)) (u/10)->P (decDigits (u/10)++[UInt8.ofNat (48+u%10)]) u):∀ (n u:Nat),u<n->P (decDigits u) u:=by
 intro n;induction n with
 | zero=>intro u h;omega
 | succ n k=>
  intro u h;by_cases j:u<10
  ·rw [decDigits,dif_pos j];exact h1 u j
  ·rw [decDigits,dif_neg j];exact c u ω (k _ ω)
theorem Zhq (u:Nat):vl (decDigits u)=u:=by
 refine ZmJ (P:=fun l u=>vl l=u) (fun u h=>?_) (fun u h j=>?_) (u+1) u ω
 ·show 10*0+((UInt8.ofNat (48+u)).toNat-48)=u;rw [dch h];omega
 ·rw [Znp,j,dch (Nat.mod_lt _ ω)];omega
theorem Zei (u:Nat):∀ c∈decDigits u,Dg c:=by
 refine ZmJ (P:=fun l u=>∀ c∈l,Dg c) (fun u h c i=>?_) (fun u h j c i=>?_) (u+1) u ω
 ·obtain rfl:=List.mem_singleton.1 i;unfold Dg;rw [dch h];omega
 ·rcases List.mem_append.1 i with i|i
  ·exact j c i
  ·obtain rfl:=List.mem_singleton.1 i;have:=Nat.mod_lt u (show 0<10 by omega);unfold Dg;rw [dch this];omega
theorem ZDi (u:Nat):u<10^(decDigits u).length:=by
 refine ZmJ (P:=fun l u=>u<10^l.length) (fun u h=>?_) (fun u h j=>?_) (u+1) u ω
 ·simpa using h
 ·have j:u/10<10^(decDigits (u/10)).length:=j;rw [List.length_append,List.length_singleton,Nat.pow_succ];omega
theorem vl_lt:∀ (m:Nat) (l:List UInt8),l.length=m->(∀ c∈l,Dg c)->vl l<10^m:=by
 intro m;induction m with
 | zero=>intro l h _;rw [List.eq_nil_of_length_eq_zero h];show 0<1;omega
 | succ m o=>
  intro l h hd;have k:l≠[]:=fun e=>by rw [e] at h;simp at h
  rw [<-List.dropLast_concat_getLast k] at hd ⊢;have h1:=o l.dropLast (by simp;omega) fun c i=>hd c (List.mem_append_left _ i);have j:=hd (l.getLast k) (by simp);rw [Znp,Nat.pow_succ];unfold Dg at j;omega
noncomputable def numOf (s:ByteArray):Int×Bool:=
 @dite _ (∃ n:Int,(-1000000000000000000<n/\n<1000000000000000000)/\itoaB n=s) (Classical.propDecidable _) (fun h=>(Classical.choose h,true)) (fun _=>(0,false))
theorem Zc4 (n:Int):(itoaB n).data.toList=itoa n:=by unfold itoaB;simp
theorem ZGl {n m:Int} (h:itoaB n=itoaB m):n=m:=by
 have c:=congrArg (fun s:ByteArray=>s.data.toList) h;simp only [Zc4] at c;have hd:∀ (u v:Nat) ,decDigits u≠45::decDigits v:=fun u v e=>by
  have:=Zei u 45 (by rw [e];exact List.mem_cons_self ..);unfold Dg at this;have k:(45:UInt8).toNat=45:=rfl;omega
 unfold itoa at c;split at c
 ·split at c
  ·have j:=(List.cons.inj c).2;have i:=congrArg vl j;rw [Zhq,Zhq] at i;omega
  ·exact absurd c.symm (hd _ _)
 ·split at c
  ·exact absurd c (hd _ _)
  ·have i:=congrArg vl c;rw [Zhq,Zhq] at i;omega
theorem ZhO {n:Int} {s:ByteArray} (h1:-1000000000000000000<n/\n<1000000000000000000) (h:itoaB n=s):numOf s=(n,true):=by
 have c:∃ n:Int,(-1000000000000000000<n/\n<1000000000000000000)/\itoaB n=s:=⟨n,h1,h⟩
 unfold numOf;rw [dif_pos c];have:=Classical.choose_spec c;rw [ZGl (this.2.trans h.symm)]
theorem ZdG {s:ByteArray} (h:∀ n:Int,(-1000000000000000000<n/\n<1000000000000000000)->itoaB n≠s):numOf s=(0,false):=by
 unfold numOf;rw [dif_neg fun ⟨n,h1,c⟩=>h n h1 c]
theorem ZnE {s:ByteArray} {n:Int} (h:numOf s=(n,true)):(-1000000000000000000<n/\n<1000000000000000000)/\itoaB n=s:=by
 by_cases i:∃ n:Int,(-1000000000000000000<n/\n<1000000000000000000)/\itoaB n=s
 ·obtain ⟨m,h1,c⟩:=i;rw [ZhO h1 c] at h;obtain rfl:=(Prod.mk.inj h).1;exact ⟨h1,c⟩
 ·rw [ZdG fun n h1 c=>i ⟨n,h1,c⟩] at h;exact absurd (Prod.mk.inj h).2 (by simp)
theorem ZpE (M:Nat):∀ (l:List UInt8) (a n:Nat) (c:UInt8),parseUintM M a l=.ok n->Dg c->n<1844674407370955162->n*10+(c.toNat-48)<=M->parseUintM M a (l++[c])=.ok (n*10+(c.toNat-48))
 | [],a,n,c,h,i,h1,j=>by
  have h:NumEnd.ok a=NumEnd.ok n:=h;cases h;rw [List.nil_append];unfold parseUintM;have i:48<=c.toNat/\c.toNat<=57:=i;rw [if_pos i,if_neg ω,if_neg ω];rfl
 | d::l,a,n,c,h,i,h1,j=>by
  rw [List.cons_append];unfold parseUintM at h ⊢;split at h
  ·rename_i hd;rw [if_pos hd];split at h
   ·cases h
   ·rename_i k;rw [if_neg k];split at h
    ·cases h
    ·rename_i hm;rw [if_neg hm];exact ZpE M l _ n c h i h1 j
  ·cases h
theorem ZuF (u:Nat) (j:u<1000000000000000000):parseUintM 18446744073709551615 0 (decDigits u)=.ok u:=by
 refine ZmJ (P:=fun l u=>u<1000000000000000000->parseUintM 18446744073709551615 0 l=.ok u) (fun u h _=>?_) (fun u h k j=>?_) (u+1) u ω j
 ·have hd:Dg (UInt8.ofNat (48+u)):=by unfold Dg;rw [dch h];omega
  have:=ZpE 18446744073709551615 [] 0 0 _ rfl hd ω (by rw [dch h];omega);rw [List.nil_append] at this;rw [this,dch h];congr 1;omega
 ·have hm:=Nat.mod_lt u (show 0<10 by omega);have hd:Dg (UInt8.ofNat (48+u%10)):=by unfold Dg;rw [dch hm];omega
  rw [ZpE _ _ 0 (u/10) _ (k ω) hd ω (by rw [dch hm];omega),dch hm];congr 1;omega
theorem Zu7 {n:Int} (h:-1000000000000000000<n/\n<1000000000000000000):parseIntB 64 (itoaB n).data.toList=.ok n:=by
 rw [Zc4];have i:(45:UInt8).toNat=45:=rfl;unfold itoa;split
 ·have hp:=ZuF n.natAbs ω;have u:decDigits n.natAbs≠[]:=fun e=>by have:=dgn n.natAbs;rw [e] at this;simp at this
  unfold parseIntB parseUintB;simp only [i,or_true,if_true];rw [if_neg u,show (2:Nat)^64-1=18446744073709551615 from rfl,hp];simp only [not_true,false_and,if_false,true_and];rw [if_neg (by rw [show (2:Nat)^(64-1)=9223372036854775808 from rfl];omega)];congr 1;omega
 ·have hp:=ZuF n.toNat ω;have o:=Zei n.toNat;cases hl:decDigits n.toNat with
  | nil=>have:=dgn n.toNat;rw [hl] at this;simp at this
  | cons c r=>
   rw [hl] at hp o;have l:=o c (List.mem_cons_self ..);unfold Dg at l;have j:¬ c.toNat=43:=ω;have k:¬ c.toNat=45:=ω;unfold parseIntB parseUintB;simp only [j,k,or_false,if_false,reduceCtorEq];rw [show (2:Nat)^64-1=18446744073709551615 from rfl,hp];simp only [not_false_eq_true,true_and,false_and,if_false];rw [if_neg (by rw [show (2:Nat)^(64-1)=9223372036854775808 from rfl];omega)];congr 1;omega
open Go Go.Vc Go.Lib
def tl (l:List UInt8):List UInt8:=match l with
 | []=>[]
 | c::r=>if c=45 then r else l
theorem Zmw {n:Int} {l:List UInt8} (h:itoa n=l):tl l=decDigits n.natAbs/\(n<0↔(tl l).length<l.length):=by
 subst h;unfold itoa;split
 ·refine ⟨by simp [tl],?_⟩;simp [tl];omega
 ·rename_i j;have e:n.toNat=n.natAbs:=ω;rw [e];have h1:tl (decDigits n.natAbs)=decDigits n.natAbs:=by
   cases hl:decDigits n.natAbs with
   | nil=>rfl
   | cons c r=>
    have:=Zei n.natAbs c (by rw [hl];exact List.mem_cons_self ..);unfold Dg at this;have i:¬ c=45:=fun e=>by rw [e] at this;have k:(45:UInt8).toNat=45:=rfl;omega
    simp [tl,i]
  rw [h1];exact ⟨rfl,by omega⟩
theorem ZzF {l:List UInt8} {v:Int} (h:parseIntB 64 l=.ok v):-9223372036854775808<=v/\v<=9223372036854775807:=by
 unfold parseIntB at h;split at h
 ·cases h
 ·rename_i c r;dsimp only at h;split at h
  ·cases h
  ·cases h
  ·rename_i u k;rw [show (2:Nat)^(64-1)=9223372036854775808 from rfl] at h;split at h
   ·cases h
   ·split at h
    ·cases h
    ·rename_i h1 j;cases h;by_cases i:c.toNat=45
     ·rw [if_pos i];omega
     ·rw [if_neg i];omega
theorem Zgs {s:ByteArray} (h:(tl s.data.toList).length<1\/18<(tl s.data.toList).length):numOf s=(0,false):=by
 refine ZdG fun n i e=>?_;have c:=congrArg (fun s:ByteArray=>s.data.toList) e;simp only [Zc4] at c;have:=(Zmw c).1;rw [this] at h;have h1:=dgn n.natAbs;have j:=dgl 17 n.natAbs ω;omega
theorem ZA3 {s:ByteArray} (h:∃ c∈tl s.data.toList,¬ Dg c):numOf s=(0,false):=by
 refine ZdG fun n k e=>?_;have i:=congrArg (fun s:ByteArray=>s.data.toList) e;simp only [Zc4] at i;have:=(Zmw i).1;rw [this] at h;obtain ⟨c,h1,j⟩:=h;exact j (Zei _ c h1)
theorem ZFp {s:ByteArray} (hd:∀ c∈tl s.data.toList,Dg c) (hl:(tl s.data.toList).length<=18) {n:Int} (j:n=if (tl s.data.toList).length<s.data.toList.length then -((vl (tl s.data.toList):Nat):Int) else ((vl (tl s.data.toList):Nat):Int)):
  numOf s=if itoaB n=s then (n,true) else (0,false):=by
 have hv:=vl_lt _ (tl s.data.toList) rfl hd;have y:vl (tl s.data.toList)<10^18:=Nat.lt_of_lt_of_le hv (Nat.pow_le_pow_right ω hl);have hr:-1000000000000000000<n/\n<1000000000000000000:=by
  rw [j];split<;>omega
 by_cases e:itoaB n=s
 ·rw [if_pos e];exact ZhO hr e
 ·rw [if_neg e];refine ZdG fun m hm k=>e ?_;have l:=congrArg (fun s:ByteArray=>s.data.toList) k;simp only [Zc4] at l;obtain ⟨o,i⟩:=Zmw l;have a0:m=n:=by
   rw [j,o,Zhq];rw [o] at i;split
   ·rename_i h;have:=i.2 h;omega
   ·rename_i h;have:¬ m<0:=fun u=>h (i.1 u);omega
  rw [<-a0];exact k
theorem Zxr {s:ByteArray} (hl:(tl s.data.toList).length<=18) {n:Int} (hp:parseIntB 64 s.data.toList=.ok n):numOf s=if itoaB n=s then (n,true) else (0,false):=by
 by_cases e:itoaB n=s
 ·rw [if_pos e];refine ZhO ?_ e;have c:=congrArg (fun s:ByteArray=>s.data.toList) e;simp only [Zc4] at c;rw [(Zmw c).1] at hl;have:=ZDi n.natAbs;have:=Nat.lt_of_lt_of_le this (Nat.pow_le_pow_right (show 1<=10 by omega) hl);omega
 ·rw [if_neg e];refine ZdG fun m hm c=>e ?_;have:=Zu7 hm;rw [c,hp] at this;cases this;exact c
theorem ZJK {s:ByteArray} (hp:∀ n,parseIntB 64 s.data.toList≠.ok n):numOf s=(0,false):=
 ZdG fun m hm c=>hp m (by rw [<-c];exact Zu7 hm)
open Go Go.Vc Go.Lib
theorem ZaM (s:ByteArray):s.data.toList.length=s.size:=by rw [Array.length_toList];rfl
theorem Zdt {s:ByteArray} {i:Int} (j:0<=i) {c:UInt8} (h:s.data.toList[i.toNat]?=some c):gSt s i=some c:=by
 have hl:i.toNat<s.size:=by
  rw [<-ZaM];rcases Nat.lt_or_ge i.toNat s.data.toList.length with k|k
  ·exact k
  ·rw [List.getElem?_eq_none k] at h;cases h
 unfold gSt;rw [if_pos j,getElem?_pos s i.toNat hl];rw [List.getElem?_eq_getElem (by rw [ZaM];exact hl)] at h;rw [<-Option.some.inj h];rfl
theorem ZbP {s:ByteArray} {lo hi:Int} (c:0<=lo) (h1:lo<=hi) (i:hi<=(s.size:Int)):gStSl s lo hi=some (bl ((s.data.toList.take hi.toNat).drop lo.toNat)):=by
 unfold gStSl;rw [if_pos ⟨c,h1,i⟩];congr 1;apply ByteArray.ext;rw [ByteArray.data_extract];apply Array.ext';rw [Array.toList_extract];simp [bl,List.extract_eq_take_drop,List.drop_take]
theorem bl_ne {s:ByteArray} {c:UInt8} {r:List UInt8} (h:s.data.toList=c::r):(s.toList==(⟨#[]⟩:ByteArray).toList)=false:=by
 cases i:s.toList==(⟨#[]⟩:ByteArray).toList with
 | false=>rfl
 | true=>
  have:=(ZX s ⟨#[]⟩).1 i;rw [this] at h;cases h
theorem Zxe {L:List UInt8} {k:Nat} {c:UInt8} (h:L[k]?=some c):vl (L.take (k+1))=10*vl (L.take k)+(c.toNat-48):=by
 rw [List.take_add_one,h];exact Znp _ _
theorem ZtM (s:ByteArray) (hs:s.size<=1000) {n:Int} (h1:-9223372036854775808<=n) (c:n<=9223372036854775807):ZiK s n=some (.inr (if itoaB n=s then (n,true) else (0,false))):=by
 unfold ZiK;have hd:=Zec h1 c;by_cases e:itoaB n=s
 ·have:=(ZX (itoaB n) s).2 e;rw [if_pos e];simp (disch:=omega) only [pz,hd,this]
 ·have:((itoaB n).toList==s.toList)=false:=by
   cases i:(itoaB n).toList==s.toList with
   | false=>rfl
   | true=>exact absurd ((ZX _ _).1 i) e
  rw [if_neg e];simp (disch:=omega) only [pz,hd,this]
theorem ZyF {s:ByteArray} (hs:s.size<=1000) (a6:1<=(tl s.data.toList).length) (hl:(tl s.data.toList).length<=18):Zjj s (bl (tl s.data.toList))=some (numOf s):=by
 unfold Zjj;have a3:(bl (tl s.data.toList)).size=(tl s.data.toList).length:=ZV _;have a9:(bl (tl s.data.toList)).data.toList=tl s.data.toList:=rfl;have aa:∀ k:Int,(∀ j,0<=j->j<k->∃ c,(tl s.data.toList)[j.toNat]?=some c/\Dg c)->0<=k->k<=((tl s.data.toList).length:Int) ->
   loop (Zdm s (bl (tl s.data.toList))) (0,0)=loop (Zdm s (bl (tl s.data.toList))) (((vl ((tl s.data.toList).take k.toNat):Nat):Int),k):=by
  intro k hk h0 ak;refine Zh (fun k:Int=>(((vl ((tl s.data.toList).take k.toNat):Nat):Int),k)) h0 fun j y j1=>?_;obtain ⟨c,l,hd⟩:=hk j y j1;have hg:gSt (bl (tl s.data.toList)) j=some c:=Zdt y (by rw [a9];exact l);have hv:=vl_lt _ ((tl s.data.toList).take j.toNat) rfl fun x hx=>by
   obtain ⟨i,a,b,rfl⟩:=ZR hx;rw [List.length_take] at b;obtain ⟨c',ac,ab⟩:=hk i a ω;rw [Zda a ω];have:=ZN (k:=i.toNat) ac;rw [show ((i.toNat:Nat):Int)=i by omega] at this;rw [this];exact ab
  have a0:vl ((tl s.data.toList).take j.toNat)<10^18:=Nat.lt_of_lt_of_le hv (Nat.pow_le_pow_right ω (by rw [List.length_take];omega));have a1:vl ((tl s.data.toList).take j.toNat)<100000000000000000:=by
   refine Nat.lt_of_lt_of_le hv (Nat.le_trans (Nat.pow_le_pow_right (show 1<=10 by omega) (show _<=17 by rw [List.length_take];omega)) ω)
  rw [show (j+1).toNat=j.toNat+1 by omega,Zxe l];generalize vl ((tl s.data.toList).take j.toNat)=n at a1;unfold Dg at hd;have h1:ZaO (c.toNat:Int)=some true:=by simp (disch:=omega) only [pz,ZaO]
  have w1:IntKind.u8.wrap ((c.toNat:Int)-48)=(c.toNat:Int)-48:=u8_of ω ω;simp (disch:=omega) only [pz,Zdm,a3,hg,h1,w1];congr 3;omega
 rcases Zjc (n:=((tl s.data.toList).length:Int)) ω (fun k=>¬ ∃ c,(tl s.data.toList)[k.toNat]?=some c/\Dg c) with ⟨k,k0,k1,hk,o⟩|o
 ·have e:=aa k (fun j a b=>Classical.not_not.1 (o j a b)) k0 ω;obtain ⟨c,l⟩:∃ c,(tl s.data.toList)[k.toNat]?=some c:=⟨_,List.getElem?_eq_getElem ω⟩
  have hd:¬ Dg c:=fun h=>hk ⟨c,l,h⟩;have hg:gSt (bl (tl s.data.toList)) k=some c:=Zdt k0 (by rw [a9];exact l);have h1:ZaO (c.toNat:Int)=some false:=by
   unfold Dg at hd;by_cases a7:48<=(c.toNat:Int)
   ·simp (disch:=omega) only [pz,ZaO]
   ·simp (disch:=omega) only [pz,ZaO]
  rw [e,ZA3 ⟨c,List.mem_of_getElem? l,hd⟩];exact Zc (by simp (disch:=omega) only [pz,Zdm,a3,hg,h1])
 ·have a4:∀ j,0<=j->j<((tl s.data.toList).length:Int)->∃ c,(tl s.data.toList)[j.toNat]?=some c/\Dg c:=fun j a b=>Classical.not_not.1 (o j a b);have e:=aa _ a4 ω (Int.le_refl _);rw [Int.toNat_natCast,List.take_length] at e;have a5:∀ c∈tl s.data.toList,Dg c:=fun c l=>by
   obtain ⟨i,hi⟩:=List.getElem?_of_mem l;have a2:=Z9 hi;obtain ⟨c',h1,h2⟩:=a4 i ω ω;rw [Int.toNat_natCast,hi] at h1;rw [Option.some.inj h1];exact h2
  have hv:=vl_lt _ (tl s.data.toList) rfl a5;have a0:vl (tl s.data.toList)<10^18:=Nat.lt_of_lt_of_le hv (Nat.pow_le_pow_right ω hl);rw [e,ZFp a5 hl rfl];refine Zc ?_;by_cases a2:(tl s.data.toList).length<s.data.toList.length
  ·have u:(((tl s.data.toList).length:Nat):Int)<(s.size:Int):=by rw [ZaM] at a2;omega
   rw [if_pos a2];have k:=ZtM s hs (n:=-((vl (tl s.data.toList):Nat):Int)) ω ω;have w0:(0:Int)-((vl (tl s.data.toList):Nat):Int)=-((vl (tl s.data.toList):Nat):Int):=ω;simp (disch:=omega) only [pz,Zdm,a3,w0,k]
  ·have u:¬ (((tl s.data.toList).length:Nat):Int)<(s.size:Int):=by rw [ZaM] at a2;omega
   rw [if_neg a2];have k:=ZtM s hs (n:=((vl (tl s.data.toList):Nat):Int)) ω ω;simp (disch:=omega) only [pz,Zdm,a3,k]
theorem tl_le (l:List UInt8):(tl l).length<=l.length/\l.length<=(tl l).length+1:=by
 cases l with
 | nil=>exact ⟨Nat.le_refl _,Nat.le_succ _⟩
 | cons c r=>
  by_cases i:c=45
  ·simp [tl,i]
  ·simp [tl,i]
theorem Zg5 (s:ByteArray):ZfJ s=some (numOf s):=by
 have k1:Zed s (bl (tl s.data.toList))=some (numOf s):=by
  unfold Zed;have u:(bl (tl s.data.toList)).size=(tl s.data.toList).length:=ZV _;by_cases h1:(tl s.data.toList).length<1
  ·rw [Zgs (.inl h1)];simp (disch:=omega) only [pz,u]
  ·by_cases o:18<(tl s.data.toList).length
   ·rw [Zgs (.inr o)];simp (disch:=omega) only [pz,u]
   ·have:=tl_le s.data.toList;rw [ZaM] at this;have k:=ZyF (s:=s) ω ω ω;simp (disch:=omega) only [pz,u,k]
 unfold ZfJ;cases hl:s.data.toList with
 | nil=>
  have e:s=⟨#[]⟩:=by
   apply ByteArray.ext;apply Array.ext';rw [hl]
  have j:=(ZX s ⟨#[]⟩).2 e;have et:bl (tl s.data.toList)=s:=by rw [hl,e];rfl
  rw [et] at k1;simp (disch:=omega) only [pz,j,k1]
 | cons c r=>
  have j:=bl_ne hl;have hg:gSt s 0=some c:=Zdt ω (by rw [hl];rfl);have a1:s.size=r.length+1:=by rw [<-ZaM,hl];rfl
  by_cases l:c=45
  ·have et:bl (tl s.data.toList)=bl r:=by rw [hl];simp [tl,l]
   have hs:=ZbP (s:=s) (lo:=1) (hi:=s.size) ω ω ω;have es:bl ((s.data.toList.take ((s.size:Int)).toNat).drop (1:Int).toNat)=bl r:=by
    rw [Int.toNat_natCast,<-ZaM,List.take_length,hl];rfl
   rw [es] at hs;rw [et] at k1;have i:((c.toNat:Nat):Int)=45:=by rw [l];rfl
   simp (disch:=omega) only [pz,j,hg,i,hs,k1]
  ·have et:bl (tl s.data.toList)=s:=by
    rw [<-Zam s];show bl (tl s.data.toList)=bl s.data.toList;rw [hl];simp [tl,l]
   rw [et] at k1;have i:¬ ((c.toNat:Nat):Int)=45:=fun h=>l (by
    apply UInt8.toNat_inj.1;have:(45:UInt8).toNat=45:=rfl;omega)
   simp (disch:=omega) only [pz,j,hg,i,k1]
theorem Zyb (s:ByteArray) (hs:s.size<=4000000000):Zdb s ⟨#[45]⟩=some (bl (tl s.data.toList)):=by
 unfold Zdb ZmH Zl2;have z1:((⟨#[45]⟩:ByteArray).size:Int)=1:=rfl;cases hl:s.data.toList with
 | nil=>
  have e:s=⟨#[]⟩:=by
   apply ByteArray.ext;apply Array.ext';rw [hl]
  subst e;have y:((⟨#[]⟩:ByteArray).size:Int)=0:=rfl;simp (disch:=omega) only [pz,z1,y];rfl
 | cons c r=>
  have a2:s.size=r.length+1:=by rw [<-ZaM,hl];rfl
  have i:=ZbP (s:=s) (lo:=0) (hi:=1) ω ω ω;have o:bl ((s.data.toList.take (1:Int).toNat).drop (0:Int).toNat)=bl [c]:=by rw [hl];rfl
  rw [o] at i;have k:=ZbP (s:=s) (lo:=1) (hi:=s.size) ω ω ω;have u:bl ((s.data.toList.take ((s.size:Int)).toNat).drop (1:Int).toNat)=bl r:=by
   rw [Int.toNat_natCast,<-ZaM,List.take_length,hl];rfl
  rw [u] at k;by_cases j:c=45
  ·have l:((bl [c]).toList==(⟨#[45]⟩:ByteArray).toList)=true:=(ZX _ _).2 (by rw [j];rfl);simp (disch:=omega) only [pz,z1,i,l,k];simp [tl,j]
  ·have l:((bl [c]).toList==(⟨#[45]⟩:ByteArray).toList)=false:=by
    cases hb:(bl [c]).toList==(⟨#[45]⟩:ByteArray).toList with
    | false=>rfl
    | true=>
     have:=congrArg (fun s:ByteArray=>s.data.toList) ((ZX _ _).1 hb);have h2:[c]=[45]:=this;exact absurd (List.cons.inj h2).1 j
   simp (disch:=omega) only [pz,z1,i,l];have et:bl (tl (c::r))=s:=by
    rw [<-Zam s,hl];simp [tl,j]
   rw [et]
theorem ZpM (s:ByteArray) (hs:s.size<=4000000000):Zfb s=some (numOf s):=by
 unfold Zfb;have k:=Zyb s hs;have j:(bl (tl s.data.toList)).size=(tl s.data.toList).length:=ZV _;by_cases h1:(tl s.data.toList).length<1
 ·rw [Zgs (.inl h1)];simp (disch:=omega) only [pz,k,j]
 ·by_cases c:18<(tl s.data.toList).length
  ·rw [Zgs (.inr c)];simp (disch:=omega) only [pz,k,j]
  ·have a0:=tl_le s.data.toList;rw [ZaM] at a0;have hg:gPars s=some (parsO s.data.toList):=by unfold gPars;rw [if_pos ω]
   by_cases hp:∃ n,parseIntB 64 s.data.toList=.ok n
   ·obtain ⟨n,hp⟩:=hp;have hr:=ZzF hp;have hd:=ZcR hr.1 hr.2;have o:=ZuC hp;rw [Zxr ω hp];have u:Zdz s (some n)=some (if itoaB n=s then (n,true) else (0,false)):=by
     unfold Zdz;by_cases e:itoaB n=s
     ·have:=(ZX (itoaB n) s).2 e;rw [if_pos e];simp (disch:=omega) only [pz,hd,this]
     ·have:((itoaB n).toList==s.toList)=false:=by
       cases i:(itoaB n).toList==s.toList with
       | false=>rfl
       | true=>exact absurd ((ZX _ _).1 i) e
      rw [if_neg e];simp (disch:=omega) only [pz,hd,this]
    simp (disch:=omega) only [pz,k,j,hg,o,u]
   ·have l:∀ n,parseIntB 64 s.data.toList≠.ok n:=fun n h=>hp ⟨n,h⟩;have o:=Zwa l;rw [ZJK l];have u:Zdz s none=some (0,false):=rfl;simp (disch:=omega) only [pz,k,j,hg,o,u]
open Go Go.Vc Go.Lib
theorem Ztv (b:UInt8):∀ l:List UInt8,splitK [b] 0 (count l [b]) l=spl b l
 | []=>by rw [count_one];rfl
 | c::l=>by
  have ih:=Ztv b l;unfold spl;by_cases i:c=b
  ·subst i;rw [if_pos rfl,count_cons_eq,Nat.add_comm,<-ih];have o:index (c::l) [c]=((0:Nat):Int):=by rw [index];simp [List.isPrefixOf]
   conv=>lhs;unfold splitK
   rw [o];rfl
  ·rw [if_neg i,count_cons_ne c b l i,<-ih];have hp:([b]:List UInt8).isPrefixOf (c::l)=false:=by simp [List.isPrefixOf,Ne.symm i]
   have o:index (c::l) [b]=if index l [b]==-1 then -1 else index l [b]+1:=by rw [index,hp];simp
   by_cases hm:index l [b]=-1
   ·rw [count_miss hm];rfl
   ·have a1:=index_ge l [b];obtain ⟨j,hj⟩:∃ j:Nat,index l [b]=j:=⟨(index l [b]).toNat,by omega⟩
    have u:index (c::l) [b]=((j+1:Nat):Int):=by rw [o,if_neg (fun e=>hm (beq_iff_eq.1 e)),hj];omega
    rw [count_hit (by simp) hj,Nat.add_comm 1];generalize count (l.drop (j+[b].length)) [b]=k;unfold splitK;rw [hj,u,if_neg (by rw [beq_iff_eq];omega),if_neg (by rw [beq_iff_eq];omega)];rfl
def splB (b:UInt8) (s:ByteArray):List ByteArray:=(spl b s.data.toList).map bl
theorem ZzN (b:UInt8) (s:ByteArray):splitB ⟨#[b]⟩ 0 (countB s ⟨#[b]⟩) s=splB b s:=by
 have h:=splitB_data ⟨#[b]⟩ 0 (countB s ⟨#[b]⟩) s;have c:splitK (⟨#[b]⟩:ByteArray).data.toList 0 (countB s ⟨#[b]⟩) s.data.toList=spl b s.data.toList:=Ztv b s.data.toList;rw [c] at h;unfold splB;rw [<-h,List.map_map]
 conv=>lhs;rw [<-List.map_id (splitB _ _ _ _)]
 exact List.map_congr_left fun x _=>(Zam x).symm
theorem ZhY {b:UInt8} {s:ByteArray} (hs:s.size<=4294967280):Za5 s ⟨#[b]⟩=some (splB b s):=by
 unfold Za5;rw [if_pos ⟨by omega,Nat.le_refl _⟩,ZzN]
open Go Go.Vc Go.Lib
theorem ZhK {b:UInt8} {s:ByteArray} (hs:s.size<=1000000000):ZaP s (b.toNat:Int)=some (splB b s):=by
 unfold ZaP;have hL:=ZaM s;obtain ⟨⟨a3,a0,i⟩,⟨hi,j,l,os,h1,o⟩,a4⟩:=ZeC (B:=Zhr s (b.toNat:Int)) (fun k (t:List ByteArray×Int×Int)=>t.2.2=k/\0<=t.2.1/\t.2.1<=k/\∃ os,spl b (s.data.toList.take k.toNat)=os++[(s.data.toList.take k.toNat).drop t.2.1.toNat]/\t.1=os.map bl)
  (i:=0) (n:=s.size) ω (s:=(([]:List ByteArray),(0:Int),(0:Int))) ⟨rfl,Int.le_refl _,Int.le_refl _,[],rfl,rfl⟩ (by
   rintro k ⟨a3,a0,i⟩ k0 k1 ⟨hi,j,l,os,h1,o⟩;dsimp only at hi j l h1 o;subst hi o;have hk:i.toNat<s.data.toList.length:=ω;obtain ⟨c,y⟩:∃ c,s.data.toList[i.toNat]?=some c:=⟨_,List.getElem?_eq_getElem hk⟩
   have hg:gSt s i=some c:=Zdt k0 y;have ht:s.data.toList.take (i+1).toNat=s.data.toList.take i.toNat++[c]:=by rw [show (i+1).toNat=i.toNat+1 by omega,List.take_add_one,y];rfl
   have u:=ZkR (s.data.toList.take i.toNat) c h1;have hn:(os.map bl).length<=1000000001:=by
    have:=Zlt b (s.data.toList.take i.toNat);rw [h1,List.length_append,List.length_singleton,List.length_take] at this;rw [List.length_map];omega
   by_cases a2:c=b
   ·subst a2;rw [if_pos rfl] at u;have a1:=ZbP (s:=s) (lo:=a0) (hi:=i) j l ω;refine ⟨(os.map bl++[bl ((s.data.toList.take i.toNat).drop a0.toNat)],i+1,i+1),?_,rfl,by show 0<=i+1;omega,by show i+1<=i+1;omega,os++[(s.data.toList.take i.toNat).drop a0.toNat],?_,?_⟩
    ·simp (disch:=omega) only [pz,Zhr,hg,a1]
    ·show spl c (s.data.toList.take (i+1).toNat)=_++[(s.data.toList.take (i+1).toNat).drop (i+1).toNat];have hd:(s.data.toList.take (i+1).toNat).drop (i+1).toNat=[]:=List.drop_eq_nil_of_le (by rw [List.length_take];omega);rw [hd,ht,u]
    ·simp
   ·rw [if_neg a2] at u;have a8:¬ ((c.toNat:Nat):Int)=(b.toNat:Int):=fun h=>a2 (UInt8.toNat_inj.1 ω);refine ⟨(os.map bl,a0,i+1),?_,rfl,j,by show a0<=i+1;omega,os,?_,rfl⟩
    ·simp (disch:=omega) only [pz,Zhr,hg]
    ·show spl b (s.data.toList.take (i+1).toNat)=_++[(s.data.toList.take (i+1).toNat).drop a0.toNat];rw [ht,u,List.drop_append_of_le_length (by rw [List.length_take];omega)])
 dsimp only at hi j l h1 o;subst hi o;rw [a4];have a1:=ZbP (s:=s) (lo:=a0) (hi:=s.size) j l ω;have hn:(os.map bl).length<=1000000001:=by
  have:=Zlt b (s.data.toList.take ((s.size:Nat):Int).toNat);rw [h1,List.length_append,List.length_singleton,List.length_take] at this;rw [List.length_map];omega
 have e:splB b s=os.map bl++[bl ((s.data.toList.take ((s.size:Nat):Int).toNat).drop a0.toNat)]:=by
  unfold splB;rw [show spl b s.data.toList=spl b (s.data.toList.take ((s.size:Nat):Int).toNat) by rw [Int.toNat_natCast,<-ZaM,List.take_length],h1,List.map_append];rfl
 rw [e];refine Zc ?_;rw [Int.toNat_natCast] at a1 ⊢;simp (disch:=omega) only [pz,Zhr,a1]
theorem ZEI (b:UInt8) (s:ByteArray):(splB b s).map (·.data.toList)=spl b s.data.toList:=by
 unfold splB;rw [List.map_map]
 conv=>rhs;rw [<-List.map_id (spl b s.data.toList)]
 rfl
theorem ZnT (b:UInt8) (s:ByteArray):joinB (splB b s) ⟨#[b]⟩=s:=by
 have h:joinB (splB b s) ⟨#[b]⟩=bl (join ((splB b s).map (·.data.toList)) [b]):=rfl;rw [h,ZEI,Zu0,Zam]
theorem Zmh {b:UInt8} {xs:List ByteArray} (h:xs≠[]) (c:∀ x∈xs,b∉x.data.toList):splB b (joinB xs ⟨#[b]⟩)=xs:=by
 have e:(joinB xs ⟨#[b]⟩).data.toList=join (xs.map (·.data.toList)) [b]:=rfl;unfold splB;rw [e,ZwB (by simpa using h) (fun x i=>by obtain ⟨y,j,rfl⟩:=List.mem_map.1 i;exact c y j),List.map_map]
 conv=>rhs;rw [<-List.map_id xs]
 exact List.map_congr_left fun x _=>Zam x
theorem ZnU (b:UInt8) (s:ByteArray):splB b s≠[]:=by
 unfold splB;have:=Ziy b s.data.toList;simpa using this
theorem Zf3 (b:UInt8) (s:ByteArray):(splB b s).length<=s.size+1:=by
 unfold splB;rw [List.length_map,<-ZaM];exact Zlt b _
theorem ZfU {b:UInt8} {s x:ByteArray} (h:x∈splB b s):x.size<=s.size:=by
 obtain ⟨l,hl,rfl⟩:=List.mem_map.1 h;rw [ZV,<-ZaM];exact ZrC b _ l hl
noncomputable def nmsL (s:ByteArray):List Int:=(splB 44 s).map fun p=>(numOf p).1
noncomputable def lst (s:ByteArray):List Int×Bool:=if s=⟨#[45]⟩ then ([],true) else if tL (nmsL s)=s then (nmsL s,true) else ([],false)
theorem Zt1 {s:ByteArray} (h:¬ (numOf s).2=true):numOf s=(0,false):=by
 by_cases i:∃ n:Int,(-1000000000000000000<n/\n<1000000000000000000)/\itoaB n=s
 ·obtain ⟨m,h1,c⟩:=i;rw [ZhO h1 c] at h;exact absurd rfl h
 ·exact ZdG fun n h1 c=>i ⟨n,h1,c⟩
theorem Znj {n:Int} (h:InR n):numOf (itoaB n)=(n,true):=ZhO (by have:=h.1;have:=h.2;omega) rfl
theorem dg_no {c:UInt8} {l:List UInt8} (i:¬ Dg c) (j:c≠45) (n:Int):c∉(itoaB n).data.toList:=by
 rw [Zc4];intro h;unfold itoa at h;split at h
 ·rcases List.mem_cons.1 h with h|h
  ·exact j h
  ·exact i (Zei _ c h)
 ·exact i (Zei _ c h)
theorem ZqY (s:ByteArray):nmsL s≠[]:=by
 unfold nmsL;have:=ZnU 44 s;simpa using this
theorem Zpd (s:ByteArray):(nmsL s).length=(splB 44 s).length:=List.length_map ..
def OkN (p:ByteArray):Prop:=(numOf p).2=true/\InR (numOf p).1
theorem ZzG {s:ByteArray} (hl:(splB 44 s).length<=100) (h:∀ p∈splB 44 s,OkN p):tL (nmsL s)=s:=by
 rw [tL_t ⟨by rw [Zpd];exact hl,fun x c=>by obtain ⟨p,hp,rfl⟩:=List.mem_map.1 c;exact (h p hp).2⟩ (ZqY s)];have e:(nmsL s).map itoaB=splB 44 s:=by
  unfold nmsL;rw [List.map_map]
  conv=>rhs;rw [<-List.map_id (splB 44 s)]
  refine List.map_congr_left fun p hp=>?_;have:=(h p hp).1;exact (ZnE (s:=p) (n:=(numOf p).1) (by rw [<-this])).2
 rw [e,ZnT]
theorem Zqj {s:ByteArray} (h:tL (nmsL s)=s):(splB 44 s).length<=100/\∀ p∈splB 44 s,OkN p:=by
 by_cases k:(nmsL s).length<=100/\∀ x∈nmsL s,InR x
 ·have h1:=h;rw [tL_t k (ZqY s)] at h1;have j:splB 44 s=(nmsL s).map itoaB:=by
   conv=>lhs;rw [<-h1]
   refine Zmh (by have:=ZqY s;simpa using this) fun x c=>?_;obtain ⟨n,_,rfl⟩:=List.mem_map.1 c;exact dg_no (l:=[]) (by unfold Dg;decide) (by decide) n
  refine ⟨by rw [<-Zpd];exact k.1,fun p hp=>?_⟩;rw [j] at hp;obtain ⟨n,i,rfl⟩:=List.mem_map.1 hp;unfold OkN;rw [Znj (k.2 n i)];exact ⟨rfl,k.2 n i⟩
 ·exfalso;rw [tL_f k] at h;have e:nmsL s=[0]:=by
   rw [<-h];show [(numOf (bl [])).1]=_;rw [Zgs (s:=bl []) (.inl (by show 0<1;omega))]
  exact k (by rw [e];exact ⟨by decide,fun x c=>by rw [List.mem_singleton.1 c];exact ⟨by omega,by omega⟩⟩)
theorem ZaI {a b:ByteArray} (h:¬ a=b):(a.toList==b.toList)=false:=by
 cases c:(a.toList==b.toList) with
 | false=>rfl
 | true=>exact absurd ((ZX _ _).1 c) h
theorem Zyp (s:ByteArray):(lst s).1.length<=100:=by
 unfold lst;split
 ·show 0<=100;omega
 ·split
  ·rename_i h;show (nmsL s).length<=100;rw [Zpd];exact (Zqj h).1
  ·show 0<=100;omega
theorem ZEo {s:ByteArray} (hs:s.size<=1000000000):ZmZ s=some (lst s):=by
 unfold ZmZ lst;by_cases h:s=⟨#[45]⟩
 ·have:=(ZX s ⟨#[45]⟩).2 h;rw [if_pos h];simp (disch:=omega) only [pz,this]
 ·have l:=ZaI h;have a1:=ZhY (b:=44) (s:=s) ω;have hl:=Zf3 44 s;rw [if_neg h];have j:=Zh (B:=Zeb s (splB 44 s)) (fun k:Int=>(((splB 44 s).take k.toNat).map fun p=>(numOf p).1,k)) (i:=0) (n:=(splB 44 s).length) ω fun k a b=>by
   have hm:=Zl a b;have o:=ZpM (ix (splB 44 s) k) (by have:=ZfU hm;omega);have a2:(((splB 44 s).take k.toNat).map fun p=>(numOf p).1).length<=1000000001:=by rw [List.length_map,List.length_take];omega
   rw [ZeS a b];have hg:gApp 8 (((splB 44 s).take k.toNat).map fun p=>(numOf p).1) [(numOf (ix (splB 44 s) k)).1]=some (((splB 44 s).take k.toNat).map (fun p=>(numOf p).1)++[(numOf (ix (splB 44 s) k)).1]):=gApp1 ω ω;simp (disch:=omega) only [pz,Zeb,o,hg]
  rw [Int.toNat_natCast,List.take_length] at j;have u:loop (Zeb s (splB 44 s)) ([],0)=some (if tL (nmsL s)=s then (nmsL s,true) else ([],false)):=by
   refine Eq.trans j (Zc ?_);have ht:=ZpN (nmsL s);unfold nmsL at ht ⊢;by_cases c:tL ((splB 44 s).map fun p=>(numOf p).1)=s
   ·have:=(ZX _ _).2 c;rw [if_pos c];simp (disch:=omega) only [pz,Zeb,ht,this]
   ·have:=ZaI c;rw [if_neg c];simp (disch:=omega) only [pz,Zeb,ht,this]
  simp (disch:=omega) only [pz,l,a1,u]
theorem ZwF {s:ByteArray} (hs:s.size<=1000000000):Zkg s=some (lst s):=by
 unfold Zkg lst;by_cases h:s=⟨#[45]⟩
 ·have:=(ZX s ⟨#[45]⟩).2 h;rw [if_pos h];simp (disch:=omega) only [pz,this]
 ·have o:=ZaI h;have a2:ZaP s 44=some (splB 44 s):=ZhK (b:=44) hs;rw [if_neg h];by_cases hl:(splB 44 s).length<=100
  ·have step:∀ n:Int,0<=n->n<=((splB 44 s).length:Int)->(∀ j,0<=j->j<n->OkN (ix (splB 44 s) j))->loop (Zbu (splB 44 s)) ([],0)=loop (Zbu (splB 44 s)) (((splB 44 s).take n.toNat).map (fun p=>(numOf p).1),n):=by
    intro n n0 n1 a0;refine Zh (B:=Zbu (splB 44 s)) (fun k:Int=>(((splB 44 s).take k.toNat).map fun p=>(numOf p).1,k)) (i:=0) (n:=n) n0 fun k a b=>?_;have hk:=a0 k a b;have l:=Zg5 (ix (splB 44 s) k);have hi:ZI (numOf (ix (splB 44 s) k)).1 (-999999999) 999999999=some true:=by
     have:=hk.2.1;have:=hk.2.2;simp (disch:=omega) only [pz,ZI]
    have a5:(((splB 44 s).take k.toNat).map fun p=>(numOf p).1).length<=100:=by rw [List.length_map,List.length_take];omega
    have hg:gApp 8 (((splB 44 s).take k.toNat).map fun p=>(numOf p).1) [(numOf (ix (splB 44 s) k)).1]=some (((splB 44 s).take k.toNat).map (fun p=>(numOf p).1)++[(numOf (ix (splB 44 s) k)).1]):=gApp1 ω ω;rw [ZeS a ω];have c:=hk.1;simp (disch:=omega) only [pz,Zbu,Zo5,l,c,hi,hg]
   rcases Zjc (n:=(splB 44 s).length) ω (fun k=>¬ OkN (ix (splB 44 s) k)) with ⟨k,k0,k1,hk,hbad⟩|hbad
   ·have e:=step k k0 ω fun j a b=>Classical.not_not.1 (hbad j a b);have l:=Zg5 (ix (splB 44 s) k);rw [if_neg fun hh=>hk ((Zqj hh).2 _ (Zl k0 k1))];have u:loop (Zbu (splB 44 s)) ([],0)=some ([],false):=by
     rw [e];refine Zc ?_;by_cases c:(numOf (ix (splB 44 s) k)).2=true
     ·have hi:ZI (numOf (ix (splB 44 s) k)).1 (-999999999) 999999999=some false:=by
       by_cases y:-999999999<=(numOf (ix (splB 44 s) k)).1
       ·have:¬ (numOf (ix (splB 44 s) k)).1<=999999999:=fun g2=>hk ⟨c,y,g2⟩;simp (disch:=omega) only [pz,ZI]
       ·simp (disch:=omega) only [pz,ZI]
      simp (disch:=omega) only [pz,Zbu,l,c,hi]
     ·have c:(numOf (ix (splB 44 s) k)).2=false:=by simpa using c
      simp (disch:=omega) only [pz,Zbu,l,c]
    simp (disch:=omega) only [pz,o,a2,u]
   ·have a0:∀ j,0<=j->j<((splB 44 s).length:Int)->OkN (ix (splB 44 s) j):=fun j a b=>Classical.not_not.1 (hbad j a b);have e:=step (splB 44 s).length ω ω a0;rw [Int.toNat_natCast,List.take_length] at e;rw [if_pos (ZzG hl fun p hp=>by obtain ⟨i,a,b,rfl⟩:=ZR hp;exact a0 i a b)];have u:loop (Zbu (splB 44 s)) ([],0)=some (nmsL s,true):=by
     refine Eq.trans e (Zc ?_);simp (disch:=omega) only [pz,Zbu];rfl
    simp (disch:=omega) only [pz,o,a2,u]
  ·rw [if_neg fun hh=>hl (Zqj hh).1];simp (disch:=omega) only [pz,o,a2]
open Go Go.Vc Go.Lib
theorem ZHg {o:Zf} (hs:Sz2 o.Rows) (h:ZaE o=some true):(o.Rows.length:Int)<=720:=by
 refine Classical.byContradiction fun l=>?_;have l:720<(o.Rows.length:Int):=ω;have e:Zf.mk o.Kind o.Size o.Rows=o:=rfl;have hN:=hs.1;have hf:ZaE o=some false:=by
  unfold ZaE;by_cases h1:o.Kind=1
  ·have q:=(Zi8 hs).ne fun v=>by have:=v.n2;omega
   by_cases hl:(o.Rows.length:Int)=o.Size
   ·simp (disch:=omega) only [pz,q,Z0]
   ·simp (disch:=omega) only [pz,q,Z0]
  by_cases h2:o.Kind=2
  ·have q:=(Zqw (d:=⟨o.Size,o.Rows⟩) hs).ne fun v=>by have:(o.Rows.length:Int)<=128:=v.len;omega
   simp (disch:=omega) only [pz,e,ZeU,Zbb hs,q]
  by_cases h3:o.Kind=3
  ·have q:=(Zr0 hs).ne fun v=>by have:=v.n2;omega
   by_cases hl:(o.Rows.length:Int)=o.Size
   ·simp (disch:=omega) only [pz,q,Z0]
   ·simp (disch:=omega) only [pz,q,Z0]
  by_cases h4:o.Kind=4
  ·have q:=(Zv5 (a:=⟨o.Size,(ix o.Rows 0).length,o.Rows⟩) hs).ne fun v=>by have:(o.Rows.length:Int)<=256:=v.len;omega
   simp (disch:=omega) only [pz,e,Zkl,ZS,Zbb hs,q]
  by_cases h5:o.Kind=5
  ·obtain ⟨cs,ci,b,s,j,k,i⟩:=ZnB hs;have hr:ci.Rows=o.Rows:=by
    have g:=j;unfold Zb5 at g;rw [Zbb hs] at g;cases hm:ZbE o.Size with
    | none=>rw [hm] at g;cases g
    | some r=>rw [hm] at g;rw [<-Option.some.inj g]
   have u:b=false:=by
    cases b with
    | false=>rfl
    | true=>
     exfalso;unfold Zcx at i;cases hm:ZiJ (Ze.mk ci.Field.Prime ci.Field.Degree ci.Field.Poly) ci.Rows with
     | none=>rw [hm] at i;cases i
     | some c=>
      rw [hm] at i;cases c with
      | false=>cases i
      | true=>
       have hd:decide ((ci.Rows.length:Int)>8)=true:=by rw [hr];simp;omega
       simp only [Option.bind_some,Bool.not_true,cond_false] at i;rw [hd] at i;cases i
   rw [u] at i;simp (disch:=omega) only [pz,e,j,i]
  by_cases h6:o.Kind=6
  ·obtain ⟨r,s,j,_,k⟩:=Zps hs;have hr:r.2=false:=by
    cases y:r.2 with
    | false=>rfl
    | true=>have:=k y;omega
   simp (disch:=omega) only [pz,e,j,hr]
  by_cases h7:o.Kind=7
  ·have q:=(ZrT (g:=⟨o.Size,o.Rows⟩) hs).ne fun v=>by have:(o.Rows.length:Int)<=720:=v.1.l1;omega
   simp (disch:=omega) only [pz,e,Zi4,Zbb hs,q]
  ·simp (disch:=omega) only [pz,]
 rw [hf] at h;cases h
theorem Zyr (s:ByteArray):∃ k b,ZkM s=some (k,b)/\ZiY s=some (k,b)/\(b=false->k=0)/\0<=k/\k<=7:=by
 obtain ⟨kn,n1,n2,hl⟩:∃ kn:List ByteArray,Zih=some kn/\Zep=some (⟨#[]⟩::kn)/\(kn.length:Int)=7:=⟨_,rfl,rfl,rfl⟩
 have a2:(((⟨#[]⟩:ByteArray)::kn).length:Int)=8:=by rw [List.length_cons];omega
 unfold ZkM ZiY Zob;have up:∀ n:Int,0<=n->n<=7->(∀ j,0<=j->j<n->¬ ix kn j=s)->loop (Zcf s (⟨#[]⟩::kn)) 1=loop (Zcf s (⟨#[]⟩::kn)) (n+1):=by
  intro n n0 n1 hn;refine Zh (B:=Zcf s (⟨#[]⟩::kn)) (fun k:Int=>k) (i:=1) (n:=n+1) ω fun k a b=>?_;have c:ix ((⟨#[]⟩:ByteArray)::kn) k=ix kn (k-1):=Zb8 ω;have l:=ZaI (hn (k-1) ω ω);simp (disch:=omega) only [pz,Zcf,c,l]
 rcases Za1 (B:=Zd2 kn s) (fun k=>k) (fun k=>ix kn k=s) (i:=0) (n:=7) ω (fun k a b hk=>by
   have l:=ZaI fun h=>hk h.symm;simp (disch:=omega) only [pz,Zd2,l]) with ⟨k,a,b,hk,hbef,e⟩|⟨hall,e⟩
 ·have o:=up k a ω hbef;have c:ix ((⟨#[]⟩:ByteArray)::kn) (k+1)=ix kn k:=by rw [Zb8 ω,show k+1-1=k by omega]
  have q1:=(ZX s (ix kn k)).2 hk.symm;have q2:=(ZX (ix kn k) s).2 hk;have u:loop (Zd2 kn s) 0=some k:=e.trans (Zc (by simp (disch:=omega) only [pz,Zd2,q1]));have y:loop (Zcf s (⟨#[]⟩::kn)) 1=some (k+1,true):=o.trans (Zc (by simp (disch:=omega) only [pz,Zcf,c,q2]));exact ⟨k+1,true,by simp (disch:=omega) only [pz,n2,y],by simp (disch:=omega) only [pz,n1,u],(fun h=>by cases h),by omega,by omega⟩
 ·have o:=up 7 ω ω hall;have u:loop (Zd2 kn s) 0=some (-1):=e.trans (Zc (by simp (disch:=omega) only [pz,Zd2]));have y:loop (Zcf s (⟨#[]⟩::kn)) 1=some (0,false):=o.trans (Zc (by simp (disch:=omega) only [pz,Zcf]));exact ⟨0,false,by simp (disch:=omega) only [pz,n2,y],by simp (disch:=omega) only [pz,n1,u];rfl,fun _=>rfl,by omega,by omega⟩
theorem ZuO {c:UInt8} {s:List UInt8}:∀ {xs:List (List UInt8)},c∈join xs s->c∈s\/∃ x∈xs,c∈x
 | [],h=>by cases h
 | [x],h=>.inr ⟨x,List.mem_singleton_self x,by rwa [join_one] at h⟩
 | x::y::r,h=>by
  rw [Znk] at h;rcases List.mem_append.1 h with h|h
  ·rcases List.mem_append.1 h with h|h
   ·exact .inr ⟨x,List.mem_cons_self ..,h⟩
   ·exact .inl h
  ·rcases ZuO h with h|⟨z,hz,h⟩
   ·exact .inl h
   ·exact .inr ⟨z,List.mem_cons_of_mem _ hz,h⟩
theorem ZvS {c:UInt8} {s:ByteArray} {xs:List ByteArray} (h1:c∉s.data.toList) (i:∀ x∈xs,c∉x.data.toList):c∉(joinB xs s).data.toList:=by
 intro h;have h:c∈join (xs.map (·.data.toList)) s.data.toList:=h;rcases ZuO h with h|⟨x,j,h⟩
 ·exact h1 h
 ·obtain ⟨y,k,rfl⟩:=List.mem_map.1 j;exact i y k h
theorem tL_no {c:UInt8} (h1:¬ Dg c) (i:c≠45) (k:c≠44) (xs:List Int):c∉(tL xs).data.toList:=by
 by_cases j:xs=[]
 ·rw [tL_n j];intro h;exact i (List.mem_singleton.1 h)
 ·by_cases h:xs.length<=100/\∀ x∈xs,InR x
  ·rw [tL_t h j];refine ZvS (fun h=>k (List.mem_singleton.1 h)) fun x o=>?_;obtain ⟨n,_,rfl⟩:=List.mem_map.1 o;exact dg_no (l:=[]) h1 i n
  ·rw [tL_f h];intro h;cases h
theorem tR_no (rows:List (List Int)):32∉(tR rows).data.toList:=by
 unfold tR;split
 ·decide
 ·refine ZvS (by decide) fun x c=>?_;obtain ⟨r,_,rfl⟩:=List.mem_map.1 c;exact tL_no (by unfold Dg;decide) (by decide) (by decide) r
theorem ZsH (a b c t:ByteArray):joinB [a,b,c] t=(((a++t)++b)++t)++c:=by
 have h1:=ZfV (l:=[a,b]) (by simp) c t;have i:=ZfV (l:=[a]) (by simp) b t;have h1:joinB [a,b,c] t=joinB [a,b] t++t++c:=h1;have i:joinB [a,b] t=joinB [a] t++t++b:=i;rw [h1,i,Zmf]
theorem ZrE {s:ByteArray} (h:32∉s.data.toList) (n:Int) (rows:List (List Int)):splB 32 ((((s++⟨#[32]⟩)++itoaB n)++⟨#[32]⟩)++tR rows)=[s,itoaB n,tR rows]:=by
 rw [<-ZsH];refine Zmh (by simp) fun x c=>?_;simp only [List.mem_cons,List.not_mem_nil,or_false] at c;rcases c with rfl|rfl|rfl
 ·exact h
 ·exact dg_no (l:=[]) (by unfold Dg;decide) (by decide) n
 ·exact tR_no rows
theorem three {j:Type} {l:List j} (h:l.length=3):∃ a b c,l=[a,b,c]:=by
 match l,h with
 | [a,b,c],_=>exact ⟨a,b,c,rfl⟩
theorem ZsX {j:Type} {g:j->j}:∀ {l:List j},l.map g=l->∀ x∈l,g x=x
 | [],_,x,c=>by cases c
 | a::l,h,x,c=>by
  rw [List.map_cons,List.cons.injEq] at h;rcases List.mem_cons.1 c with rfl|c
  ·exact h.1
  ·exact ZsX h.2 x c
theorem ZHp {p:ByteArray} (h:tL (lst p).1=p):(lst p).2=true:=by
 unfold lst at h ⊢;split
 ·rfl
 ·rename_i h1;rw [if_neg h1] at h;split
  ·rfl
  ·rename_i c;rw [if_neg c] at h;rw [tL_n rfl] at h;exact absurd h.symm h1
theorem Ztt (s:ByteArray):-1000000000000000000<(numOf s).1/\(numOf s).1<1000000000000000000:=by
 by_cases h:(numOf s).2=true
 ·exact (ZnE (s:=s) (n:=(numOf s).1) (by rw [<-h])).1
 ·rw [Zt1 h];exact ⟨by show (-1000000000000000000:Int)<0;omega,by show (0:Int)<1000000000000000000;omega⟩
noncomputable def rowsRd (p:ByteArray):List (List Int):=if p=⟨#[110,111,110,101]⟩ then [] else (splB 47 p).map fun q=>(lst q).1
theorem ZwW {p:ByteArray} (h:p.size<=1048574):Sz2 (rowsRd p):=by
 unfold rowsRd;split
 ·exact ⟨by simp,fun b c=>by cases c⟩
 ·refine ⟨?_,fun b c=>?_⟩
  ·rw [List.length_map];have:=Zf3 47 p;omega
  ·obtain ⟨q,_,rfl⟩:=List.mem_map.1 c;have:=Zyp q;omega
theorem ZE9 {p:ByteArray} (hp:¬ p=⟨#[110,111,110,101]⟩) (h:p=tR (rowsRd p)):∀ q∈splB 47 p,(lst q).2=true:=by
 have o:rowsRd p=(splB 47 p).map fun q=>(lst q).1:=by unfold rowsRd;rw [if_neg hp]
 have l:rowsRd p≠[]:=by
  rw [o];have:=ZnU 47 p;simpa using this
 have i:p=joinB ((rowsRd p).map tL) ⟨#[47]⟩:=by
  unfold tR at h;rwa [if_neg l] at h
 have c:splB 47 p=(rowsRd p).map tL:=by
  conv=>lhs;rw [i]
  refine Zmh (by simpa using l) fun x j=>?_;obtain ⟨r,_,rfl⟩:=List.mem_map.1 j;exact tL_no (by unfold Dg;decide) (by decide) (by decide) r
 rw [o,List.map_map] at c;intro q k;exact ZHp (ZsX c.symm q k)
theorem ZzA {y:ByteArray} (hs:y.size<=1048576):∃ r,Zmm y=some r/\Zeh y=some r/\Sz2 r.1.Rows:=by
 have a4:ZaP y 32=some (splB 32 y):=ZhK (b:=32) ω;have ah:Za5 y ⟨#[32]⟩=some (splB 32 y):=ZhY (b:=32) ω;unfold Zmm Zeh;have z2:Sz2 (Zf.mk 0 0 ([]:List (List Int))).Rows:=⟨by simp,fun b l=>by cases l⟩
 by_cases h3:((splB 32 y).length:Int)=3
 ·obtain ⟨p0,p1,p2,he⟩:=three (show (splB 32 y).length=3 by omega);have bd:y.size=p0.size+1+p1.size+1+p2.size:=by
   have:=ZnT 32 y;rw [he,ZsH] at this;have:=congrArg ByteArray.size this;simp only [Zan] at this;have e1:(⟨#[32]⟩:ByteArray).size=1:=rfl;omega
  rw [he] at a4 ah;obtain ⟨k,b,a2,ad,af,al,am⟩:=Zyr p0;have ns:=Zg5 p1;have ni:=ZpM p1 ω;have b6:=Ztt p1;have hz:=ZwW (p:=p2) ω;have hR:∃ R,ZiE y (k,b) (numOf p1) (rowsRd p2)=some R/\Zin y (k,b) (numOf p1) (rowsRd p2)=some R/\Sz2 R.1.Rows/\((R=(Zf.mk 0 0 ([]:List (List Int)),false))\/(b=true/\(numOf p1).2=true/\(p2=⟨#[110,111,110,101]⟩\/((splB 47 p2).length:Int)<=720/\∀ q∈splB 47 p2,(lst q).2=true))):=by
   unfold ZiE Zin;obtain ⟨cv,v1,v2⟩:=Zwl (o:=Zf.mk k (numOf p1).1 (rowsRd p2)) hz;cases cv with
   | false=>exact ⟨(Zf.mk 0 0 ([]:List (List Int)),false),by simp (disch:=omega) only [pz,v2],by simp (disch:=omega) only [pz,v1],z2,.inl rfl⟩
   | true=>
    obtain ⟨k1,k7⟩:=ZCl v2;have a1:=ZHg hz v2;obtain ⟨t,t1,t2,_,s,aw,et⟩:=ZF1 (o:=Zf.mk k (numOf p1).1 (rowsRd p2)) k1 k7 (by show _<=(numOf p1).1/\(numOf p1).1<=_;omega) (by have:((rowsRd p2).length:Int)<=720:=a1;show (rowsRd p2).length<=_;omega);have t2:=t2 v2;by_cases ac:t=y
    ·have u:=(ZX t y).2 ac;refine ⟨(Zf.mk k (numOf p1).1 (rowsRd p2),true),by simp (disch:=omega) only [pz,v2,t2,u],by simp (disch:=omega) only [pz,v1,t1,u],hz,.inr ⟨?_,?_,?_⟩⟩
     ·cases b with
      | true=>rfl
      | false=>have:=af rfl;have k1:1<=k:=k1;omega
     ·have hp:=ZrE aw (numOf p1).1 (rowsRd p2);rw [<-et,ac,he] at hp;simp only [List.cons.injEq,and_true] at hp;refine Classical.byContradiction fun c=>c ?_;have e0:=Zt1 c;have:=Znj (n:=(numOf p1).1) (by rw [e0];exact ⟨by show (-999999999:Int)<=0;omega,by show (0:Int)<=999999999;omega⟩);rw [<-hp.2.1] at this;rw [this]
     ·have hp:=ZrE aw (numOf p1).1 (rowsRd p2);rw [<-et,ac,he] at hp;simp only [List.cons.injEq,and_true] at hp;by_cases c:p2=⟨#[110,111,110,101]⟩
      ·exact .inl c
      ·refine .inr ⟨?_,ZE9 c hp.2.2⟩;have a1:((rowsRd p2).length:Int)<=720:=a1;unfold rowsRd at a1;rw [if_neg c,List.length_map] at a1;exact a1
    ·have u:=ZaI ac;exact ⟨(Zf.mk 0 0 ([]:List (List Int)),false),by simp (disch:=omega) only [pz,v2,t2,u],by simp (disch:=omega) only [pz,v1,t1,u],z2,.inl rfl⟩
  obtain ⟨R,R1,R2,R3,R4⟩:=hR;refine ⟨R,?_,?_,R3⟩
  ·have g0:ix [p0,p1,p2] 0=p0:=rfl;have g1:ix [p0,p1,p2] 1=p1:=rfl;have g2:ix [p0,p1,p2] 2=p2:=rfl;have l3:(([p0,p1,p2]:List ByteArray).length:Int)=3:=rfl;have ae:ZkZ y [p0,p1,p2] (k,b) (numOf p1)=some R\/R=(Zf.mk 0 0 ([]:List (List Int)),false)/\¬ (b=true/\(numOf p1).2=true):=by
    by_cases ag:b=true/\(numOf p1).2=true
    ·refine .inl ?_;unfold ZkZ;by_cases c:p2=⟨#[110,111,110,101]⟩
     ·have u:=(ZX p2 _).2 c;have e:rowsRd p2=[]:=by unfold rowsRd;rw [if_pos c]
      rw [e] at R2;simp (disch:=omega) only [pz,g2,u,R2]
     ·have u:=ZaI c;have a6:ZaP p2 47=some (splB 47 p2):=ZhK (b:=47) ω;have e:rowsRd p2=(splB 47 p2).map fun q=>(lst q).1:=by unfold rowsRd;rw [if_neg c]
      by_cases hl:((splB 47 p2).length:Int)<=720
      ·have step:∀ n:Int,0<=n->n<=((splB 47 p2).length:Int)->(∀ j,0<=j->j<n->(lst (ix (splB 47 p2) j)).2=true)->loop (Zb2 y (k,b) (numOf p1) (splB 47 p2)) (0,[])=loop (Zb2 y (k,b) (numOf p1) (splB 47 p2)) (n,((splB 47 p2).take n.toNat).map fun q=>(lst q).1):=by
        intro n n0 n1 b3;refine Zh (B:=Zb2 y (k,b) (numOf p1) (splB 47 p2)) (fun m:Int=>(m,((splB 47 p2).take m.toNat).map fun q=>(lst q).1)) (i:=0) (n:=n) n0 fun m a b=>?_;have hm:=b3 m a b;have hr:=ZwF (s:=ix (splB 47 p2) m) (by have:=ZfU (Zl a (show m<((splB 47 p2).length:Int) by omega));omega);have b1:(((splB 47 p2).take m.toNat).map fun q=>(lst q).1).length<=720:=by rw [List.length_map,List.length_take];omega
        have hg:gApp 24 (((splB 47 p2).take m.toNat).map fun q=>(lst q).1) [(lst (ix (splB 47 p2) m)).1]=some (((splB 47 p2).take m.toNat).map (fun q=>(lst q).1)++[(lst (ix (splB 47 p2) m)).1]):=gApp1 ω ω;rw [ZeS a ω];simp (disch:=omega) only [pz,Zb2,hr,hm,hg]
       rcases Zjc (n:=(splB 47 p2).length) ω (fun m=>¬ (lst (ix (splB 47 p2) m)).2=true) with ⟨m,m0,m1,hm,hbad⟩|hbad
       ·have e3:=step m m0 ω fun j a b=>Classical.not_not.1 (hbad j a b);have hr:=ZwF (s:=ix (splB 47 p2) m) (by have:=ZfU (Zl m0 m1);omega);have ai:(lst (ix (splB 47 p2) m)).2=false:=by simpa using hm
        have a0:R=(Zf.mk 0 0 ([]:List (List Int)),false):=by
         rcases R4 with h|⟨_,_,h|h⟩
         ·exact h
         ·exact absurd h c
         ·exact absurd (h.2 _ (Zl m0 m1)) hm
        have e4:loop (Zb2 y (k,b) (numOf p1) (splB 47 p2)) (0,[])=some R:=by
         rw [e3,a0];refine Zc ?_;simp (disch:=omega) only [pz,Zb2,hr,ai]
        simp (disch:=omega) only [pz,g2,u,a6,e4]
       ·have e3:=step (splB 47 p2).length ω ω fun j a b=>Classical.not_not.1 (hbad j a b);rw [Int.toNat_natCast,List.take_length,<-e] at e3;have e4:loop (Zb2 y (k,b) (numOf p1) (splB 47 p2)) (0,[])=some R:=by
         rw [e3];refine Zc ?_;simp (disch:=omega) only [pz,Zb2,R2]
        simp (disch:=omega) only [pz,g2,u,a6,e4]
      ·have a0:R=(Zf.mk 0 0 ([]:List (List Int)),false):=by
        rcases R4 with h|⟨_,_,h|h⟩
        ·exact h
        ·exact absurd h c
        ·exact absurd h.1 hl
       rw [a0];simp (disch:=omega) only [pz,g2,u,a6]
    ·refine .inr ⟨?_,ag⟩;rcases R4 with h|⟨h1,h2,_⟩
     ·exact h
     ·exact absurd ⟨h1,h2⟩ ag
   rcases ae with ae|⟨a0,ag⟩
   ·by_cases l:b=true
    ·by_cases hc:(numOf p1).2=true
     ·simp (disch:=omega) only [pz,a4,l3,g0,a2,g1,ns,l,hc];rw [l] at ae;exact ae
     ·have a0:R=(Zf.mk 0 0 ([]:List (List Int)),false):=by
       rcases R4 with h|⟨h1,h2,_⟩
       ·exact h
       ·exact absurd h2 hc
      have hc:(numOf p1).2=false:=by simpa using hc
      rw [a0];simp (disch:=omega) only [pz,a4,l3,g0,a2,g1,ns,l,hc]
    ·have a0:R=(Zf.mk 0 0 ([]:List (List Int)),false):=by
      rcases R4 with h|⟨h1,h2,_⟩
      ·exact h
      ·exact absurd h1 l
     have l:b=false:=by simpa using l
     rw [a0];simp (disch:=omega) only [pz,a4,l3,g0,a2,g1,ns,l]
   ·rw [a0];by_cases l:b=true
    ·have hc:(numOf p1).2=false:=by
      cases hc:(numOf p1).2 with
      | false=>rfl
      | true=>exact absurd ⟨l,hc⟩ ag
     simp (disch:=omega) only [pz,a4,l3,g0,a2,g1,ns,l,hc]
    ·have l:b=false:=by simpa using l
     simp (disch:=omega) only [pz,a4,l3,g0,a2,g1,ns,l]
  ·have g0:ix [p0,p1,p2] 0=p0:=rfl;have g1:ix [p0,p1,p2] 1=p1:=rfl;have g2:ix [p0,p1,p2] 2=p2:=rfl;have l3:(([p0,p1,p2]:List ByteArray).length:Int)=3:=rfl;by_cases c:p2=⟨#[110,111,110,101]⟩
   ·have u:=(ZX p2 _).2 c;have e:rowsRd p2=[]:=by unfold rowsRd;rw [if_pos c]
    rw [e] at R1;simp (disch:=omega) only [pz,ah,l3,g0,ad,g1,ni,g2,u,R1]
   ·have u:=ZaI c;have a6:=ZhY (b:=47) (s:=p2) ω;have e:rowsRd p2=(splB 47 p2).map fun q=>(lst q).1:=by unfold rowsRd;rw [if_neg c]
    have hl:=Zf3 47 p2;have e3:=Zh (B:=ZgX y (k,b) (numOf p1) (splB 47 p2)) (fun m:Int=>(m,((splB 47 p2).take m.toNat).map fun q=>(lst q).1)) (i:=0) (n:=(splB 47 p2).length) ω fun m a b=>by
     have hr:=ZEo (s:=ix (splB 47 p2) m) (by have:=ZfU (Zl a b);omega);have b1:(((splB 47 p2).take m.toNat).map fun q=>(lst q).1).length<=1048577:=by rw [List.length_map,List.length_take];omega
     have hg:gApp 24 (((splB 47 p2).take m.toNat).map fun q=>(lst q).1) [(lst (ix (splB 47 p2) m)).1]=some (((splB 47 p2).take m.toNat).map (fun q=>(lst q).1)++[(lst (ix (splB 47 p2) m)).1]):=gApp1 ω ω;rw [ZeS a b];simp (disch:=omega) only [pz,ZgX,hr,hg]
    rw [Int.toNat_natCast,List.take_length,<-e] at e3;have e4:loop (ZgX y (k,b) (numOf p1) (splB 47 p2)) (0,[])=some R:=by
     refine Eq.trans e3 (Zc ?_);simp (disch:=omega) only [pz,ZgX,R1]
    simp (disch:=omega) only [pz,ah,l3,g0,ad,g1,ni,g2,u,a6,e4]
 ·exact ⟨(Zf.mk 0 0 ([]:List (List Int)),false),by simp (disch:=omega) only [pz,a4],by simp (disch:=omega) only [pz,ah],z2⟩
open Go Go.Vc Go.Lib
theorem Zta (b:UInt8):∀ l:List UInt8,b∉l\/∃ x y,l=x++b::y/\b∉x
 | []=>.inl (by simp)
 | c::l=>by
  by_cases i:c=b
  ·exact .inr ⟨[],l,by rw [i];rfl,by simp⟩
  ·rcases Zta b l with h|⟨x,y,rfl,j⟩
   ·exact .inl fun k=>by
     rcases List.mem_cons.1 k with e|k
     ·exact i e.symm
     ·exact h k
   ·exact .inr ⟨c::x,y,rfl,fun k=>by
     rcases List.mem_cons.1 k with e|k
     ·exact i e.symm
     ·exact j k⟩
theorem Zq8 (b:UInt8):∀ l:List UInt8,b∉l\/∃ x y,l=x++b::y/\b∉y
 | []=>.inl (by simp)
 | c::l=>by
  rcases Zq8 b l with h|⟨x,y,rfl,j⟩
  ·by_cases i:c=b
   ·exact .inr ⟨[],l,by rw [i];rfl,h⟩
   ·exact .inl fun k=>by
     rcases List.mem_cons.1 k with e|k
     ·exact i e.symm
     ·exact h k
  ·exact .inr ⟨c::x,y,rfl,j⟩
theorem ZtU {b:UInt8}:∀ {l:List UInt8},b∉l->index l [b]=-1
 | [],_=>by rw [index];rfl
 | c::l,h=>by
  have j:=ZtU (l:=l) fun k=>h (List.mem_cons_of_mem _ k);have hp:([b]:List UInt8).isPrefixOf (c::l)=false:=by
   have:¬ b=c:=fun e=>h (by rw [e];exact List.mem_cons_self ..);simp [List.isPrefixOf,this]
  rw [index,hp,j];rfl
theorem ZvH {b:UInt8} {y:List UInt8}:∀ {x:List UInt8},b∉x->index (x++b::y) [b]=(x.length:Int)
 | [],_=>by
  show index (b::y) [b]=_;rw [index];simp [List.isPrefixOf]
 | c::x,h=>by
  have j:=ZvH (y:=y) (x:=x) fun k=>h (List.mem_cons_of_mem _ k);have hp:([b]:List UInt8).isPrefixOf (c::(x++b::y))=false:=by
   have:¬ b=c:=fun e=>h (by rw [e];exact List.mem_cons_self ..);simp [List.isPrefixOf,this]
  show index (c::(x++b::y)) [b]=_;rw [index,hp,j];have:((x.length:Int)==-1)=false:=by
   cases i:(x.length:Int)==-1 with
   | false=>rfl
   | true=>have:=beq_iff_eq.1 i;omega
  rw [this];simp
theorem Zx0 {l:List UInt8} (h:32∉l):cut3 (bl l) ⟨#[32]⟩=(bl l,⟨#[]⟩,false):=by
 have hi:index l [32]=-1:=ZtU h;have e:cut l [32]=(l,[],false):=by
  unfold cut;rw [hi,if_neg ω]
 unfold cut3;show ((⟨(cut l [32]).1.toArray⟩:ByteArray),(⟨(cut l [32]).2.1.toArray⟩:ByteArray),(cut l [32]).2.2)=_;rw [e];rfl
theorem ZxW {x y:List UInt8} (h:32∉x):cut3 (bl (x++32::y)) ⟨#[32]⟩=(bl x,bl y,true):=by
 have hi:index (x++32::y) [32]=(x.length:Int):=ZvH h;have e:cut (x++32::y) [32]=(x,y,true):=by
  unfold cut;rw [hi,if_pos ω];simp
 unfold cut3;show ((⟨(cut (x++32::y) [32]).1.toArray⟩:ByteArray),(⟨(cut (x++32::y) [32]).2.1.toArray⟩:ByteArray),(cut (x++32::y) [32]).2.2)=_;rw [e];rfl
theorem ch_ne {c:UInt8} (h:¬ c=32):¬ (c.toNat:Int)=32:=fun e=>h (by
 apply UInt8.toNat_inj.1;have:(32:UInt8).toNat=32:=rfl;omega)
theorem at_l {x y:List UInt8} {i:Int} (j:0<=i) (h1:i<(x.length:Int)):∃ c∈x,gSt (bl (x++y)) i=some c:=by
 have hl:i.toNat<x.length:=ω;refine ⟨x[i.toNat],List.getElem_mem _,Zdt j ?_⟩;show (x++y)[i.toNat]?=_;rw [List.getElem?_append_left hl,List.getElem?_eq_getElem hl]
theorem at_m {x y:List UInt8} {b:UInt8}:gSt (bl (x++b::y)) (x.length:Int)=some b:=by
 refine Zdt ω ?_;show (x++b::y)[(x.length:Int).toNat]?=_;rw [Int.toNat_natCast,List.getElem?_append_right (Nat.le_refl _),Nat.sub_self];rfl
theorem at_r {x y:List UInt8} {b:UInt8} {i:Int} (j:(x.length:Int)<i) (h1:i<((x++b::y).length:Int)):∃ c∈y,gSt (bl (x++b::y)) i=some c:=by
 rw [List.length_append,List.length_cons] at h1;obtain ⟨k,hk⟩:∃ k,i.toNat=x.length+(k+1):=⟨i.toNat-x.length-1,by omega⟩
 have hl:k<y.length:=ω;refine ⟨y[k],List.getElem_mem _,Zdt ω ?_⟩;show (x++b::y)[i.toNat]?=_;rw [hk,List.getElem?_append_right ω,Nat.add_sub_cancel_left,List.getElem?_cons_succ,List.getElem?_eq_getElem hl]
theorem sl_l {x y:List UInt8}:gStSl (bl (x++y)) 0 (x.length:Int)=some (bl x):=by
 rw [ZbP ω ω (by rw [ZV,List.length_append];omega)];congr 2;show ((x++y).take (x.length:Int).toNat).drop 0=x;rw [Int.toNat_natCast];simp
theorem sl_r {x y:List UInt8} {b:UInt8}:gStSl (bl (x++b::y)) ((x.length:Int)+1) ((bl (x++b::y)).size:Int)=some (bl y):=by
 rw [ZbP ω (by rw [ZV,List.length_append,List.length_cons];omega) ω];congr 2;show (((x++b::y)).take ((bl (x++b::y)).size:Int).toNat).drop ((x.length:Int)+1).toNat=y;rw [Int.toNat_natCast,ZV,List.take_length,show ((x.length:Int)+1).toNat=x.length+1 by omega];simp [List.drop_append]
theorem ZmG {σ ρ:Type} {B:σ->Option (σ ⊕ ρ)} (f:Int->σ) {i m:Int} (hi:m<=i) (h:∀ k,m<k->k<=i->B (f k)=some (.inl (f (k-1)))):loop B (f i)=loop B (f m):=by
 rcases Ztq (B:=B) f (fun _=>False) hi fun k a b _=>h k a b with ⟨_,_,_,h,_⟩|⟨_,h⟩
 ·exact h.elim
 ·exact h
theorem ZDe {l:List UInt8} (h:32∉l) (hs:l.length<=1048576):ZfL (bl l) 32=some (-1)/\Zc0 (bl l)=some (⟨#[]⟩,false):=by
 have hz:(bl l).size=l.length:=ZV l;have j:∀ k:Int,-1<k->k<=(l.length:Int)-1->∃ c:UInt8,gSt (bl l) k=some c/\¬ (c.toNat:Int)=32:=fun k a b=>by
  obtain ⟨c,hm,hg⟩:=at_l (x:=l) (y:=[]) (i:=k) ω ω;rw [List.append_nil] at hg;exact ⟨c,hg,ch_ne fun e=>h (e▸hm)⟩
 constructor
 ·unfold ZfL ZjN;have e:loop (ZdA (bl l) 32) ((l.length:Int)-1)=some (-1):=by
   refine Eq.trans (ZmG (fun k=>k) (m:=-1) ω fun k a b=>?_) (Zc ?_)
   ·obtain ⟨c,hg,o⟩:=j k a b;simp (disch:=omega) only [pz,ZdA,hg]
   ·simp (disch:=omega) only [pz,ZdA]
  simp (disch:=omega) only [pz,hz,e]
 ·unfold Zc0;have k1:Zcn (bl l) (-1)=some (⟨#[]⟩,false):=by
   unfold Zcn;simp (disch:=omega) only [pz,]
  have e:loop (ZdF (bl l)) ((l.length:Int)-1)=some (⟨#[]⟩,false):=by
   refine Eq.trans (ZmG (fun k=>k) (m:=-1) ω fun k a b=>?_) (Zc ?_)
   ·obtain ⟨c,hg,o⟩:=j k a b;simp (disch:=omega) only [pz,ZdF,hg]
   ·simp (disch:=omega) only [pz,ZdF,k1]
  simp (disch:=omega) only [pz,hz,e]
theorem ZGa {x y:List UInt8} (h:32∉y) (hs:(x++32::y).length<=1048576) {r:ByteArray×Bool} (u:Zcn (bl (x++32::y)) (x.length:Int)=some r):
  ZfL (bl (x++32::y)) 32=some (x.length:Int)/\Zc0 (bl (x++32::y))=some r:=by
 have hz:(bl (x++32::y)).size=(x++32::y).length:=ZV _;have hl:(x++32::y).length=x.length+(y.length+1):=by rw [List.length_append,List.length_cons]
 have hm:gSt (bl (x++32::y)) (x.length:Int)=some 32:=at_m;have j:((32:UInt8).toNat:Int)=32:=rfl;have l:∀ k:Int,(x.length:Int)<k->k<=((x++32::y).length:Int)-1->∃ c:UInt8,gSt (bl (x++32::y)) k=some c/\¬ (c.toNat:Int)=32:=fun k a b=>by
  obtain ⟨c,hm,hg⟩:=at_r (x:=x) (y:=y) (b:=32) (i:=k) a ω;exact ⟨c,hg,ch_ne fun e=>h (e▸hm)⟩
 constructor
 ·unfold ZfL ZjN;have e:loop (ZdA (bl (x++32::y)) 32) (((x++32::y).length:Int)-1)=some (x.length:Int):=by
   refine Eq.trans (ZmG (fun k=>k) (m:=(x.length:Int)) ω fun k a b=>?_) (Zc ?_)
   ·obtain ⟨c,hg,o⟩:=l k a b;simp (disch:=omega) only [pz,ZdA,hg]
   ·simp (disch:=omega) only [pz,ZdA,hm,j]
  simp (disch:=omega) only [pz,hz,e]
 ·unfold Zc0;have e:loop (ZdF (bl (x++32::y))) (((x++32::y).length:Int)-1)=some r:=by
   refine Eq.trans (ZmG (fun k=>k) (m:=(x.length:Int)) ω fun k a b=>?_) (Zc ?_)
   ·obtain ⟨c,hg,o⟩:=l k a b;simp (disch:=omega) only [pz,ZdF,hg]
   ·simp (disch:=omega) only [pz,ZdF,hm,j,u]
  simp (disch:=omega) only [pz,hz,e]
theorem ZxF {l:List UInt8} (h:32∉l) (hs:l.length<=1048576):∃ r,Zdv (bl l)=some r/\r.2=false:=by
 have hz:(bl l).size=l.length:=ZV l;refine ⟨((Zd.mk ⟨#[]⟩ (Zf.mk 0 0 ([]:List (List Int))) ⟨#[]⟩),false),?_,rfl⟩;unfold Zdv;have k1:Zdc (bl l) (l.length:Int)=some ((Zd.mk ⟨#[]⟩ (Zf.mk 0 0 ([]:List (List Int))) ⟨#[]⟩),false):=by
  unfold Zdc;simp (disch:=omega) only [pz,hz]
 refine Eq.trans (Zh (fun k=>k) (n:=(l.length:Int)) ω fun k a b=>?_) (Zc ?_)
 ·obtain ⟨c,hm,hg⟩:=at_l (x:=l) (y:=[]) (i:=k) a b;rw [List.append_nil] at hg;have j:=ch_ne (c:=c) fun e=>h (e▸hm);simp (disch:=omega) only [pz,Zgm,hz,hg]
 ·simp (disch:=omega) only [pz,Zgm,hz,k1]
theorem ZsN {x y:List UInt8} (h:32∉x) (hs:(x++32::y).length<=1048576) {r:Zd×Bool} (u:Zdc (bl (x++32::y)) (x.length:Int)=some r):Zdv (bl (x++32::y))=some r:=by
 have hz:(bl (x++32::y)).size=(x++32::y).length:=ZV _;have hl:(x++32::y).length=x.length+(y.length+1):=by rw [List.length_append,List.length_cons]
 have hm:gSt (bl (x++32::y)) (x.length:Int)=some 32:=at_m;have j:((32:UInt8).toNat:Int)=32:=rfl;unfold Zdv;refine Eq.trans (Zh (fun k=>k) (n:=(x.length:Int)) ω fun k a b=>?_) (Zc ?_)
 ·obtain ⟨c,o,hg⟩:=at_l (x:=x) (y:=32::y) (i:=k) a b;have l:=ch_ne (c:=c) fun e=>h (e▸o);simp (disch:=omega) only [pz,Zgm,hz,hg]
 ·simp (disch:=omega) only [pz,Zgm,hz,hm,j,u]
theorem Zyj:∃ r,Zeh ⟨#[]⟩=some r/\r.2=false:=by
 have j:Za5 ⟨#[]⟩ ⟨#[32]⟩=some (splB 32 ⟨#[]⟩):=ZhY (b:=32) (by show 0<=_;omega);have hl:((splB 32 ⟨#[]⟩).length:Int)=1:=rfl;refine ⟨(Zf.mk 0 0 ([]:List (List Int)),false),?_,rfl⟩;unfold Zeh;simp (disch:=omega) only [pz,j,hl]
open Go Go.Vc Go.Lib
theorem trimP {l p:List UInt8} (hl:l.length<=1048576) (hp:p.length<=100):∃ r:List UInt8,Zdb (bl l) (bl p)=some (bl r)/\r.length<=l.length/\∀ q,l=p++q->r=q:=by
 have z1:(bl l).size=l.length:=ZV l;have z2:(bl p).size=p.length:=ZV p;unfold Zdb ZmH Zl2;by_cases h:p.length<=l.length
 ·have c:=ZbP (s:=bl l) (lo:=0) (hi:=(p.length:Int)) ω ω ω;have k:bl (((bl l).data.toList.take ((p.length:Int)).toNat).drop (0:Int).toNat)=bl (l.take p.length):=by
   rw [Int.toNat_natCast];rfl
  rw [k] at c;have j:=ZbP (s:=bl l) (lo:=(p.length:Int)) (hi:=((bl l).size:Int)) ω ω ω;have o:bl (((bl l).data.toList.take (((bl l).size:Int)).toNat).drop ((p.length:Int)).toNat)=bl (l.drop p.length):=by
   rw [Int.toNat_natCast,Int.toNat_natCast,z1];show bl ((l.take l.length).drop p.length)=_;rw [List.take_length]
  rw [o,z1] at j;by_cases i:bl (l.take p.length)=bl p
  ·have i:=(ZX _ _).2 i;refine ⟨l.drop p.length,?_,by rw [List.length_drop];omega,fun q e=>by rw [e];simp⟩;simp (disch:=omega) only [pz,z1,z2,c,i,j]
  ·have u:=ZaI i;refine ⟨l,?_,Nat.le_refl _,fun q e=>(i (by rw [e];simp)).elim⟩;simp (disch:=omega) only [pz,z1,z2,c,u]
 ·refine ⟨l,?_,Nat.le_refl _,fun q e=>(h (by rw [e,List.length_append];omega)).elim⟩;simp (disch:=omega) only [pz,z1,z2]
theorem Zr6 (l:List UInt8) (c:UInt8) (hl:(l++[c]).length<=1048576):Zfx (bl (l++[c])) ⟨#[10]⟩=some (decide (c=10)):=by
 have z1:(bl (l++[c])).size=l.length+1:=by rw [ZV,List.length_append];rfl
 have z2:((⟨#[10]⟩:ByteArray).size:Int)=1:=rfl;have hs:=ZbP (s:=bl (l++[c])) (lo:=(l.length:Int)) (hi:=((bl (l++[c])).size:Int)) ω ω ω;have es:bl (((bl (l++[c])).data.toList.take (((bl (l++[c])).size:Int)).toNat).drop ((l.length:Int)).toNat)=bl [c]:=by
  rw [Int.toNat_natCast,Int.toNat_natCast,ZV];show bl (((l++[c]).take (l++[c]).length).drop l.length)=_;rw [List.take_length];simp
 rw [es] at hs;have k:l.length<=1048576:=by rw [List.length_append] at hl;omega
 have w:((l.length+1:Nat):Int)-1=(l.length:Int):=ω;unfold Zfx Zc3;rw [z1] at hs ⊢;have j:((bl [c]).toList==(⟨#[10]⟩:ByteArray).toList)=decide (c=10):=by
  by_cases i:c=10
  ·rw [decide_eq_true i,i];exact (ZX _ _).2 rfl
  ·rw [decide_eq_false i];refine ZaI fun e=>i ?_;have:=congrArg (fun s:ByteArray=>s.data.toList) e;exact (List.cons.inj (show [c]=[10] from this)).1
 simp (disch:=omega) only [pz,z2,w,hs,j]
theorem trimS (l:List UInt8) (hl:(l++[10]).length<=1048576):Zlj (bl (l++[10])) ⟨#[10]⟩=some (bl l):=by
 have h1:=Zr6 l 10 hl;have h1:Zc3 (bl (l++[10])) ⟨#[10]⟩=some true:=by
  have c:(Zc3 (bl (l++[10])) ⟨#[10]⟩).bind (fun i=>some i)=some true:=h1;cases e:Zc3 (bl (l++[10])) ⟨#[10]⟩ with
  | none=>rw [e] at c;cases c
  | some b=>rw [e] at c;exact c
 have z1:(bl (l++[10])).size=l.length+1:=by rw [ZV,List.length_append];rfl
 have z2:((⟨#[10]⟩:ByteArray).size:Int)=1:=rfl;have j:l.length<=1048576:=by rw [List.length_append] at hl;omega
 have w:((l.length+1:Nat):Int)-1=(l.length:Int):=ω;have hs:gStSl (bl (l++[10])) 0 (l.length:Int)=some (bl l):=sl_l;unfold Zlj ZqU;simp (disch:=omega) only [pz,h1,z1,z2,w,hs]
def catW:List UInt8:=[99,97,116,97,108,111,103]
theorem ZGM {s:ByteArray} (hs:s.size<=1048576):∃ r,ZcV s=some r/\ZcJ s=some r/\r.1.length<=24/\∀ w∈r.1,w.size<=1048576:=by
 obtain ⟨l,rfl⟩:∃ l,s=bl l:=⟨_,(Zam s).symm⟩
 rw [ZV] at hs;have a4:ZaP (bl l) 10=some (splB 10 (bl l)):=ZhK (b:=10) (by rw [ZV];omega);have he:splB 10 (bl l)=(spl 10 l).map bl:=rfl;have av:∀ {P:List ByteArray×Int->Prop},P ([],11)->P ([],11):=fun h=>h;by_cases h0:l=[]
 ·subst h0;have hl:((splB 10 (bl [])).length:Int)=1:=rfl;have z:((bl []).size:Int)=0:=rfl;have z2:((⟨#[10]⟩:ByteArray).size:Int)=1:=rfl;have hh:Zfx (bl []) ⟨#[10]⟩=some false:=by
   unfold Zfx Zc3;simp (disch:=omega) only [pz,z,z2]
  refine ⟨([],11),?_,?_,by simp,fun w hw=>by cases hw⟩
  ·unfold ZcV;simp (disch:=omega) only [pz,a4,hl]
  ·unfold ZcJ;simp (disch:=omega) only [pz,hh]
 ·obtain ⟨l',c,rfl⟩:∃ l' c,l=l'++[c]:=⟨l.dropLast,l.getLast h0,(List.dropLast_concat_getLast h0).symm⟩
  have hL:l'.length+1<=1048576:=by rw [List.length_append] at hs;exact hs
  have a3:=Zr6 l' c hs;by_cases hc:c=10
  ·subst hc;rw [decide_eq_true rfl] at a3;have ab:=trimS l' hs;have hS:splB 10 (bl (l'++[10]))=splB 10 (bl l')++[⟨#[]⟩]:=by
    rw [he];have h1:spl 10 l'=(spl 10 l').dropLast++[(spl 10 l').getLast (Ziy 10 l')]:=(List.dropLast_concat_getLast _).symm;have o:=ZkR (b:=10) l' 10 h1;rw [if_pos rfl,<-h1] at o;rw [o,List.map_append];rfl
   rw [hS] at a4;have a7:Za5 (bl l') ⟨#[10]⟩=some (splB 10 (bl l')):=ZhY (b:=10) (by rw [ZV];omega);have a5:∀ w∈splB 10 (bl l'),w.size<=1048575:=fun w hw=>by
    have:=ZfU hw;rw [ZV] at this;omega
   have aa:=Zf3 10 (bl l');rw [ZV] at aa;obtain ⟨h,t,ht⟩:∃ h t,splB 10 (bl l')=h::t:=by
    cases e:splB 10 (bl l') with
    | nil=>exact absurd e (ZnU 10 _)
    | cons h t=>exact ⟨h,t,rfl⟩
   rw [ht] at a4 a7 a5 aa;have b4:=a5 h (List.mem_cons_self ..);rw [List.length_cons] at aa;have x1:((h::t++[⟨#[]⟩]:List ByteArray).length:Int)=(t.length:Int)+2:=by rw [List.length_append,List.length_cons,List.length_singleton];omega
   have x2:ix (h::t++[⟨#[]⟩]:List ByteArray) ((t.length:Int)+1)=⟨#[]⟩:=by
    have:(h::t++[⟨#[]⟩]:List ByteArray)[((t.length:Int)+1).toNat]?=some ⟨#[]⟩:=by
     rw [show ((t.length:Int)+1).toNat=(h::t).length by rw [List.length_cons];omega,List.getElem?_append_right (Nat.le_refl _),Nat.sub_self];rfl
    have h3:=Zaa (xs:=(h::t++[⟨#[]⟩]:List ByteArray)) (i:=(t.length:Int)+1) ω ω;rw [this] at h3;exact (Option.some.inj h3).symm
   have x3:((⟨#[]⟩:ByteArray).toList==(⟨#[]⟩:ByteArray).toList)=true:=(ZX _ _).2 rfl;have x4:ix (h::t++[⟨#[]⟩]:List ByteArray) 0=h:=rfl;have x5:ix (h::t:List ByteArray) 0=h:=rfl;have x6:((h::t:List ByteArray).length:Int)=(t.length:Int)+1:=by rw [List.length_cons];omega
   have w1:(t.length:Int)+2-1=(t.length:Int)+1:=ω;have w2:(t.length:Int)+2-2=(t.length:Int):=ω;have w3:(t.length:Int)+1-1=(t.length:Int):=ω;have y1:gSl (h::t++[⟨#[]⟩]:List ByteArray) 1 ((t.length:Int)+1)=some t:=by
    rw [Zbr ω ω ω];congr 1;rw [show ((t.length:Int)+1).toNat=(h::t).length by rw [List.length_cons];omega,List.take_left];rfl
   have y2:gSl (h::t:List ByteArray) 1 ((t.length:Int)+1)=some t:=by
    rw [Zbr ω ω ω];congr 1;rw [show ((t.length:Int)+1).toNat=(h::t).length by rw [List.length_cons];omega,List.take_length];rfl
   have ac:ZcV (bl (l'++[10]))=ZhG (h::t++[⟨#[]⟩]):=by
    unfold ZcV;simp (disch:=omega) only [pz,a4,x1,w1,x2,x3]
   obtain ⟨hd,rfl⟩:∃ hd,h=bl hd:=⟨_,(Zam h).symm⟩
   rw [ZV] at b4;obtain ⟨r,r1,r2,r3⟩:=trimP (l:=hd) (p:=[99,97,116,97,108,111,103,32]) ω (by decide);have r1:Zdb (bl hd) ⟨#[99,97,116,97,108,111,103,32]⟩=some (bl r):=r1;have ni:=ZpM (bl r) (by rw [ZV];omega);have j:ZaP (bl hd) 32=some (splB 32 (bl hd)):=ZhK (b:=32) (by rw [ZV];omega);have g1:∀ m:Int,gFit (⟨#[99,97,116,97,108,111,103,32]⟩:ByteArray) (itoaB m)=some ()->True:=fun _ _=>trivial;by_cases hm:∃ m:Int,0<=m/\m<=24/\bl hd=(⟨#[99,97,116,97,108,111,103,32]⟩:ByteArray)++itoaB m
   ·obtain ⟨m,m0,m1,hm⟩:=hm;have am:InR m:=⟨by omega,by omega⟩
    have hn:=Znj am;have b3:=Za0 am;have ag:hd=[99,97,116,97,108,111,103,32]++itoa m:=by
     have:=congrArg (fun s:ByteArray=>s.data.toList) hm;rw [<-Zam (itoaB m),Zc4] at this;have e2:(⟨#[99,97,116,97,108,111,103,32]⟩:ByteArray)=bl [99,97,116,97,108,111,103,32]:=rfl;rw [e2,Zbe] at this;exact this
    have hr:=r3 _ ag;have ah:bl r=itoaB m:=by rw [hr];rfl
    rw [ah] at r1 ni;have b8:=dg_no (l:=[]) (c:=32) (by unfold Dg;decide) (by decide) m;have hw:splB 32 (bl hd)=[bl catW,itoaB m]:=by
     have e2:bl hd=joinB [bl catW,itoaB m] ⟨#[32]⟩:=by
      have:=ZfV (l:=[bl catW]) (by simp) (itoaB m) ⟨#[32]⟩;rw [hm,show [bl catW,itoaB m]=[bl catW]++[itoaB m] from rfl,this,Zmf];rfl
     rw [e2];refine Zmh (by simp) fun x hx=>?_;simp only [List.mem_cons,List.not_mem_nil,or_false] at hx;rcases hx with rfl|rfl
     ·decide
     ·exact b8
    rw [hw] at j;have v1:(([bl catW,itoaB m]:List ByteArray).length:Int)=2:=rfl;have v2:ix [bl catW,itoaB m] 0=bl catW:=rfl;have v3:ix [bl catW,itoaB m] 1=itoaB m:=rfl;have v4:((bl catW).toList==(⟨#[99,97,116,97,108,111,103]⟩:ByteArray).toList)=true:=(ZX _ _).2 rfl;have ns:=Zg5 (itoaB m);rw [hn] at ns ni;have i1:ZI m 0 24=some true:=by simp (disch:=omega) only [pz,ZI]
    have i2:ZK m 0 24=some true:=by simp (disch:=omega) only [pz,ZK]
    have dd:=ZcR (n:=m) ω ω;have gf:gFit (⟨#[99,97,116,97,108,111,103,32]⟩:ByteArray) (itoaB m)=some ():=gFitW (by show 8+_<=_;omega);have y:=(ZX _ _).2 hm;have ae:ZcV (bl (l'++[10]))=Zjn (bl hd::t++[⟨#[]⟩]) (m,true):=by
     rw [ac];unfold ZhG ZmK;simp (disch:=omega) only [pz,x4,j,v1,v2,v4,v3,ns,i1]
    have a6:ZcJ (bl (l'++[10]))=Zc5 (bl hd::t) (m,true) false:=by
     unfold ZcJ;simp (disch:=omega) only [pz,a3,ab,a7,x5,r1,ni,i2,dd,gf,y]
    have sz:Zgl (bl hd::t)=some ((t.length:Int)+1):=by unfold Zgl;rw [x6]
    rw [ae,a6];unfold Zjn Zc5;by_cases a1:(t.length:Int)<m
    ·exact ⟨([],11),by simp (disch:=omega) only [pz,x1,w2],by simp (disch:=omega) only [pz,sz,w3],by simp,fun w hw=>by cases hw⟩
    ·by_cases a2:(t.length:Int)>m
     ·exact ⟨([],9),by simp (disch:=omega) only [pz,x1,w2],by simp (disch:=omega) only [pz,sz,w3],by simp,fun w hw=>by cases hw⟩
     ·refine ⟨(t,0),by simp (disch:=omega) only [pz,x1,w2,w1,y1],by simp (disch:=omega) only [pz,sz,w3,x6,y2],by show t.length<=24;omega,fun w hw=>?_⟩;have:=a5 w (List.mem_cons_of_mem _ hw);omega
   ·refine ⟨([],9),?_,?_,by simp,fun w hw=>by cases hw⟩
    ·rw [ac];unfold ZhG;by_cases v1:((splB 32 (bl hd)).length:Int)=2
     ·obtain ⟨a,b,hab⟩:∃ a b,splB 32 (bl hd)=[a,b]:=by
       generalize splB 32 (bl hd)=L at v1
       match L,v1 with
       | [a,b],_=>exact ⟨a,b,rfl⟩
      have hj:=ZnT 32 (bl hd);rw [hab] at j hj;have u1:(([a,b]:List ByteArray).length:Int)=2:=rfl;have u2:ix [a,b] 0=a:=rfl;have u3:ix [a,b] 1=b:=rfl;by_cases ha:a=⟨#[99,97,116,97,108,111,103]⟩
      ·have y:=(ZX _ _).2 ha;have ns:=Zg5 b;unfold ZmK;by_cases k:(numOf b).2=true
       ·have b6:=(ZnE (s:=b) (n:=(numOf b).1) (by rw [<-k])).2;by_cases hi:0<=(numOf b).1/\(numOf b).1<=24
        ·refine absurd ⟨(numOf b).1,hi.1,hi.2,?_⟩ hm;have:=ZfV (l:=[a]) (by simp) b ⟨#[32]⟩;rw [Zmf] at this;rw [b6,<-hj,show [a,b]=[a]++[b] from rfl,this,ha];rfl
        ·have i1:ZI (numOf b).1 0 24=some false:=by
          by_cases ak:0<=(numOf b).1
          ·simp (disch:=omega) only [pz,ZI]
          ·simp (disch:=omega) only [pz,ZI]
         simp (disch:=omega) only [pz,x4,j,u1,u2,y,u3,ns,k,i1]
       ·have k:(numOf b).2=false:=by simpa using k
        simp (disch:=omega) only [pz,x4,j,u1,u2,y,u3,ns,k]
      ·have y:=ZaI ha;simp (disch:=omega) only [pz,x4,j,u1,u2,y]
     ·simp (disch:=omega) only [pz,x4,j]
    ·unfold ZcJ;have kk:Zc5 (bl hd::t) (numOf (bl r)) true=some ([],9):=by
      unfold Zc5;simp (disch:=omega) only [pz,]
     by_cases k:(numOf (bl r)).2=true
     ·have bm:=Ztt (bl r);by_cases hi:0<=(numOf (bl r)).1/\(numOf (bl r)).1<=24
      ·have i2:ZK (numOf (bl r)).1 0 24=some true:=by
        have:=hi.1;have:=hi.2;simp (disch:=omega) only [pz,ZK]
       have dd:=ZcR (n:=(numOf (bl r)).1) ω ω;have b3:=Za0 (x:=(numOf (bl r)).1) ⟨by omega,by omega⟩;have gf:gFit (⟨#[99,97,116,97,108,111,103,32]⟩:ByteArray) (itoaB (numOf (bl r)).1)=some ():=gFitW (by show 8+_<=_;omega);have y:=ZaI fun e=>hm ⟨(numOf (bl r)).1,hi.1,hi.2,e⟩;simp (disch:=omega) only [pz,a3,ab,a7,x5,r1,ni,k,i2,dd,gf,y,kk]
      ·have i2:ZK (numOf (bl r)).1 0 24=some false:=by
        by_cases ak:0<=(numOf (bl r)).1
        ·simp (disch:=omega) only [pz,ZK]
        ·simp (disch:=omega) only [pz,ZK]
       simp (disch:=omega) only [pz,a3,ab,a7,x5,r1,ni,k,i2,kk]
     ·have k:(numOf (bl r)).2=false:=by simpa using k
      simp (disch:=omega) only [pz,a3,ab,a7,x5,r1,ni,k,kk]
  ·rw [decide_eq_false hc] at a3;refine ⟨([],11),?_,?_,by simp,fun w hw=>by cases hw⟩
   ·have h1:spl 10 l'=(spl 10 l').dropLast++[(spl 10 l').getLast (Ziy 10 l')]:=(List.dropLast_concat_getLast _).symm;have o:=ZkR (b:=10) l' c h1;rw [if_neg hc] at o;generalize (spl 10 l').dropLast=os at o;generalize (spl 10 l').getLast (Ziy 10 l')=u at o;have hS:splB 10 (bl (l'++[c]))=os.map bl++[bl (u++[c])]:=by
     rw [he,o,List.map_append];rfl
    have bq:os.length<=1048576:=by
     have:=Zf3 10 (bl (l'++[c]));rw [hS,List.length_append,ZV,List.length_append,List.length_map,List.length_singleton,List.length_singleton] at this;omega
    rw [hS] at a4;have x1:((os.map bl++[bl (u++[c])]:List ByteArray).length:Int)=(os.length:Int)+1:=by rw [List.length_append,List.length_map,List.length_singleton];omega
    have w1:(os.length:Int)+1-1=(os.length:Int):=ω;have x2:ix (os.map bl++[bl (u++[c])]:List ByteArray) (os.length:Int)=bl (u++[c]):=by
     have:(os.map bl++[bl (u++[c])]:List ByteArray)[((os.length:Int)).toNat]?=some (bl (u++[c])):=by
      rw [Int.toNat_natCast,List.getElem?_append_right (by rw [List.length_map];exact Nat.le_refl _),List.length_map,Nat.sub_self];rfl
     have h3:=Zaa (xs:=(os.map bl++[bl (u++[c])]:List ByteArray)) (i:=(os.length:Int)) ω ω;rw [this] at h3;exact (Option.some.inj h3).symm
    have x3:((bl (u++[c])).toList==(⟨#[]⟩:ByteArray).toList)=false:=by
     refine ZaI fun e=>?_;have:=congrArg (fun s:ByteArray=>s.data.toList) e;have h3:u++[c]=[]:=this;simp at h3
    unfold ZcV;by_cases o:(os.length:Int)+1<2
    ·simp (disch:=omega) only [pz,a4,x1]
    ·simp (disch:=omega) only [pz,a4,x1,w1,x2,x3]
   ·unfold ZcJ;simp (disch:=omega) only [pz,a3]
theorem ZDH {w:ByteArray} (hs:w.size<=1048576):
  (∃ x y,Zc0 w=some (x,false)/\ZbX w=some y/\y.2.2=10) \/
  ∃ b x y,Zc0 w=some (b,true)/\Zdv b=some x/\ZbX w=some y/\(x.2=false/\y.2.2=9\/x.2=true/\y=(x.1.Name,x.1.Object,0)/\Sz2 x.1.Object.Rows):=by
 obtain ⟨l,rfl⟩:∃ l,w=bl l:=⟨_,(Zam w).symm⟩
 rw [ZV] at hs;rcases Zq8 32 l with h|⟨x,y,rfl,h⟩
 ·obtain ⟨j,i⟩:=ZDe h hs;refine .inl ⟨⟨#[]⟩,(⟨#[]⟩,Zf.mk 0 0 ([]:List (List Int)),10),i,?_,rfl⟩;unfold ZbX;simp (disch:=omega) only [pz,j]
 ·have hl:(x++32::y).length=x.length+(y.length+1):=by rw [List.length_append,List.length_cons]
  have hb:(bl x).size=x.length:=ZV x;have c1:=ZGk (s:=bl x) ω;have c2:=ZD5 (s:=bl x) ω;have a4:=Zn4 (Zop (bl x));generalize crN (byts (bl x))=q at c1 c2 a4;have d1:=Zec (n:=(q:Int)) ω ω;have d2:=ZcR (n:=(q:Int)) ω ω;have s1:gStSl (bl (x++32::y)) 0 (x.length:Int)=some (bl x):=sl_l;have s2:gStSl (bl (x++32::y)) ((x.length:Int)+1) ((bl (x++32::y)).size:Int)=some (bl y):=sl_r;have k1:Zcn (bl (x++32::y)) (x.length:Int)=some (bl x,(bl y).toList==(itoaB q).toList):=by
   unfold Zcn;simp (disch:=omega) only [pz,s1,c1,d1,s2]
  obtain ⟨j,i⟩:=ZGa h hs k1;by_cases c:bl y=itoaB q
  ·have c:=(ZX _ _).2 c;rw [c] at i;refine .inr ⟨bl x,?_⟩;rcases Zta 32 x with g|⟨u,v,rfl,g⟩
   ·obtain ⟨r,f1,f2⟩:=ZxF g ω;obtain ⟨r3,f3,f4⟩:=Zyj;have a0:=Zx0 g;refine ⟨r,(⟨#[]⟩,Zf.mk 0 0 ([]:List (List Int)),9),i,f1,?_,.inl ⟨f2,rfl⟩⟩;have kk:ZdR (bl (x++32::y)) (x.length:Int)=some (⟨#[]⟩,Zf.mk 0 0 ([]:List (List Int)),9):=by
     unfold ZdR Zfr;rw [s1,Option.bind_some,if_pos ω,Option.bind_some,a0];simp (disch:=omega) only [pz,f3,f4]
    unfold ZbX;simp (disch:=omega) only [pz,j,s1,c2,d2,s2,c,kk]
   ·have a5:(u++32::v).length=u.length+(v.length+1):=by rw [List.length_append,List.length_cons]
    have hv:(bl v).size=v.length:=ZV v;obtain ⟨R,R1,R2,R3⟩:=ZzA (y:=bl v) ω;have t1:gStSl (bl (u++32::v)) 0 (u.length:Int)=some (bl u):=sl_l;have t2:gStSl (bl (u++32::v)) ((u.length:Int)+1) ((bl (u++32::v)).size:Int)=some (bl v):=sl_r;have hz:((bl (u++32::v)).size:Int)=(u.length:Int)+((v.length:Int)+1):=by rw [ZV,a5];omega
    have a0:=ZxW (y:=v) g;obtain ⟨nb,k,o⟩:=two_q (ZFK (bl u)) (ZJj (bl u));have e9:Zf.mk R.1.Kind R.1.Size R.1.Rows=R.1:=rfl;have rd:∀ z,ZdR (bl ((u++32::v)++32::y)) ((u++32::v).length:Int)=some z->ZbX (bl ((u++32::v)++32::y))=some z:=fun z g1=>by
     unfold ZbX;simp (disch:=omega) only [pz,j,s1,c2,d2,s2,c,g1]
    cases nb with
    | false=>
     refine ⟨((Zd.mk ⟨#[]⟩ (Zf.mk 0 0 ([]:List (List Int))) ⟨#[]⟩),false),(⟨#[]⟩,Zf.mk 0 0 ([]:List (List Int)),9),i,ZsN g ω ?_,rd _ ?_,.inl ⟨rfl,rfl⟩⟩
     ·unfold Zdc;simp (disch:=omega) only [pz,hz,t1,k]
     ·unfold ZdR Zfr;rw [s1,Option.bind_some,if_pos (by rw [ZV];omega),Option.bind_some,a0];cases hr:R.2 with
      | false=>simp (disch:=omega) only [pz,R2,hr]
      | true=>simp (disch:=omega) only [pz,R2,hr,o]
    | true=>
     have k3:ZmX (bl (u++32::v)) (u.length:Int)=some (Zd.mk (bl u) R.1 ⟨#[]⟩,R.2):=by
      unfold ZmX;simp (disch:=omega) only [pz,t2,R1,t1]
     refine ⟨(Zd.mk (bl u) R.1 ⟨#[]⟩,R.2),if R.2=true then (bl u,R.1,0) else (⟨#[]⟩,Zf.mk 0 0 ([]:List (List Int)),9),i,ZsN g ω ?_,rd _ ?_,?_⟩
     ·unfold Zdc;simp (disch:=omega) only [pz,hz,t1,k,k3]
     ·unfold ZdR Zfr;rw [s1,Option.bind_some,if_pos (by rw [ZV];omega),Option.bind_some,a0];cases hr:R.2 with
      | false=>simp (disch:=omega) only [pz,R2,hr];rfl
      | true=>simp (disch:=omega) only [pz,R2,hr,o,ZnO];rfl
     ·cases hr:R.2 with
      | false=>exact .inl ⟨rfl,rfl⟩
      | true=>exact .inr ⟨rfl,rfl,R3⟩
  ·have c:=ZaI c;rw [c] at i;refine .inl ⟨bl x,(⟨#[]⟩,Zf.mk 0 0 ([]:List (List Int)),10),i,?_,rfl⟩;unfold ZbX;simp (disch:=omega) only [pz,j,s1,c2,d2,s2,c]
theorem Zs5 {xs:List Zd} {y:Zd}:insI xs y (xs.length:Int)=xs++[y]:=by
 unfold insI;rw [Int.toNat_natCast,List.take_length,List.drop_length,List.append_nil]
section
variable {B:Int} {ls:(List ByteArray)×Int} (hl:(ls.1.length:Int)<=24)
include hl
theorem ZtQ {xs:List Zd} {i:Int} {x:Zd×Bool} (l:Rise xs) (hz:∀ y∈xs,Sz2 y.Object.Rows) (hi:(xs.length:Int)=i) (h0:0<=i) (h1:i<(ls.1.length:Int)) (ho:Sz2 x.1.Object.Rows)
  (s:∀ j,0<=j->j<(xs.length:Int)->Bl (ix xs j).Name x.1.Name):
  ∃ z,Zhv B i xs x=some z/\Zhg B i xs (x.1.Name,x.1.Object,0)=some z/\((∃ c,z=.inr (⟨[]⟩,c))\/∃ y:Zd,z=.inl (i+1,xs++[y])/\Rise (xs++[y])/\Sz2 y.Object.Rows):=by
 have e:Zf.mk x.1.Object.Kind x.1.Object.Size x.1.Object.Rows=x.1.Object:=rfl;obtain ⟨q,k1,k2⟩:=ZCL ho B;unfold Zhv Zhg;by_cases k:q.2=0
 ·have p:Plc xs (Zd.mk x.1.Name x.1.Object q.1).Name (xs.length:Int) false:=⟨by omega,Int.le_refl _,s,fun j a b=>by omega,by simp⟩
  have pn:=ZIg (y:=Zd.mk x.1.Name x.1.Object q.1) l hz ho ω p;obtain ⟨r,o,r2⟩:=ZCC (c:=xs) (x:=Zd.mk x.1.Name x.1.Object q.1) ω;rcases r2 with ⟨rfl,no⟩|⟨u,r4,r5,r6⟩
  ·rw [if_neg (fun ⟨j,a,b,g⟩=>no j a b g),if_neg ω,Zs5] at pn;refine ⟨.inl (i+1,xs++[Zd.mk x.1.Name x.1.Object q.1]),by simp (disch:=omega) only [pz,e,k1,k,pn],by simp (disch:=omega) only [pz,e,k2,k,o],.inr ⟨_,rfl,?_,ho⟩⟩;have:=ZCZ l p;rwa [Zs5] at this
  ·rw [if_pos ⟨r,u,r4,r5⟩] at pn;exact ⟨.inr (⟨[]⟩,6),by simp (disch:=omega) only [pz,e,k1,k,pn],by simp (disch:=omega) only [pz,e,k2,k,o],.inl ⟨_,rfl⟩⟩
 ·exact ⟨.inr (⟨[]⟩,q.2),by simp (disch:=omega) only [pz,e,k1],by simp (disch:=omega) only [pz,e,k2],.inl ⟨_,rfl⟩⟩
theorem ZDt {xs:List Zd} {i:Int} (hw:∀ w∈ls.1,w.size<=1048576) (hx:Rise xs) (hz:∀ y∈xs,Sz2 y.Object.Rows) (hi:(xs.length:Int)=i) (h0:0<=i) (h1:i<(ls.1.length:Int)):
  ∃ z,Zgd B ls (i,xs)=some z/\ZgD B ls (i,xs)=some z/\((∃ c,z=.inr (⟨[]⟩,c))\/∃ y:Zd,z=.inl (i+1,xs++[y])/\Rise (xs++[y])/\Sz2 y.Object.Rows):=by
 unfold Zgd ZgD;rcases ZDH (hw _ (Zl h0 h1)) with ⟨x,y,k,l,o⟩|⟨b,x,y,k,l,o,⟨s,a5⟩|⟨s,rfl,a6⟩⟩
 ·exact ⟨.inr (⟨[]⟩,10),by simp (disch:=omega) only [pz,k],by simp (disch:=omega) only [pz,l,o],.inl ⟨_,rfl⟩⟩
 ·exact ⟨.inr (⟨[]⟩,9),by simp (disch:=omega) only [pz,k,l,s],by simp (disch:=omega) only [pz,o,a5],.inl ⟨_,rfl⟩⟩
 ·by_cases hp:0<i
  ·by_cases u:Bl (ix xs (i-1)).Name x.1.Name
   ·obtain ⟨z,z1,z2,z3⟩:=ZtQ (B:=B) hl hx hz hi h0 h1 a6 fun j g0 g1=>by
     by_cases hj:j=i-1
     ·subst hj;exact u
     ·exact (hx j (i-1) g0 ω ω).trans u
    have a0:Op.bytesLess (ix xs (i-1)).Name.toList x.1.Name.toList=true:=u;have hr:=@bl_or x.1.Name (ix xs (i-1)).Name;rw [a0] at hr;exact ⟨z,by simp (disch:=omega) only [pz,k,l,s,a0,z1],by simp (disch:=omega) only [pz,o,hr,z2],z3⟩
   ·have a0:Op.bytesLess (ix xs (i-1)).Name.toList x.1.Name.toList=false:=by simpa [Bl] using u
    have hr:=@bl_or x.1.Name (ix xs (i-1)).Name;rw [a0] at hr;exact ⟨.inr (⟨[]⟩,7),by simp (disch:=omega) only [pz,k,l,s,a0],by simp (disch:=omega) only [pz,o,hr],.inl ⟨_,rfl⟩⟩
  ·obtain ⟨z,z1,z2,z3⟩:=ZtQ (B:=B) hl hx hz hi h0 h1 a6 fun j g0 g1=>by omega
   exact ⟨z,by simp (disch:=omega) only [pz,k,l,s,z1],by simp (disch:=omega) only [pz,o,z2],z3⟩
theorem Zs2 (hw:∀ w∈ls.1,w.size<=1048576):∀ (m:Nat) (i:Int) (xs:List Zd),i+m=ls.1.length->0<=i->Rise xs->(∀ y∈xs,Sz2 y.Object.Rows)->(xs.length:Int)=i ->
  ∃ r,loop (Zgd B ls) (i,xs)=some r/\loop (ZgD B ls) (i,xs)=some r/\Szc r.1.Items
 | 0,i,xs,e,j,k,hz,hi=>⟨(⟨xs⟩,0),Zc (by unfold Zgd;simp (disch:=omega) only [pz,]),Zc (by unfold ZgD;simp (disch:=omega) only [pz,]),by show (xs.length:Int)<=_;omega,hz⟩
 | m+1,i,xs,e,j,k,hz,hi=>by
  obtain ⟨z,z1,z2,⟨c,rfl⟩|⟨y,rfl,l,o⟩⟩:=ZDt (B:=B) hl hw k hz hi j ω
  ·exact ⟨_,Zc z1,Zc z2,by show ((0:Nat):Int)<=_;omega,fun _ h=>by cases h⟩
  ·obtain ⟨r,s,r2,u⟩:=Zs2 hw m (i+1) (xs++[y]) ω ω l (fun w h=>by
    rcases List.mem_append.1 h with h|h
    ·exact hz w h
    ·cases List.mem_singleton.1 h;exact o) (by rw [List.length_append,List.length_singleton];omega)
   exact ⟨r,by rw [Zy z1,s],by rw [Zy z2,r2],u⟩
end
theorem ZCe {s:ByteArray} (hs:s.size<=1048576) (B:Int):∃ r,Zk7 s B=some r/\Zg3 s B=some r/\Szc r.1.Items:=by
 have z:Szc ([]:List Zd):=⟨by show ((0:Nat):Int)<=_;omega,fun _ h=>by cases h⟩
 have k:=in_ok B 1 20000;have l:=Znh B;generalize decide (1<=B/\B<=20000)=b at k l;obtain ⟨ls,l1,l2,l3,u⟩:=ZGM hs;unfold Zk7 Zg3;cases b with
 | false=>exact ⟨(⟨[]⟩,2),by simp (disch:=omega) only [pz,k],by simp (disch:=omega) only [pz,l],z⟩
 | true=>
 by_cases o:ls.2=0
 ·obtain ⟨r,y,r2,r3⟩:=Zs2 (B:=B) ω u ls.1.length 0 [] ω ω (fun i j a b c=>by simp at c;omega) (fun _ h=>by cases h) rfl;exact ⟨r,by simp (disch:=omega) only [pz,k,l1,o,y],by simp (disch:=omega) only [pz,l,l2,o,r2],r3⟩
 ·exact ⟨(⟨[]⟩,ls.2),by simp (disch:=omega) only [pz,k,l1],by simp (disch:=omega) only [pz,l,l2],z⟩
theorem ZI5 {s:ByteArray} {B:Int} (hk:OkS s) (_:I64 B):Zog s B=some true:=by
 unfold Zog;by_cases u:(s.size:Int)>1048576
 ·simp (disch:=omega) only [pz,]
 have i:∀ x:Zm,Zm.mk x.Items=x:=fun _=>rfl;obtain ⟨⟨g,n⟩,h1,j,c⟩:=ZCe (s:=s) ω B;dsimp only at c;have k:=(ZHG (ZEG c)).eq (rfl:g=g);have l:=ZnG g.Items 1;have hg:=ZBU c;have o:=ZxR c;have k2:Zld (kItems 1 g.Items,⟨mItems 1 g.Items⟩)=some true:=by
  unfold Zld;simp (disch:=omega) only [pz,o]
 have k1:Zi6 s B (g,n) (g,n)=some true:=by
  unfold Zi6;simp (disch:=omega) only [pz,hg,o,j,k,k2,i]
 simp (disch:=omega) only [pz,h1,j,i,k,k1]
end Go.Proofs.YtdmledeildfidaaGreatDoor
