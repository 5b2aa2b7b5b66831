import Derived.Test.YtmmbnjijjdakmaaGreatDoorPuJe
namespace Go.Proofs.YtmmbnjijjdakmaaGreatDoor
open Go Go.Vc
set_option linter.unusedSimpArgs false
set_option linter.unusedVariables false
def Tb (q:Int) (g:Int→Int) (b:Int):List Int:=tabl q fun j=>if j<b then g j else 0
theorem ZlW {q b:Int} {g:Int→Int} (h0:0≤b) (h1:b<q):(Tb q g b).set b.toNat (g b)=Tb q g (b+1):=by
 apply Zcp h0 h1
 ·intro j j0 j1 j2
  by_cases hj:j<b
  ·rw [if_pos hj,if_pos (by omega)]
  ·rw [if_neg hj,if_neg (by omega)]
 ·rw [if_pos (by omega)]
theorem Zml {q:Int} {g:Int→Int}:Tb q g 0=List.replicate q.toNat 0:=by
 rw [ZmU]
 exact ZZ fun j j0 j1=>by rw [if_neg (by omega)]
theorem ZBo {q:Int} {g:Int→Int}:Tb q g q=tabl q g:=ZZ fun j j0 j1=>by rw [if_pos j1]
theorem ZiH {q b:Int} {g:Int→Int}:(Tb q g b).length=q.toNat:=ZJ
def iv (q:Int) (inv:List Int) (a b:Int):List Int:=tabl q fun i=>if 1≤i∧(i<a∨(i=a∧ix inv a<b)) then ix inv i else 0
def tabs (f:Zd) (q:Int) (inv:List Int):Zai:=
 ⟨q,tabl q fun a=>tabl q fun b=>sumA f a b 1,tabl q fun a=>tabl q fun b=>sumA f a b (f.Prime-1),tabl q fun a=>tabl q fun b=>mulA f a b,tabl q fun i=>if 1≤i then ix inv i else 0⟩
theorem ZAb {q a b:Int} {inv:List Int}:(iv q inv a b).length=q.toNat:=ZJ
theorem Zv4 {f:Zd} {q:Int} {inv:List Int} (hF:Ff f q inv) {a:Int} (a0:0≤a) (a1:a<q) {A S M:List (List Int)} (hA:(A.length:Int)=a) (hS:(S.length:Int)=a) (hM:(M.length:Int)=a):
  loop (Zcu f q a A S M) (0,iv q inv a 0,List.replicate q.toNat 0,List.replicate q.toNat 0,List.replicate q.toNat 0)=some (.inl (a+1,A++[tabl q fun b=>sumA f a b 1],S++[tabl q fun b=>sumA f a b (f.Prime-1)],M++[tabl q fun b=>mulA f a b],iv q inv (a+1) 0)):=by
 have hq2:=hF.q2;have hq64:=hF.q64
 have hgo:=ZA (B:=Zcu f q a A S M) (fun b=>(b,iv q inv a b,Tb q (fun b=>sumA f a b 1) b,Tb q (fun b=>sumA f a b (f.Prime-1)) b,Tb q (fun b=>mulA f a b) b)) (i:=0) (n:=q) (by omega) fun b b0 b1=>by
  have c1:=ZpM hF.fd (a:=a) (b:=b) (c:=1) (s:=1) a0 (by omega) b0 (by omega) (.inl ⟨rfl,rfl⟩)
  have c2:=ZpM hF.fd (a:=a) (b:=b) (c:=f.Prime-1) (s:=-1) a0 (by omega) b0 (by omega) (.inr ⟨rfl,rfl⟩)
  have c3:=ZAt hF.fd (a:=a) (b:=b) a0 (by omega) b0 (by omega)
  have s1:=ZlW (q:=q) (b:=b) (g:=fun b=>sumA f a b 1) b0 b1
  have s2:=ZlW (q:=q) (b:=b) (g:=fun b=>sumA f a b (f.Prime-1)) b0 b1
  have s3:=ZlW (q:=q) (b:=b) (g:=fun b=>mulA f a b) b0 b1
  have l1:(Tb q (fun b=>sumA f a b 1) b).length=q.toNat:=ZiH
  have l2:(Tb q (fun b=>sumA f a b (f.Prime-1)) b).length=q.toNat:=ZiH
  have l3:(Tb q (fun b=>mulA f a b) b).length=q.toNat:=ZiH
  have l4:(Tb q (fun b=>mulA f a b) (b+1)).length=q.toNat:=ZiH
  have l5:(iv q inv a b).length=q.toNat:=ZAb
  have x3:ix (Tb q (fun b=>mulA f a b) (b+1)) b=mulA f a b:=by
   unfold Tb
   rw [Z3 b0 b1,if_pos (by omega)]
  have hI:=hF.inv2 a b a0 a1 b0 b1
  by_cases hm:mulA f a b=1
  ·have hb:=hI.1 hm
   have a2:1≤a:=by
    by_cases h:a=0
    ·subst h
     rw [hF.z1 b b0 b1] at hm
     omega
    ·omega
   have s4:(iv q inv a b).set a.toNat b=iv q inv a (b+1):=by
    apply Zcp a0 a1
    ·intro j j0 j1 j2
     by_cases hj:1≤j∧(j<a∨(j=a∧ix inv a<b))
     ·rw [if_pos hj,if_pos (by omega)]
     ·rw [if_neg hj,if_neg (by omega)]
    ·rw [if_pos (by omega),hb]
   simp (disch:=omega) only [pz,Zcu,c1,c2,c3,l1,l2,l3,l4,l5,s1,s2,s3,x3,s4]
  ·have hb:¬ b=ix inv a:=fun h=>hm (hI.2 h)
   have s4:iv q inv a b=iv q inv a (b+1):=by
    refine ZZ fun j j0 j1=>?_
    by_cases hj:1≤j∧(j<a∨(j=a∧ix inv a<b))
    ·rw [if_pos hj,if_pos (by omega)]
    ·rw [if_neg hj,if_neg (by omega)]
   rw [s4]
   simp (disch:=omega) only [pz,Zcu,c1,c2,c3,l1,l2,l3,l4,l5,s1,s2,s3,x3]
 have e0:((0:Int),iv q inv a 0,List.replicate q.toNat (0:Int),List.replicate q.toNat (0:Int),List.replicate q.toNat (0:Int))=(fun b=>(b,iv q inv a b,Tb q (fun b=>sumA f a b 1) b,Tb q (fun b=>sumA f a b (f.Prime-1)) b,Tb q (fun b=>mulA f a b) b)) 0:=by
  show _=((0:Int),iv q inv a 0,Tb q _ 0,Tb q _ 0,Tb q _ 0)
  rw [Zml,Zml,Zml]
 rw [e0,hgo]
 refine Zc ?_
 have s4:iv q inv a q=iv q inv (a+1) 0:=by
  refine ZZ fun j j0 j1=>?_
  by_cases hj:1≤j∧j<a+1
  ·by_cases h:j=a
   ·have:=hF.inv1 a (by omega) a1
    rw [if_pos (by omega),if_pos (by omega)]
   ·rw [if_pos (by omega),if_pos (by omega)]
  ·by_cases h:j=a+1
   ·by_cases h':a+1<q
    ·have:=hF.inv1 (a+1) (by omega) h'
     rw [if_neg (by omega),if_neg (by omega)]
    ·omega
   ·rw [if_neg (by omega),if_neg (by omega)]
 simp only [ZBo,s4]
 simp (disch:=omega) only [pz,Zcu,gApp1]
theorem Zve {f:Zd} {q:Int} {inv:List Int} (hF:Ff f q inv) (hs:ZbZ f=some q):Zh3 f=some (tabs f q inv):=by
 have hq2:=hF.q2;have hq64:=hF.q64
 unfold Zh3
 rw [show Zd.mk f.Prime f.Degree f.Poly=f from rfl,hs]
 simp (disch:=omega) only [pz,ZdO]
 have ei:List.replicate q.toNat (0:Int)=iv q inv 0 0:=by
  rw [ZmU]
  exact ZZ fun j j0 j1=>by
   by_cases h:j=0
   ·rw [if_neg (by omega)]
   ·rw [if_neg (by omega)]
 have hgo:=ZA (B:=ZeT f q) (fun a=>(a,tabl a fun a=>tabl q fun b=>sumA f a b 1,tabl a fun a=>tabl q fun b=>sumA f a b (f.Prime-1),tabl a fun a=>tabl q fun b=>mulA f a b,iv q inv a 0)) (i:=0) (n:=q) (by omega) fun a a0 a1=>by
  have:=Zv4 hF a0 a1 (A:=tabl a fun a=>tabl q fun b=>sumA f a b 1) (S:=tabl a fun a=>tabl q fun b=>sumA f a b (f.Prime-1)) (M:=tabl a fun a=>tabl q fun b=>mulA f a b) (by rw [ZJ];omega) (by rw [ZJ];omega) (by rw [ZJ];omega)
  simp (disch:=omega) only [pz,ZeT,ZdO,this,ZeA]
 have e0:((0:Int),([]:List (List Int)),([]:List (List Int)),([]:List (List Int)),List.replicate q.toNat (0:Int))=(fun a=>(a,tabl a fun a=>tabl q fun b=>sumA f a b 1,tabl a fun a=>tabl q fun b=>sumA f a b (f.Prime-1),tabl a fun a=>tabl q fun b=>mulA f a b,iv q inv a 0)) 0:=by
  rw [ei];rfl
 rw [e0,hgo]
 refine Zc ?_
 have e1:iv q inv q 0=tabl q fun i=>if 1≤i then ix inv i else 0:=by
  refine ZZ fun j j0 j1=>?_
  by_cases h:1≤j
  ·rw [if_pos (by omega),if_pos h]
  ·rw [if_neg (by omega),if_neg h]
 simp (disch:=omega) only [pz,ZeT,e1]
 rfl
end Go.Proofs.YtmmbnjijjdakmaaGreatDoor
namespace Go.Proofs.YtmmbnjijjdakmaaGreatDoor
set_option linter.unusedVariables false
open Go Go.Vc
set_option linter.unusedSimpArgs false
structure Mat (q w:Int) (xs:List (List Int)):Prop where
 len:∀ i,0≤i→i<(xs.length:Int)→((ix xs i).length:Int)=w
 rng:∀ i,0≤i→i<(xs.length:Int)→In q (ix xs i)
 n:(xs.length:Int)≤64
 w1:w≤64
def scl (f:Zd) (row:List Int) (c:Int):List Int:=tabl row.length fun t=>mulA f (ix row t) c
def less (f:Zd) (v w:List Int) (c:Int):List Int:=tabl v.length fun t=>sumA f (ix v t) (mulA f (ix w t) c) (f.Prime-1)
def elim (f:Zd) (c r:Int) (row:List Int) (ys:List (List Int)):List (List Int):=tabl ys.length fun j=>if j=r then row else less f (ix ys j) row (ix (ix ys j) c)
theorem Zy8 {f:Zd} {q:Int} {inv:List Int} (hF:Ff f q inv) {e:Int} (h0:1≤e) (h1:e<q):Zhl f e=some (ix inv e):=by
 have hq:=hF.q64
 obtain ⟨i0,i1⟩:=hF.inv1 e h0 h1
 unfold Zhl
 have hgo:=ZA (B:=ZfP f e) (fun b=>b) (i:=1) (n:=ix inv e) (by omega) fun b b0 b1=>by
  have hM:=Zj2 hF.fd (a:=e) (b:=b) (by omega) (by omega) (by omega) (by omega)
  have hI:=hF.inv2 e b (by omega) h1 (by omega) (by omega)
  have hb:¬ mulA f e b=1:=fun h=>by have:=hI.1 h;omega
  simp (disch:=omega) only [pz,ZfP,hM]
 rw [hgo]
 refine Zc ?_
 have hM:=Zj2 hF.fd (a:=e) (b:=ix inv e) (by omega) (by omega) (by omega) (by omega)
 have hI:=(hF.inv2 e (ix inv e) (by omega) h1 (by omega) (by omega)).2 rfl
 simp (disch:=omega) only [pz,ZfP,hM]
theorem Zuq {f:Zd} {q:Int} {inv:List Int} (hF:Ff f q inv) {row:List Int} {c:Int} (hr:In q row) (hl:(row.length:Int)≤64) (c0:0≤c) (c1:c<q):Zh9 f row c=some (scl f row c):=by
 have hq:=hF.q64
 unfold Zh9
 have hgo:=ZA (B:=ZeM f row c) (fun t=>(tabl t fun t=>mulA f (ix row t) c,t)) (i:=0) (n:=row.length) (by omega) fun t t0 t1=>by
  obtain ⟨g1,g2⟩:=hr t t0 t1
  have hM:=Zj2 hF.fd (a:=ix row t) (b:=c) (by omega) (by omega) (by omega) (by omega)
  have hl:(tabl t fun t=>mulA f (ix row t) c).length=t.toNat:=ZJ
  simp (disch:=omega) only [pz,ZeM,hM,gApp1,hl,ZeA]
 have e0:(([]:List Int),(0:Int))=(fun t=>(tabl t fun t=>mulA f (ix row t) c,t)) 0:=rfl
 rw [e0,hgo]
 refine Zc ?_
 simp (disch:=omega) only [pz,ZeM]
 rfl
theorem ZtB {f:Zd} {q:Int} {inv:List Int} (hF:Ff f q inv) {v w:List Int} {c:Int} (hv:In q v) (hw:In q w) (hl:(v.length:Int)≤64) (he:w.length=v.length) (c0:0≤c) (c1:c<q):Zh2 f v w c=some (less f v w c):=by
 have hq:=hF.q64;have hp:=hF.fd.p2;have hp64:=hF.fd.p64
 unfold Zh2
 have hgo:=ZA (B:=Zd8 f v w c) (fun t=>(tabl t fun t=>sumA f (ix v t) (mulA f (ix w t) c) (f.Prime-1),t)) (i:=0) (n:=v.length) (by omega) fun t t0 t1=>by
  obtain ⟨g1,g2⟩:=hv t t0 t1
  obtain ⟨g3,g4⟩:=hw t t0 (by omega)
  have hM:=Zj2 hF.fd (a:=ix w t) (b:=c) (by omega) (by omega) (by omega) (by omega)
  obtain ⟨g5,g6⟩:=Zde hF.fd hF.pw (ix w t) c
  have hS:=ZBc hF.fd (a:=ix v t) (b:=mulA f (ix w t) c) (c:=f.Prime-1) (by omega) (by omega) (by omega) (by omega) (by omega) (by omega)
  have hl:(tabl t fun t=>sumA f (ix v t) (mulA f (ix w t) c) (f.Prime-1)).length=t.toNat:=ZJ
  simp (disch:=omega) only [pz,Zd8,hM,hS,gApp1,hl,ZeA]
 have e0:(([]:List Int),(0:Int))=(fun t=>(tabl t fun t=>sumA f (ix v t) (mulA f (ix w t) c) (f.Prime-1),t)) 0:=rfl
 rw [e0,hgo]
 refine Zc ?_
 simp (disch:=omega) only [pz,Zd8]
 rfl
theorem Zik {f:Zd} {row:List Int} {c:Int}:(scl f row c).length=row.length:=by unfold scl;rw [ZJ];omega
theorem Zqw {f:Zd} {v w:List Int} {c:Int}:(less f v w c).length=v.length:=by unfold less;rw [ZJ];omega
theorem ZmZ {f:Zd} {q:Int} {inv:List Int} (hF:Ff f q inv) {row:List Int} {c:Int}:In q (scl f row c):=fun i h0 h1=>by
 rw [Zik] at h1
 unfold scl
 rw [Z3 h0 h1]
 exact Zde hF.fd hF.pw _ _
theorem ZuY {f:Zd} {q:Int} {inv:List Int} (hF:Ff f q inv) {v w:List Int} {c:Int}:In q (less f v w c):=fun i h0 h1=>by
 rw [Zqw] at h1
 unfold less
 rw [Z3 h0 h1]
 exact Zog hF.fd hF.pw _ _ _
theorem ZeP {f:Zd} {c r:Int} {row:List Int} {ys:List (List Int)}:(elim f c r row ys).length=ys.length:=by unfold elim;rw [ZJ];omega
theorem Mat.elim {f:Zd} {q w:Int} {inv:List Int} (hF:Ff f q inv) {c r:Int} {row:List Int} {ys:List (List Int)} (hy:Mat q w ys) (hr:In q row) (hl:(row.length:Int)=w):Mat q w (elim f c r row ys):=by
 refine ⟨fun i h0 h1=>?_,fun i h0 h1=>?_,by rw [ZeP];exact hy.n,hy.w1⟩
 ·rw [ZeP] at h1
  unfold Proofs.YtmmbnjijjdakmaaGreatDoor.elim
  rw [Z3 h0 h1]
  split
  ·exact hl
  ·rw [Zqw];exact hy.len i h0 h1
 ·rw [ZeP] at h1
  unfold Proofs.YtmmbnjijjdakmaaGreatDoor.elim
  rw [Z3 h0 h1]
  split
  ·exact hr
  ·exact ZuY hF
theorem Mat.set {q w:Int} {xs:List (List Int)} {i:Int} {row:List Int} (h:Mat q w xs) (h0:0≤i) (hr:In q row) (hl:(row.length:Int)=w):Mat q w (xs.set i.toNat row):=by
 refine ⟨fun j j0 j1=>?_,fun j j0 j1=>?_,by rw [List.length_set];exact h.n,h.w1⟩<;>rw [List.length_set] at j1
 ·by_cases e:i=j
  ·subst e;rw [Zci h0 j1];exact hl
  ·rw [Zfx h0 j0 e];exact h.len j j0 j1
 ·by_cases e:i=j
  ·subst e;rw [Zci h0 j1];exact hr
  ·rw [Zfx h0 j0 e];exact h.rng j j0 j1
theorem Zvt {f:Zd} {q w:Int} {inv:List Int} (hF:Ff f q inv) {piv:List Int} {c i:Int} {xs:List (List Int)} (hx:Mat q w xs) (hc0:0≤c) (hc1:c<w) (hi0:(piv.length:Int)≤i) (hi1:i<xs.length) (hp:¬ ix (ix xs i) c=0):
  Zan f piv c xs i=some (.inl (piv++[c],c+1,elim f c piv.length (scl f (ix xs i) (ix inv (ix (ix xs i) c))) ((xs.set i.toNat (ix xs piv.length)).set piv.length (scl f (ix xs i) (ix inv (ix (ix xs i) c)))))):=by
 have hq:=hF.q64;have hn:=hx.n;have hw:=hx.w1
 have hli:=hx.len i (by omega) hi1
 have hri:=hx.rng i (by omega) hi1
 obtain ⟨e0,e1⟩:=hri c hc0 (by omega)
 obtain ⟨v0,v1⟩:=hF.inv1 (ix (ix xs i) c) (by omega) e1
 have hI:=Zy8 hF (e:=ix (ix xs i) c) (by omega) e1
 have hS:=Zuq hF (row:=ix xs i) (c:=ix inv (ix (ix xs i) c)) hri (by omega) (by omega) v1
 have hsl:(xs.set i.toNat (ix xs piv.length)).length=xs.length:=List.length_set
 simp (disch:=omega) only [pz,Zan,hI,hS]
 generalize hrow:scl f (ix xs i) (ix inv (ix (ix xs i) c))=row
 have hrl:(row.length:Int)=w:=by rw [←hrow,Zik];exact hli
 have hrr:In q row:=by rw [←hrow];exact ZmZ hF
 have hy:Mat q w ((xs.set i.toNat (ix xs piv.length)).set piv.length row):=(hx.set (by omega) (hx.rng _ (by omega) (by omega)) (hx.len _ (by omega) (by omega))).set (i:=(piv.length:Int)) (by omega) hrr hrl
 have hyr:ix ((xs.set i.toNat (ix xs piv.length)).set piv.length row) (piv.length:Int)=row:=Zci (i:=(piv.length:Int)) (by omega) (by rw [List.length_set];omega)
 have hyl:((xs.set i.toNat (ix xs piv.length)).set piv.length row).length=xs.length:=by rw [List.length_set,List.length_set]
 generalize ((xs.set i.toNat (ix xs piv.length)).set piv.length row)=ys at hy hyr hyl ⊢
 have hgo:=ZA (B:=Zc1 f piv c row) (fun j=>(j,tabl ys.length fun t=>if t<j then (if t=piv.length then row else less f (ix ys t) row (ix (ix ys t) c)) else ix ys t)) (i:=0) (n:=ys.length) (by omega) fun j j0 j1=>by
  have hl1:(tabl ys.length fun t=>if t<j then (if t=piv.length then row else less f (ix ys t) row (ix (ix ys t) c)) else ix ys t).length=ys.length:=by rw [ZJ];omega
  have hx1:ix (tabl ys.length fun t=>if t<j then (if t=piv.length then row else less f (ix ys t) row (ix (ix ys t) c)) else ix ys t) j=ix ys j:=by rw [Z3 j0 j1,if_neg (by omega)]
  by_cases hj:j=piv.length
  ·have hs:(tabl ys.length fun t=>if t<j then (if t=piv.length then row else less f (ix ys t) row (ix (ix ys t) c)) else ix ys t)=tabl ys.length fun t=>if t<j+1 then (if t=piv.length then row else less f (ix ys t) row (ix (ix ys t) c)) else ix ys t:=by
    refine ZZ fun t t0 t1=>?_
    by_cases h:t<j
    ·rw [if_pos h,if_pos (show t<j+1 by omega)]
    ·by_cases h':t=j
     ·rw [if_neg h,if_pos (show t<j+1 by omega),if_pos (by omega),h',hj,hyr]
     ·rw [if_neg h,if_neg (show ¬ t<j+1 by omega)]
   have hl2:(tabl ys.length fun t=>if t<j+1 then (if t=piv.length then row else less f (ix ys t) row (ix (ix ys t) c)) else ix ys t).length=ys.length:=by rw [ZJ];omega
   simp only [hs]
   simp (disch:=omega) only [pz,Zc1,hl2]
  ·have hlj:=hy.len j j0 j1
   have hrj:=hy.rng j j0 j1
   obtain ⟨d0,d1⟩:=hrj c hc0 (by omega)
   have hL:=ZtB hF (v:=ix ys j) (w:=row) (c:=ix (ix ys j) c) hrj hrr (by omega) (by omega) d0 d1
   have hs:(tabl ys.length fun t=>if t<j then (if t=piv.length then row else less f (ix ys t) row (ix (ix ys t) c)) else ix ys t).set j.toNat (less f (ix ys j) row (ix (ix ys j) c))=tabl ys.length fun t=>if t<j+1 then (if t=piv.length then row else less f (ix ys t) row (ix (ix ys t) c)) else ix ys t:=by
    apply Zcp j0 j1
    ·intro t t0 t1 t2
     by_cases h:t<j
     ·rw [if_pos h,if_pos (show t<j+1 by omega)]
     ·rw [if_neg h,if_neg (show ¬ t<j+1 by omega)]
    ·rw [if_pos (by omega),if_neg hj]
   simp (disch:=omega) only [pz,Zc1,hl1,hx1,hL,hs]
 have e0:((0:Int),ys)=(fun j=>(j,tabl ys.length fun t=>if t<j then (if t=piv.length then row else less f (ix ys t) row (ix (ix ys t) c)) else ix ys t)) 0:=by
  show _=((0:Int),_)
  congr 1
  refine (ZcS ys).symm.trans (ZZ fun t t0 t1=>?_)
  rw [if_neg (by omega)]
 rw [e0,hgo]
 refine Zc ?_
 have e1:(tabl ys.length fun t=>if t<(ys.length:Int) then (if t=piv.length then row else less f (ix ys t) row (ix (ix ys t) c)) else ix ys t)=elim f c piv.length row ys:=ZZ fun t t0 t1=>by rw [if_pos t1]
 simp (disch:=omega) only [pz,Zc1,e1,ZeP,gApp1]
end Go.Proofs.YtmmbnjijjdakmaaGreatDoor
namespace Go.Proofs.YtmmbnjijjdakmaaGreatDoor
set_option linter.unusedVariables false
open Go Go.Vc
set_option linter.unusedSimpArgs false
theorem ZaD {α:Type} [Inhabited α] {n:Int} {f:Int→α} {i:Int} (h0:0≤i) (h1:i<n):gIdx (tabl n f) i=some (f i):=by
 rw [Zjn h0 (by rw [ZJ];omega),Z3 h0 h1]
theorem Ztq {f:Zd} {q:Int} {inv:List Int}:(tabs f q inv).qadd=tabl q fun a=>tabl q fun b=>sumA f a b 1:=rfl
theorem ZpZ {f:Zd} {q:Int} {inv:List Int}:(tabs f q inv).qsub=tabl q fun a=>tabl q fun b=>sumA f a b (f.Prime-1):=rfl
theorem Zle {f:Zd} {q:Int} {inv:List Int}:(tabs f q inv).qmul=tabl q fun a=>tabl q fun b=>mulA f a b:=rfl
theorem Zwf {f:Zd} {q:Int} {inv:List Int}:(tabs f q inv).qinv=tabl q fun i=>if 1≤i then ix inv i else 0:=rfl
theorem Zvl {f:Zd} {q:Int} {inv:List Int} (hF:Ff f q inv) {v w c:Int} (v0:0≤v) (v1:v<q) (w0:0≤w) (w1:w<q) (c0:0≤c) (c1:c<q):sumA f v (mulA f (sumA f 0 c (f.Prime-1)) w) 1=sumA f v (mulA f w c) (f.Prime-1):=by
 obtain ⟨m0,m1⟩:=Zde hF.fd hF.pw w c
 rw [hF.neg c w c0 c1 w0 w1,hF.comm c w c0 c1 w0 w1,hF.sub v _ v0 v1 m0 m1]
theorem ZAu {f:Zd} {q:Int} {inv:List Int} (hF:Ff f q inv) {v w:List Int} {c:Int} (hv:In q v) (hw:In q w) (hl:(v.length:Int)≤64) (he:w.length=v.length) (c0:0≤c) (c1:c<q):
  Zgs (tabs f q inv) v w (sumA f 0 c (f.Prime-1))=some (less f v w c):=by
 have hq:=hF.q64
 obtain ⟨n0,n1⟩:=Zog hF.fd hF.pw 0 c (f.Prime-1)
 unfold Zgs
 have hgo:=ZA (B:=Zd7 (tabs f q inv) w (sumA f 0 c (f.Prime-1))) (fun t=>(t,tabl v.length fun u=>if u<t then sumA f (ix v u) (mulA f (ix w u) c) (f.Prime-1) else ix v u)) (i:=0) (n:=v.length) (by omega) fun t t0 t1=>by
  obtain ⟨g1,g2⟩:=hv t t0 t1
  obtain ⟨g3,g4⟩:=hw t t0 (by omega)
  have hl1:(tabl v.length fun u=>if u<t then sumA f (ix v u) (mulA f (ix w u) c) (f.Prime-1) else ix v u).length=v.length:=by rw [ZJ];omega
  have hx1:ix (tabl v.length fun u=>if u<t then sumA f (ix v u) (mulA f (ix w u) c) (f.Prime-1) else ix v u) t=ix v t:=by rw [Z3 t0 t1,if_neg (by omega)]
  obtain ⟨m0,m1⟩:=Zde hF.fd hF.pw (sumA f 0 c (f.Prime-1)) (ix w t)
  have hs:(tabl v.length fun u=>if u<t then sumA f (ix v u) (mulA f (ix w u) c) (f.Prime-1) else ix v u).set t.toNat (sumA f (ix v t) (mulA f (sumA f 0 c (f.Prime-1)) (ix w t)) 1)=tabl v.length fun u=>if u<t+1 then sumA f (ix v u) (mulA f (ix w u) c) (f.Prime-1) else ix v u:=by
   apply Zcp t0 t1
   ·intro u u0 u1 u2
    by_cases h:u<t
    ·rw [if_pos h,if_pos (show u<t+1 by omega)]
    ·rw [if_neg h,if_neg (show ¬ u<t+1 by omega)]
   ·rw [if_pos (by omega),Zvl hF g1 g2 g3 g4 c0 c1]
  have i1:gIdx (tabl v.length fun u=>if u<t then sumA f (ix v u) (mulA f (ix w u) c) (f.Prime-1) else ix v u) t=some (ix v t):=by rw [Zjn t0 (by omega),hx1]
  have i2:gIdx (tabs f q inv).qadd (ix v t)=some (tabl q fun b=>sumA f (ix v t) b 1):=by rw [Ztq,ZaD g1 g2]
  have i3:gIdx (tabs f q inv).qmul (sumA f 0 c (f.Prime-1))=some (tabl q fun b=>mulA f (sumA f 0 c (f.Prime-1)) b):=by rw [Zle,ZaD n0 n1]
  have i4:gIdx (tabl q fun b=>mulA f (sumA f 0 c (f.Prime-1)) b) (ix w t)=some (mulA f (sumA f 0 c (f.Prime-1)) (ix w t)):=ZaD g3 g4
  have i5:gIdx (tabl q fun b=>sumA f (ix v t) b 1) (mulA f (sumA f 0 c (f.Prime-1)) (ix w t))=some (sumA f (ix v t) (mulA f (sumA f 0 c (f.Prime-1)) (ix w t)) 1):=ZaD m0 m1
  simp (disch:=omega) only [pz,Zd7,hx1,i2,i3,i4,i5,hs]
 have e0:((0:Int),v)=(fun t=>(t,tabl v.length fun u=>if u<t then sumA f (ix v u) (mulA f (ix w u) c) (f.Prime-1) else ix v u)) 0:=by
  show _=((0:Int),_)
  congr 1
  refine (ZcS v).symm.trans (ZZ fun t t0 t1=>?_)
  rw [if_neg (by omega)]
 rw [e0,hgo]
 refine Zc ?_
 have e1:(tabl v.length fun u=>if u<(v.length:Int) then sumA f (ix v u) (mulA f (ix w u) c) (f.Prime-1) else ix v u)=less f v w c:=ZZ fun t t0 t1=>by rw [if_pos t1]
 simp (disch:=omega) only [pz,Zd7,e1]
theorem ZxU {f:Zd} {q:Int} {inv:List Int} (hF:Ff f q inv) {v w:List Int} (hv:In q v) (hw:In q w) (he:w.length=v.length):less f v w 0=v:=by
 refine Eq.trans (ZZ fun t t0 t1=>?_) (ZcS v)
 obtain ⟨g1,g2⟩:=hv t t0 t1
 obtain ⟨g3,g4⟩:=hw t t0 (by omega)
 have hq:=hF.q2
 rw [hF.comm _ 0 g3 g4 (by omega) (by omega),hF.z1 _ g3 g4,hF.z2 _ g1 g2]
theorem ZAd {f:Zd} {q w:Int} {inv:List Int} (hF:Ff f q inv) {piv:List Int} {c d:Int} {row:List Int} {ys:List (List Int)} (hy:Mat q w ys) (hc0:0≤c) (hc1:c<w) (hr:(piv.length:Int)<ys.length) (hrl:(row.length:Int)=w) (hrr:In q row) (hyr:ix ys piv.length=row):
  loop (Zbr (tabs f q inv) piv c d ys) (0,ys)=some (if (piv.length:Int)+1=ys.length then .inr (.inr ((elim f c piv.length row ys).take (piv.length+1),piv++[c],d)) else .inr (.inl (piv++[c],d,c+1,elim f c piv.length row ys))):=by
 have hn:=hy.n;have hw:=hy.w1;have hq:=hF.q64;have hq2:=hF.q2
 have hgo:=ZA (B:=Zbr (tabs f q inv) piv c d ys) (fun j=>(j,tabl ys.length fun t=>if t<j then (if t=piv.length then row else less f (ix ys t) row (ix (ix ys t) c)) else ix ys t)) (i:=0) (n:=ys.length) (by omega) fun j j0 j1=>by
  have hl1:(tabl ys.length fun t=>if t<j then (if t=piv.length then row else less f (ix ys t) row (ix (ix ys t) c)) else ix ys t).length=ys.length:=by rw [ZJ];omega
  have hx1:ix (tabl ys.length fun t=>if t<j then (if t=piv.length then row else less f (ix ys t) row (ix (ix ys t) c)) else ix ys t) j=ix ys j:=by rw [Z3 j0 j1,if_neg (by omega)]
  have i1:gIdx (tabl ys.length fun t=>if t<j then (if t=piv.length then row else less f (ix ys t) row (ix (ix ys t) c)) else ix ys t) j=some (ix ys j):=by rw [Zjn j0 (by omega),hx1]
  by_cases hj:j=piv.length
  ·have hs:(tabl ys.length fun t=>if t<j then (if t=piv.length then row else less f (ix ys t) row (ix (ix ys t) c)) else ix ys t)=tabl ys.length fun t=>if t<j+1 then (if t=piv.length then row else less f (ix ys t) row (ix (ix ys t) c)) else ix ys t:=by
    refine ZZ fun t t0 t1=>?_
    by_cases h:t<j
    ·rw [if_pos h,if_pos (show t<j+1 by omega)]
    ·by_cases h':t=j
     ·rw [if_neg h,if_pos (show t<j+1 by omega),if_pos (by omega),h',hj,hyr]
     ·rw [if_neg h,if_neg (show ¬ t<j+1 by omega)]
   simp only [hs] at i1 ⊢
   simp (disch:=omega) only [pz,Zbr,Zdx,i1]
  ·have hlj:=hy.len j j0 j1
   have hrj:=hy.rng j j0 j1
   obtain ⟨d0,d1⟩:=hrj c hc0 (by omega)
   by_cases hz:ix (ix ys j) c=0
   ·have hs:(tabl ys.length fun t=>if t<j then (if t=piv.length then row else less f (ix ys t) row (ix (ix ys t) c)) else ix ys t)=tabl ys.length fun t=>if t<j+1 then (if t=piv.length then row else less f (ix ys t) row (ix (ix ys t) c)) else ix ys t:=by
     refine ZZ fun t t0 t1=>?_
     by_cases h:t<j
     ·rw [if_pos h,if_pos (show t<j+1 by omega)]
     ·by_cases h':t=j
      ·rw [if_neg h,if_pos (show t<j+1 by omega),if_neg (by omega),h',hz,ZxU hF hrj hrr (by omega)]
      ·rw [if_neg h,if_neg (show ¬ t<j+1 by omega)]
    simp only [hs] at i1 ⊢
    simp (disch:=omega) only [pz,Zbr,Zdx,i1]
   ·have hL:=ZAu hF (v:=ix ys j) (w:=row) (c:=ix (ix ys j) c) hrj hrr (by omega) (by omega) d0 d1
    have hs:(tabl ys.length fun t=>if t<j then (if t=piv.length then row else less f (ix ys t) row (ix (ix ys t) c)) else ix ys t).set j.toNat (less f (ix ys j) row (ix (ix ys j) c))=tabl ys.length fun t=>if t<j+1 then (if t=piv.length then row else less f (ix ys t) row (ix (ix ys t) c)) else ix ys t:=by
     apply Zcp j0 j1
     ·intro t t0 t1 t2
      by_cases h:t<j
      ·rw [if_pos h,if_pos (show t<j+1 by omega)]
      ·rw [if_neg h,if_neg (show ¬ t<j+1 by omega)]
     ·rw [if_pos (by omega),if_neg hj]
    have hx2:ix (tabl ys.length fun t=>if t<j then (if t=piv.length then row else less f (ix ys t) row (ix (ix ys t) c)) else ix ys t) (piv.length:Int)=row:=by
     rw [Z3 (by omega) hr]
     by_cases h:(piv.length:Int)<j
     ·rw [if_pos h,if_pos rfl]
     ·rw [if_neg h,hyr]
    have i3:gIdx (tabs f q inv).qsub 0=some (tabl q fun b=>sumA f 0 b (f.Prime-1)):=by rw [ZpZ,ZaD (by omega) (by omega)]
    have i4:gIdx (tabl q fun b=>sumA f 0 b (f.Prime-1)) (ix (ix ys j) c)=some (sumA f 0 (ix (ix ys j) c) (f.Prime-1)):=ZaD d0 d1
    have i5:gNe j (piv.length:Int)=some ():=by unfold gNe;rw [if_pos hj]
    have he:Zai.mk (tabs f q inv).qq (tabs f q inv).qadd (tabs f q inv).qsub (tabs f q inv).qmul (tabs f q inv).qinv=tabs f q inv:=rfl
    simp (disch:=omega) only [pz,Zbr,Zdx,hx1,hx2,i3,i4,i5,he,hL,hs]
 have e0:((0:Int),ys)=(fun j=>(j,tabl ys.length fun t=>if t<j then (if t=piv.length then row else less f (ix ys t) row (ix (ix ys t) c)) else ix ys t)) 0:=by
  show _=((0:Int),_)
  congr 1
  refine (ZcS ys).symm.trans (ZZ fun t t0 t1=>?_)
  rw [if_neg (by omega)]
 rw [e0,hgo]
 refine Zc ?_
 have e1:(tabl ys.length fun t=>if t<(ys.length:Int) then (if t=piv.length then row else less f (ix ys t) row (ix (ix ys t) c)) else ix ys t)=elim f c piv.length row ys:=ZZ fun t t0 t1=>by rw [if_pos t1]
 have hel:(elim f c piv.length row ys).length=ys.length:=ZeP
 have hpl:(piv++[c]).length=piv.length+1:=by simp
 simp only [e1]
 by_cases h:(piv.length:Int)+1=ys.length
 ·rw [if_pos h]
  have g:gSl (elim f c piv.length row ys) 0 ((piv++[c]).length:Int)=some ((elim f c piv.length row ys).take (piv.length+1)):=by
   rw [ZaX (by omega) (by omega) (by omega),hpl]
   rfl
  simp (disch:=omega) only [pz,Zbr,gApp1,ZdY,g]
 ·rw [if_neg h]
  simp (disch:=omega) only [pz,Zbr,gApp1,Ze5]
end Go.Proofs.YtmmbnjijjdakmaaGreatDoor
namespace Go.Proofs.YtmmbnjijjdakmaaGreatDoor
set_option linter.unusedVariables false
open Go Go.Vc
set_option linter.unusedSimpArgs false
theorem ZpX {α:Type} [Inhabited α] {xs:List α} {k:Nat}:xs.set k (ix xs (k:Int))=xs:=by
 apply ZdG
 ·exact List.length_set
 ·intro i i0 i1
  rw [List.length_set] at i1
  by_cases h:(k:Int)=i
  ·subst h
   exact Zci (i:=(k:Int)) i0 i1
  ·exact Zfx (i:=(k:Int)) (by omega) i0 h
theorem Zqa {f:Zd} {q w:Int} {inv:List Int} (hF:Ff f q inv) {piv:List Int} {c d:Int} {xs:List (List Int)} (hx:Mat q w xs) (hc0:0≤c) (hc1:c<w) (hr:(piv.length:Int)<xs.length) (hp:¬ ix (ix xs piv.length) c=0) (d0:0≤d) (d1:d<q):
  Zfr (tabs f q inv) piv c d xs=some (if (piv.length:Int)+1=xs.length
   then .inr ((elim f c piv.length (scl f (ix xs piv.length) (ix inv (ix (ix xs piv.length) c))) (xs.set piv.length (scl f (ix xs piv.length) (ix inv (ix (ix xs piv.length) c))))).take (piv.length+1),piv++[c],mulA f d (ix (ix xs piv.length) c))
   else .inl (piv++[c],mulA f d (ix (ix xs piv.length) c),c+1,elim f c piv.length (scl f (ix xs piv.length) (ix inv (ix (ix xs piv.length) c))) (xs.set piv.length (scl f (ix xs piv.length) (ix inv (ix (ix xs piv.length) c)))))):=by
 have hq:=hF.q64;have hn:=hx.n;have hw:=hx.w1
 have hlr:=hx.len piv.length (by omega) hr
 have hrr:=hx.rng piv.length (by omega) hr
 obtain ⟨e0,e1⟩:=hrr c hc0 (by omega)
 obtain ⟨v0,v1⟩:=hF.inv1 (ix (ix xs piv.length) c) (by omega) e1
 have i1:gIdx (tabs f q inv).qmul d=some (tabl q fun b=>mulA f d b):=by rw [Zle,ZaD d0 d1]
 have i2:gIdx (tabl q fun b=>mulA f d b) (ix (ix xs piv.length) c)=some (mulA f d (ix (ix xs piv.length) c)):=ZaD e0 e1
 simp (disch:=omega) only [pz,Zfr,i1,i2]
 generalize hR:ix xs piv.length=R at *
 generalize hE:ix R c=e at *
 have hgo:=ZA (B:=Zd2 (tabs f q inv) piv c e (mulA f d e) R) (fun t=>(t,xs.set piv.length (tabl R.length fun u=>if u<t then mulA f (ix R u) (ix inv e) else ix R u))) (i:=0) (n:=R.length) (by omega) fun t t0 t1=>by
  obtain ⟨g1,g2⟩:=hrr t t0 t1
  have hl1:(tabl R.length fun u=>if u<t then mulA f (ix R u) (ix inv e) else ix R u).length=R.length:=by rw [ZJ];omega
  have hx1:ix (tabl R.length fun u=>if u<t then mulA f (ix R u) (ix inv e) else ix R u) t=ix R t:=by rw [Z3 t0 t1,if_neg (by omega)]
  have hs:(tabl R.length fun u=>if u<t then mulA f (ix R u) (ix inv e) else ix R u).set t.toNat (mulA f (ix inv e) (ix R t))=tabl R.length fun u=>if u<t+1 then mulA f (ix R u) (ix inv e) else ix R u:=by
   apply Zcp t0 t1
   ·intro u u0 u1 u2
    by_cases h:u<t
    ·rw [if_pos h,if_pos (show u<t+1 by omega)]
    ·rw [if_neg h,if_neg (show ¬ u<t+1 by omega)]
   ·rw [if_pos (by omega),hF.comm _ _ (by omega) v1 g1 g2]
  generalize (tabl R.length fun u=>if u<t then mulA f (ix R u) (ix inv e) else ix R u)=A at hl1 hx1 hs ⊢
  have hA:ix (xs.set piv.length A) piv.length=A:=Zci (i:=(piv.length:Int)) (by omega) hr
  have hAl:(xs.set piv.length A).length=xs.length:=List.length_set
  have i3:gIdx (tabs f q inv).qinv e=some (ix inv e):=by rw [Zwf,ZaD e0 e1,if_pos (by omega)]
  have i4:gIdx (tabs f q inv).qmul (ix inv e)=some (tabl q fun b=>mulA f (ix inv e) b):=by rw [Zle,ZaD (by omega) v1]
  have i5:gIdx (tabl q fun b=>mulA f (ix inv e) b) (ix R t)=some (mulA f (ix inv e) (ix R t)):=ZaD g1 g2
  simp (disch:=omega) only [pz,Zd2,hA,hx1,i3,i4,i5,hs,List.set_set]
 have e0:((0:Int),xs)=(fun t=>(t,xs.set piv.length (tabl R.length fun u=>if u<t then mulA f (ix R u) (ix inv e) else ix R u))) 0:=by
  show _=((0:Int),xs.set piv.length _)
  congr 1
  have:(tabl R.length fun u=>if u<0 then mulA f (ix R u) (ix inv e) else ix R u)=R:=by
   refine Eq.trans (ZZ fun t t0 t1=>?_) (ZcS R)
   rw [if_neg (by omega)]
  rw [this,←hR,ZpX]
 rw [e0,hgo]
 refine Zc ?_
 have e1:(tabl R.length fun u=>if u<(R.length:Int) then mulA f (ix R u) (ix inv e) else ix R u)=scl f R (ix inv e):=ZZ fun t t0 t1=>by rw [if_pos t1]
 simp only [e1]
 have hrl:((scl f R (ix inv e)).length:Int)=w:=by rw [Zik];exact hlr
 have hir:In q (scl f R (ix inv e)):=ZmZ hF
 generalize scl f R (ix inv e)=row at hrl hir ⊢
 have hy:Mat q w (xs.set piv.length row):=hx.set (i:=(piv.length:Int)) (by omega) hir hrl
 have hyr:ix (xs.set piv.length row) piv.length=row:=Zci (i:=(piv.length:Int)) (by omega) hr
 have hyl:(xs.set piv.length row).length=xs.length:=List.length_set
 have hL:=ZAd hF (d:=mulA f d e) hy hc0 hc1 (by omega) hrl hir hyr
 rw [hyl] at hL
 simp (disch:=omega) only [pz,Zd2]
 rw [hL]
 by_cases h:(piv.length:Int)+1=xs.length
 ·rw [if_pos h,if_pos h]
 ·rw [if_neg h,if_neg h]
theorem ZA0 {f:Zd} {q w:Int} {piv:List Int} {c:Int} {xs:List (List Int)} (hx:Mat q w xs) (hc0:0≤c) (hc1:c<w) (hr:(piv.length:Int)≤xs.length):
  ∃ i:Int,(piv.length:Int)≤i∧i≤xs.length∧(∀ j,(piv.length:Int)≤j→j<i→ix (ix xs j) c=0)∧(i<xs.length→¬ ix (ix xs i) c=0)∧ZfX f piv c xs=Zan f piv c xs i:=by
 have hn:=hx.n
 have key:∀ (d:Nat) (i:Int),i+d=xs.length→(piv.length:Int)≤i→(∀ j,(piv.length:Int)≤j→j<i→ix (ix xs j) c=0)→∃ i':Int,(piv.length:Int)≤i'∧i'≤xs.length∧(∀ j,(piv.length:Int)≤j→j<i'→ix (ix xs j) c=0)∧(i'<xs.length→¬ ix (ix xs i') c=0)∧loop (ZbD f piv c xs) i=Zan f piv c xs i':=by
  intro d
  induction d with
  | zero=>
   intro i hi hpi ha
   refine ⟨i,hpi,by omega,ha,fun h=>by omega,?_⟩
   have hB:ZbD f piv c xs i=(Zan f piv c xs i).map fun x=>.inr x:=by
    simp (disch:=omega) only [pz,ZbD]
   cases hk:Zan f piv c xs i with
   | none=>
    exfalso
    unfold Zan at hk
    obtain rfl:i=(xs.length:Int):=by omega
    have:((xs.length:Int)==(xs.length:Int))=true:=by simp
    rw [this] at hk
    cases hk
   | some r=>rw [hk] at hB;exact Zc hB
  | succ d ih=>
   intro i hi hpi ha
   have hl:=hx.len i (by omega) (by omega)
   by_cases h:ix (ix xs i) c=0
   ·obtain ⟨i',g1,g2,g3,g4,g5⟩:=ih (i+1) (by omega) (by omega) fun j j0 j1=>by
     by_cases e:j=i
     ·rw [e];exact h
     ·exact ha j j0 (by omega)
    refine ⟨i',g1,g2,g3,g4,?_⟩
    rw [←g5]
    refine ZI ?_
    simp (disch:=omega) only [pz,ZbD,h]
   ·refine ⟨i,hpi,by omega,ha,fun _=>h,?_⟩
    have hB:ZbD f piv c xs i=(Zan f piv c xs i).map fun x=>.inr x:=by
     simp (disch:=omega) only [pz,ZbD,h]
    cases hk:Zan f piv c xs i with
    | none=>
     rw [hk] at hB
     cases hl:loop (ZbD f piv c xs) i with
     | none=>rfl
     | some r=>
      obtain ⟨m,hm⟩:=Zv hl
      obtain ⟨_,a,_,h1,_⟩:=Zo hm
      rw [hB] at h1
      cases h1
    | some r=>rw [hk] at hB;exact Zc hB
 unfold ZfX
 exact key (xs.length-piv.length) piv.length (by omega) (by omega) fun j j0 j1=>by omega
theorem Ztj {q w:Int} {piv:List Int} {c i:Int} {xs:List (List Int)} (hx:Mat q w xs) (hc0:0≤c) (hc1:c<w) (hr:(piv.length:Int)≤xs.length) (hi0:(piv.length:Int)≤i) (hi1:i≤xs.length) (hz:∀ j,(piv.length:Int)≤j→j<i→ix (ix xs j) c=0) (hp:i<xs.length→¬ ix (ix xs i) c=0):
  Zfu (xs.drop piv.length) (fun y0=>ZdM y0 c)=some (if i<xs.length then i-piv.length else -1):=by
 have hn:=hx.n
 unfold Zfu
 have hdl:((xs.drop piv.length).length:Int)=(xs.length:Int)-piv.length:=by rw [List.length_drop];omega
 have hdx:∀ k,0≤k→ix (xs.drop piv.length) k=ix xs (piv.length+k):=fun k k0=>ZoX (i:=(piv.length:Int)) (by omega) k0
 have hgo:=ZA (B:=Zb1 (xs.drop piv.length) (fun y0=>ZdM y0 c)) (fun k=>k) (i:=0) (n:=i-piv.length) (by omega) fun k k0 k1=>by
  have hl:=hx.len (piv.length+k) (by omega) (by omega)
  have hzk:=hz (piv.length+k) (by omega) (by omega)
  simp (disch:=omega) only [pz,Zb1,ZdM,hdx,hzk]
 rw [hgo]
 refine Zc ?_
 by_cases h:i<xs.length
 ·rw [if_pos h]
  have hl:=hx.len i (by omega) h
  have hpi:=hp h
  have e:(piv.length:Int)+(i-piv.length)=i:=by omega
  simp (disch:=omega) only [pz,Zb1,ZdM,hdx,e]
 ·rw [if_neg h]
  simp (disch:=omega) only [pz,Zb1]
end Go.Proofs.YtmmbnjijjdakmaaGreatDoor
namespace Go.Proofs.YtmmbnjijjdakmaaGreatDoor
set_option linter.unusedVariables false
open Go Go.Vc
set_option linter.unusedSimpArgs false
theorem Zp1 {xs:List (List Int)} {k:Nat} (h:k≤xs.length):gSl xs 0 (k:Int)=some (xs.take k):=by
 rw [ZaX (by omega) (by omega) (by omega)]
 simp
theorem ZuA {f:Zd} {q w:Int} {inv:List Int} (hF:Ff f q inv):∀ (n:Nat) (c:Int) (piv:List Int) (xs:List (List Int)) (d:Int),c+n=w→0≤c→(piv.length:Int)<xs.length→Mat q w xs→0≤d→d<q →
  ∃ R piv' d',loop (ZbW f w) (piv,c,xs)=some (R,piv')∧piv'.length≤R.length∧R.length=xs.length∧Mat q w R∧loop (Zby (tabs f q inv)) (piv,d,c,xs)=some (R.take piv'.length,piv',d'):=by
 intro n
 induction n with
 | zero=>
  intro c piv xs d hc c0 hp hx d0 d1
  have hn:=hx.n;have hw:=hx.w1
  have hl0:=hx.len 0 (by omega) (by omega)
  refine ⟨xs,piv,d,Zc ?_,by omega,rfl,hx,Zc ?_⟩
  ·simp (disch:=omega) only [pz,ZbW]
  ·simp (disch:=omega) only [pz,Zby,ZdY,Zp1]
 | succ n ih=>
  intro c piv xs d hc c0 hp hx d0 d1
  have hn:=hx.n;have hw:=hx.w1;have hq2:=hF.q2
  have hl0:=hx.len 0 (by omega) (by omega)
  obtain ⟨i,i0,i1,iz,ip,hs⟩:=ZA0 (f:=f) (piv:=piv) hx c0 (by omega) (by omega)
  have hi:=Ztj (piv:=piv) hx c0 (by omega) (by omega) i0 i1 iz ip
  have hsl:gSl xs (piv.length:Int) (xs.length:Int)=some (xs.drop piv.length):=ZnK (lo:=(piv.length:Int)) (by omega) (by omega)
  have hB:ZbW f w (piv,c,xs)=Zan f piv c xs i:=by
   rw [←hs]
   simp (disch:=omega) only [pz,ZbW]
  by_cases h:i<xs.length
  ·rw [if_pos h] at hi
   have hpi:=ip h
   have hB2:=Zvt hF (piv:=piv) hx c0 (by omega:c<w) i0 h hpi
   rw [hB2] at hB
   rw [ZI hB]
   have hil:=hx.len i (by omega) h
   have hir:=hx.rng i (by omega) h
   have hrl:=hx.len piv.length (by omega) hp
   have hrr:=hx.rng piv.length (by omega) hp
   have hrow:In q (scl f (ix xs i) (ix inv (ix (ix xs i) c))):=ZmZ hF
   have hrowl:((scl f (ix xs i) (ix inv (ix (ix xs i) c))).length:Int)=w:=by rw [Zik];exact hil
   obtain ⟨m0,m1⟩:=hir c c0 (by omega)
   have hI:∃ d',0≤d'∧d'<q∧Zby (tabs f q inv) (piv,d,c,xs)=some (if (piv.length:Int)+1=xs.length
     then .inr ((elim f c piv.length (scl f (ix xs i) (ix inv (ix (ix xs i) c))) ((xs.set i.toNat (ix xs piv.length)).set piv.length (scl f (ix xs i) (ix inv (ix (ix xs i) c))))).take (piv.length+1),piv++[c],d')
     else .inl (piv++[c],d',c+1,elim f c piv.length (scl f (ix xs i) (ix inv (ix (ix xs i) c))) ((xs.set i.toNat (ix xs piv.length)).set piv.length (scl f (ix xs i) (ix inv (ix (ix xs i) c)))))):=by
    by_cases hir':i=piv.length
    ·subst hir'
     have hk:=Zqa hF (piv:=piv) hx c0 (by omega:c<w) hp hpi d0 d1
     obtain ⟨r0,r1⟩:=Zde hF.fd hF.pw d (ix (ix xs piv.length) c)
     refine ⟨_,r0,r1,?_⟩
     rw [Int.toNat_natCast,ZpX]
     rw [Int.sub_self] at hi
     rw [←hk]
     simp (disch:=omega) only [pz,Zby,Zfj,hsl,hi]
    ·have hzm:Mat q w ((xs.set piv.length (ix xs i)).set i.toNat (ix xs piv.length)):=(hx.set (i:=(piv.length:Int)) (by omega) hir hil).set (by omega) hrr hrl
     have hzl:((xs.set piv.length (ix xs i)).set i.toNat (ix xs piv.length)).length=xs.length:=by rw [List.length_set,List.length_set]
     have hzl1:(xs.set piv.length (ix xs i)).length=xs.length:=List.length_set
     have hzr:ix ((xs.set piv.length (ix xs i)).set i.toNat (ix xs piv.length)) piv.length=ix xs i:=by
      rw [Zfx (by omega) (by omega) hir']
      exact Zci (i:=(piv.length:Int)) (by omega) hp
     have hsc:∀ row,((xs.set piv.length (ix xs i)).set i.toNat (ix xs piv.length)).set piv.length row=(xs.set i.toNat (ix xs piv.length)).set piv.length row:=fun row=>by
      rw [List.set_comm (ix xs i) (ix xs piv.length) (by omega:piv.length≠i.toNat),List.set_set]
     obtain ⟨n0,n1⟩:=Zog hF.fd hF.pw 0 d (f.Prime-1)
     have hk:=Zqa hF (piv:=piv) (d:=sumA f 0 d (f.Prime-1)) hzm c0 (by omega:c<w) (by omega) (by rw [hzr];exact hpi) n0 n1
     rw [hzr,hzl,hsc] at hk
     obtain ⟨r0,r1⟩:=Zde hF.fd hF.pw (sumA f 0 d (f.Prime-1)) (ix (ix xs i) c)
     refine ⟨_,r0,r1,?_⟩
     rw [←hk]
     have j1:gIdx (tabs f q inv).qsub 0=some (tabl q fun b=>sumA f 0 b (f.Prime-1)):=by rw [ZpZ,ZaD (by omega) (by omega)]
     have j2:gIdx (tabl q fun b=>sumA f 0 b (f.Prime-1)) d=some (sumA f 0 d (f.Prime-1)):=ZaD d0 d1
     have e:(piv.length:Int)+(i-piv.length)=i:=by omega
     simp (disch:=omega) only [pz,Zby,Zfj,hsl,hi,e,j1,j2]
   obtain ⟨d',r0,r1,hI⟩:=hI
   have hyl:((xs.set i.toNat (ix xs piv.length)).set piv.length (scl f (ix xs i) (ix inv (ix (ix xs i) c)))).length=xs.length:=by rw [List.length_set,List.length_set]
   have hym:Mat q w ((xs.set i.toNat (ix xs piv.length)).set piv.length (scl f (ix xs i) (ix inv (ix (ix xs i) c)))):=(hx.set (by omega) hrr hrl).set (i:=(piv.length:Int)) (by omega) hrow hrowl
   have hEm:Mat q w (elim f c piv.length (scl f (ix xs i) (ix inv (ix (ix xs i) c))) ((xs.set i.toNat (ix xs piv.length)).set piv.length (scl f (ix xs i) (ix inv (ix (ix xs i) c))))):=Mat.elim hF hym hrow hrowl
   have hEl:(elim f c piv.length (scl f (ix xs i) (ix inv (ix (ix xs i) c))) ((xs.set i.toNat (ix xs piv.length)).set piv.length (scl f (ix xs i) (ix inv (ix (ix xs i) c))))).length=xs.length:=by rw [ZeP,hyl]
   generalize elim f c piv.length (scl f (ix xs i) (ix inv (ix (ix xs i) c))) ((xs.set i.toNat (ix xs piv.length)).set piv.length (scl f (ix xs i) (ix inv (ix (ix xs i) c))))=E at hI hEm hEl ⊢
   have hpl:(piv++[c]).length=piv.length+1:=by simp
   by_cases hfull:(piv.length:Int)+1=xs.length
   ·rw [if_pos hfull] at hI
    refine ⟨E,piv++[c],d',Zc ?_,by omega,hEl,hEm,?_⟩
    ·by_cases hcw:c+1<w
     ·simp (disch:=omega) only [pz,ZbW]
     ·simp (disch:=omega) only [pz,ZbW]
    ·rw [hpl];exact Zc hI
   ·rw [if_neg hfull] at hI
    rw [ZI hI]
    obtain ⟨R,piv',d'',g1,g2,g3,g5,g4⟩:=ih (c+1) (piv++[c]) E d' (by omega) (by omega) (by omega) hEm r0 r1
    exact ⟨R,piv',d'',g1,g2,by omega,g5,g4⟩
  ·rw [if_neg h] at hi
   have hB2:Zan f piv c xs i=some (.inl (piv,c+1,xs)):=by
    obtain rfl:i=(xs.length:Int):=by omega
    simp (disch:=omega) only [pz,Zan]
   rw [hB2] at hB
   rw [ZI hB]
   have hI:Zby (tabs f q inv) (piv,d,c,xs)=some (.inl (piv,0,c+1,xs)):=by
    simp (disch:=omega) only [pz,Zby,Zfj,Ze5,hsl,hi]
   rw [ZI hI]
   obtain ⟨R,piv',d'',g1,g2,g3,g5,g4⟩:=ih (c+1) piv xs 0 (by omega) (by omega) hp hx (by omega) (by omega)
   exact ⟨R,piv',d'',g1,g2,g3,g5,g4⟩
theorem Zyr {m:List (List Int)} (hs:Sz2 m):Zg6 m=some m:=by
 unfold Zg6
 have h1:=hs.1
 have hgo:=ZA (B:=ZeV m) (fun k=>(m.take k.toNat,k)) (i:=0) (n:=m.length) (by omega) fun k h0 h1=>by
  have hr:=ZrB (hs.2 (ix m k) (ZK h0 h1))
  have hl:(m.take k.toNat).length=k.toNat:=by rw [List.length_take];omega
  simp (disch:=omega) only [pz,ZeV,hr,gApp1,hl,Zbo]
 have e0:(([]:List (List Int)),(0:Int))=(fun k:Int=>(m.take k.toNat,k)) 0:=by simp
 rw [e0,hgo]
 refine Zc ?_
 have e1:m.take (m.length:Int).toNat=m:=by simp
 simp (disch:=omega) only [pz,ZeV,e1]
theorem ZwD {f:Zd} {q w:Int} {inv:List Int} (hF:Ff f q inv) {m:List (List Int)} (hs:Sz2 m) (hm:Mat q w m) (hw:0≤w) (h1:1≤(m.length:Int)):
  ∃ R piv d,ZgM f m=some R∧Zhe (tabs f q inv) m=some (R,piv,d)∧R.length≤m.length∧∀ x∈R,(x.length:Int)≤1048576:=by
 have hq2:=hF.q2
 obtain ⟨R,piv,d,g1,g2,g3,g5,g4⟩:=ZuA hF w.toNat 0 [] m 1 (by omega) (by omega) (by simp;omega) hm (by omega) (by omega)
 have hl0:=hm.len 0 (by omega) (by omega)
 refine ⟨R.take piv.length,piv,d,?_,?_,by rw [List.length_take];omega,fun x hx=>?_⟩
 ·unfold ZgM ZjK
  rw [Zyr hs]
  simp (disch:=omega) only [pz,hl0,g1,Zp1]
 ·unfold Zhe
  rw [ZbE hs]
  exact g4
 ·obtain ⟨i,a,b,rfl⟩:=Z4 (List.mem_of_mem_take hx)
  have:=g5.len i a b
  have:=hm.w1
  omega
end Go.Proofs.YtmmbnjijjdakmaaGreatDoor
