import Derived.Test.YtghbgeaammnkcaaGreatDoorPuJe
namespace Go.Proofs.YtghbgeaammnkcaaGreatDoor
open Go Go.Vc
set_option linter.unusedSimpArgs false
set_option linter.unusedVariables false
def Tb (q:Int) (g:Int→Int) (b:Int):List Int:=tabl q fun j=>if j<b then g j else 0
theorem ZpS {q b:Int} {g:Int→Int} (a:0≤b) (c:b<q):(Tb q g b).set b.toNat (g b)=Tb q g (b+1):=by
 apply Zav a c
 ·intro j e f h
  by_cases hj:j<b
  ·rw [if_pos hj,if_pos (by omega)]
  ·rw [if_neg hj,if_neg (by omega)]
 ·rw [if_pos (by omega)]
theorem ZqL {q:Int} {g:Int→Int}:Tb q g 0=List.replicate q.toNat 0:=by
 rw [ZeK]
 exact ZN fun j a b=>by rw [if_neg (by omega)]
theorem ZxQ {q:Int} {g:Int→Int}:Tb q g q=tabl q g:=ZN fun j b a=>by rw [if_pos a]
theorem ZkY {q b:Int} {g:Int→Int}:(Tb q g b).length=q.toNat:=Zk
def iv (q:Int) (inv:List Int) (a b:Int):List Int:=tabl q fun i=>if 1≤i∧(i<a∨(i=a∧ix inv a<b)) then ix inv i else 0
def tabs (f:Zd) (q:Int) (inv:List Int):Zac:=
 ⟨q,tabl q fun a=>tabl q fun b=>sumA f a b 1,tabl q fun a=>tabl q fun b=>sumA f a b (f.Prime-1),tabl q fun a=>tabl q fun b=>mulA f a b,tabl q fun i=>if 1≤i then ix inv i else 0⟩
theorem ZFL {q a b:Int} {inv:List Int}:(iv q inv a b).length=q.toNat:=Zk
theorem Zz4 {f:Zd} {q:Int} {inv:List Int} (hF:Ff f q inv) {a:Int} (l:0≤a) (o:a<q) {A S M:List (List Int)} (hA:(A.length:Int)=a) (hS:(S.length:Int)=a) (hM:(M.length:Int)=a):
  loop (ZcJ f q a A S M) (0,iv q inv a 0,List.replicate q.toNat 0,List.replicate q.toNat 0,List.replicate q.toNat 0)=some (.inl (a+1,A++[tabl q fun b=>sumA f a b 1],S++[tabl q fun b=>sumA f a b (f.Prime-1)],M++[tabl q fun b=>mulA f a b],iv q inv (a+1) 0)):=by
 have a6:=hF.q2;have a4:=hF.q64
 have hgo:=Zj (B:=ZcJ f q a A S M) (fun b=>(b,iv q inv a b,Tb q (fun b=>sumA f a b 1) b,Tb q (fun b=>sumA f a b (f.Prime-1)) b,Tb q (fun b=>mulA f a b) b)) (i:=0) (n:=q) (by omega) fun b e k=>by
  have c1:=ZrT hF.fd (a:=a) (b:=b) (c:=1) (s:=1) l (by omega) e (by omega) (.inl ⟨rfl,rfl⟩)
  have c2:=ZrT hF.fd (a:=a) (b:=b) (c:=f.Prime-1) (s:=-1) l (by omega) e (by omega) (.inr ⟨rfl,rfl⟩)
  have p:=Zx5 hF.fd (a:=a) (b:=b) l (by omega) e (by omega)
  have s1:=ZpS (q:=q) (b:=b) (g:=fun b=>sumA f a b 1) e k
  have s2:=ZpS (q:=q) (b:=b) (g:=fun b=>sumA f a b (f.Prime-1)) e k
  have r:=ZpS (q:=q) (b:=b) (g:=fun b=>mulA f a b) e k
  have l1:(Tb q (fun b=>sumA f a b 1) b).length=q.toNat:=ZkY
  have l2:(Tb q (fun b=>sumA f a b (f.Prime-1)) b).length=q.toNat:=ZkY
  have t:(Tb q (fun b=>mulA f a b) b).length=q.toNat:=ZkY
  have u:(Tb q (fun b=>mulA f a b) (b+1)).length=q.toNat:=ZkY
  have v:(iv q inv a b).length=q.toNat:=ZFL
  have w:ix (Tb q (fun b=>mulA f a b) (b+1)) b=mulA f a b:=by
   unfold Tb
   rw [Zq e k,if_pos (by omega)]
  have hI:=hF.inv2 a b l o e k
  by_cases hm:mulA f a b=1
  ·have x:=hI.1 hm
   have a2:1≤a:=by
    by_cases h:a=0
    ·subst h
     rw [hF.z1 b e k] at hm
     omega
    ·omega
   have m:(iv q inv a b).set a.toNat b=iv q inv a (b+1):=by
    apply Zav l o
    ·intro j y j1 j2
     by_cases hj:1≤j∧(j<a∨(j=a∧ix inv a<b))
     ·rw [if_pos hj,if_pos (by omega)]
     ·rw [if_neg hj,if_neg (by omega)]
    ·rw [if_pos (by omega),x]
   simp (disch:=omega) only [pz,ZcJ,c1,c2,p,l1,l2,t,u,v,s1,s2,r,w,m]
  ·have x:¬ b=ix inv a:=fun h=>hm (hI.2 h)
   have m:iv q inv a b=iv q inv a (b+1):=by
    refine ZN fun j y j1=>?_
    by_cases hj:1≤j∧(j<a∨(j=a∧ix inv a<b))
    ·rw [if_pos hj,if_pos (by omega)]
    ·rw [if_neg hj,if_neg (by omega)]
   rw [m]
   simp (disch:=omega) only [pz,ZcJ,c1,c2,p,l1,l2,t,u,v,s1,s2,r,w]
 have e0:((0:Int),iv q inv a 0,List.replicate q.toNat (0:Int),List.replicate q.toNat (0:Int),List.replicate q.toNat (0:Int))=(fun b=>(b,iv q inv a b,Tb q (fun b=>sumA f a b 1) b,Tb q (fun b=>sumA f a b (f.Prime-1)) b,Tb q (fun b=>mulA f a b) b)) 0:=by
  show _=((0:Int),iv q inv a 0,Tb q _ 0,Tb q _ 0,Tb q _ 0)
  rw [ZqL,ZqL,ZqL]
 rw [e0,hgo]
 refine Zc ?_
 have m:iv q inv a q=iv q inv (a+1) 0:=by
  refine ZN fun j y j1=>?_
  by_cases hj:1≤j∧j<a+1
  ·by_cases h:j=a
   ·have:=hF.inv1 a (by omega) o
    rw [if_pos (by omega),if_pos (by omega)]
   ·rw [if_pos (by omega),if_pos (by omega)]
  ·by_cases h:j=a+1
   ·by_cases h':a+1<q
    ·have:=hF.inv1 (a+1) (by omega) h'
     rw [if_neg (by omega),if_neg (by omega)]
    ·omega
   ·rw [if_neg (by omega),if_neg (by omega)]
 simp only [ZxQ,m]
 simp (disch:=omega) only [pz,ZcJ,gApp1]
theorem ZrC {f:Zd} {q:Int} {inv:List Int} (hF:Ff f q inv) (hs:Zby f=some q):Zf5 f=some (tabs f q inv):=by
 have p:=hF.q2;have c:=hF.q64
 unfold Zf5
 rw [show Zd.mk f.Prime f.Degree f.Poly=f from rfl,hs]
 simp (disch:=omega) only [pz,ZaN]
 have ei:List.replicate q.toNat (0:Int)=iv q inv 0 0:=by
  rw [ZeK]
  exact ZN fun j e g=>by
   by_cases h:j=0
   ·rw [if_neg (by omega)]
   ·rw [if_neg (by omega)]
 have hgo:=Zj (B:=Ze8 f q) (fun a=>(a,tabl a fun a=>tabl q fun b=>sumA f a b 1,tabl a fun a=>tabl q fun b=>sumA f a b (f.Prime-1),tabl a fun a=>tabl q fun b=>mulA f a b,iv q inv a 0)) (i:=0) (n:=q) (by omega) fun a k l=>by
  have:=Zz4 hF k l (A:=tabl a fun a=>tabl q fun b=>sumA f a b 1) (S:=tabl a fun a=>tabl q fun b=>sumA f a b (f.Prime-1)) (M:=tabl a fun a=>tabl q fun b=>mulA f a b) (by rw [Zk];omega) (by rw [Zk];omega) (by rw [Zk];omega)
  simp (disch:=omega) only [pz,Ze8,ZaN,this,Za6]
 have m:((0:Int),([]:List (List Int)),([]:List (List Int)),([]:List (List Int)),List.replicate q.toNat (0:Int))=(fun a=>(a,tabl a fun a=>tabl q fun b=>sumA f a b 1,tabl a fun a=>tabl q fun b=>sumA f a b (f.Prime-1),tabl a fun a=>tabl q fun b=>mulA f a b,iv q inv a 0)) 0:=by
  rw [ei];rfl
 rw [m,hgo]
 refine Zc ?_
 have o:iv q inv q 0=tabl q fun i=>if 1≤i then ix inv i else 0:=by
  refine ZN fun j e g=>?_
  by_cases h:1≤j
  ·rw [if_pos (by omega),if_pos h]
  ·rw [if_neg (by omega),if_neg h]
 simp (disch:=omega) only [pz,Ze8,o]
 rfl
end Go.Proofs.YtghbgeaammnkcaaGreatDoor
namespace Go.Proofs.YtghbgeaammnkcaaGreatDoor
set_option linter.unusedVariables false
open Go Go.Vc
set_option linter.unusedSimpArgs false
structure Mat (q w:Int) (xs:List (List Int)):Prop where
 len:∀ i,0≤i→i<(xs.length:Int)→((ix xs i).length:Int)=w
 rng:∀ i,0≤i→i<(xs.length:Int)→In q (ix xs i)
 n:(xs.length:Int)≤64
 w1:w≤64
def scl (f:Zd) (row:List Int) (c:Int):List Int:=tabl row.length fun t=>mulA f (ix row t) c
def less (f:Zd) (v w:List Int) (c:Int):List Int:=tabl v.length fun t=>sumA f (ix v t) (mulA f (ix w t) c) (f.Prime-1)
def elim (f:Zd) (c r:Int) (row:List Int) (ys:List (List Int)):List (List Int):=tabl ys.length fun j=>if j=r then row else less f (ix ys j) row (ix (ix ys j) c)
theorem ZDR {f:Zd} {q:Int} {inv:List Int} (hF:Ff f q inv) {e:Int} (g:1≤e) (c:e<q):Zhf f e=some (ix inv e):=by
 have j:=hF.q64
 obtain ⟨k,l⟩:=hF.inv1 e g c
 unfold Zhf
 have hgo:=Zj (B:=ZiJ f e) (fun b=>b) (i:=1) (n:=ix inv e) (by omega) fun b m o=>by
  have hM:=ZkN hF.fd (a:=e) (b:=b) (by omega) (by omega) (by omega) (by omega)
  have hI:=hF.inv2 e b (by omega) c (by omega) (by omega)
  have p:¬ mulA f e b=1:=fun h=>by have:=hI.1 h;omega
  simp (disch:=omega) only [pz,ZiJ,hM]
 rw [hgo]
 refine Zc ?_
 have hM:=ZkN hF.fd (a:=e) (b:=ix inv e) (by omega) (by omega) (by omega) (by omega)
 have hI:=(hF.inv2 e (ix inv e) (by omega) c (by omega) (by omega)).2 rfl
 simp (disch:=omega) only [pz,ZiJ,hM]
theorem Zte {f:Zd} {q:Int} {inv:List Int} (hF:Ff f q inv) {row:List Int} {c:Int} (hr:In q row) (hl:(row.length:Int)≤64) (j:0≤c) (c1:c<q):ZeZ f row c=some (scl f row c):=by
 have k:=hF.q64
 unfold ZeZ
 have hgo:=Zj (B:=Zfi f row c) (fun t=>(tabl t fun t=>mulA f (ix row t) c,t)) (i:=0) (n:=row.length) (by omega) fun t e g=>by
  obtain ⟨l,m⟩:=hr t e g
  have hM:=ZkN hF.fd (a:=ix row t) (b:=c) (by omega) (by omega) (by omega) (by omega)
  have hl:(tabl t fun t=>mulA f (ix row t) c).length=t.toNat:=Zk
  simp (disch:=omega) only [pz,Zfi,hM,gApp1,hl,Za6]
 have h:(([]:List Int),(0:Int))=(fun t=>(tabl t fun t=>mulA f (ix row t) c,t)) 0:=rfl
 rw [h,hgo]
 refine Zc ?_
 simp (disch:=omega) only [pz,Zfi]
 rfl
theorem ZAF {f:Zd} {q:Int} {inv:List Int} (hF:Ff f q inv) {v w:List Int} {c:Int} (g:In q v) (hw:In q w) (hl:(v.length:Int)≤64) (he:w.length=v.length) (l:0≤c) (c1:c<q):Zjk f v w c=some (less f v w c):=by
 have m:=hF.q64;have hp:=hF.fd.p2;have h:=hF.fd.p64
 unfold Zjk
 have hgo:=Zj (B:=Zfq f v w c) (fun t=>(tabl t fun t=>sumA f (ix v t) (mulA f (ix w t) c) (f.Prime-1),t)) (i:=0) (n:=v.length) (by omega) fun t e j=>by
  obtain ⟨o,p⟩:=g t e j
  obtain ⟨r,s⟩:=hw t e (by omega)
  have hM:=ZkN hF.fd (a:=ix w t) (b:=c) (by omega) (by omega) (by omega) (by omega)
  obtain ⟨u,x⟩:=Zdo hF.fd hF.pw (ix w t) c
  have hS:=ZtX hF.fd (a:=ix v t) (b:=mulA f (ix w t) c) (c:=f.Prime-1) (by omega) (by omega) (by omega) (by omega) (by omega) (by omega)
  have hl:(tabl t fun t=>sumA f (ix v t) (mulA f (ix w t) c) (f.Prime-1)).length=t.toNat:=Zk
  simp (disch:=omega) only [pz,Zfq,hM,hS,gApp1,hl,Za6]
 have k:(([]:List Int),(0:Int))=(fun t=>(tabl t fun t=>sumA f (ix v t) (mulA f (ix w t) c) (f.Prime-1),t)) 0:=rfl
 rw [k,hgo]
 refine Zc ?_
 simp (disch:=omega) only [pz,Zfq]
 rfl
theorem Zi0 {f:Zd} {row:List Int} {c:Int}:(scl f row c).length=row.length:=by unfold scl;rw [Zk];omega
theorem ZuH {f:Zd} {v w:List Int} {c:Int}:(less f v w c).length=v.length:=by unfold less;rw [Zk];omega
theorem Zkd {f:Zd} {q:Int} {inv:List Int} (hF:Ff f q inv) {row:List Int} {c:Int}:In q (scl f row c):=fun i b a=>by
 rw [Zi0] at a
 unfold scl
 rw [Zq b a]
 exact Zdo hF.fd hF.pw _ _
theorem ZvK {f:Zd} {q:Int} {inv:List Int} (hF:Ff f q inv) {v w:List Int} {c:Int}:In q (less f v w c):=fun i b a=>by
 rw [ZuH] at a
 unfold less
 rw [Zq b a]
 exact ZjT hF.fd hF.pw _ _ _
theorem ZfW {f:Zd} {c r:Int} {row:List Int} {ys:List (List Int)}:(elim f c r row ys).length=ys.length:=by unfold elim;rw [Zk];omega
theorem Mat.elim {f:Zd} {q w:Int} {inv:List Int} (hF:Ff f q inv) {c r:Int} {row:List Int} {ys:List (List Int)} (hy:Mat q w ys) (hr:In q row) (hl:(row.length:Int)=w):Mat q w (elim f c r row ys):=by
 refine ⟨fun i b a=>?_,fun i b a=>?_,by rw [ZfW];exact hy.n,hy.w1⟩
 ·rw [ZfW] at a
  unfold Proofs.YtghbgeaammnkcaaGreatDoor.elim
  rw [Zq b a]
  split
  ·exact hl
  ·rw [ZuH];exact hy.len i b a
 ·rw [ZfW] at a
  unfold Proofs.YtghbgeaammnkcaaGreatDoor.elim
  rw [Zq b a]
  split
  ·exact hr
  ·exact ZvK hF
theorem Mat.set {q w:Int} {xs:List (List Int)} {i:Int} {row:List Int} (h:Mat q w xs) (c:0≤i) (hr:In q row) (hl:(row.length:Int)=w):Mat q w (xs.set i.toNat row):=by
 refine ⟨fun j b a=>?_,fun j b a=>?_,by rw [List.length_set];exact h.n,h.w1⟩<;>rw [List.length_set] at a
 ·by_cases e:i=j
  ·subst e;rw [ZcG c a];exact hl
  ·rw [Zib c b e];exact h.len j b a
 ·by_cases e:i=j
  ·subst e;rw [ZcG c a];exact hr
  ·rw [Zib c b e];exact h.rng j b a
theorem ZyI {f:Zd} {q w:Int} {inv:List Int} (hF:Ff f q inv) {piv:List Int} {c i:Int} {xs:List (List Int)} (a:Mat q w xs) (m:0≤c) (a2:c<w) (a3:(piv.length:Int)≤i) (o:i<xs.length) (hp:¬ ix (ix xs i) c=0):
  Zaw f piv c xs i=some (.inl (piv++[c],c+1,elim f c piv.length (scl f (ix xs i) (ix inv (ix (ix xs i) c))) ((xs.set i.toNat (ix xs piv.length)).set piv.length (scl f (ix xs i) (ix inv (ix (ix xs i) c)))))):=by
 have hq:=hF.q64;have hn:=a.n;have hw:=a.w1
 have hli:=a.len i (by omega) o
 have hri:=a.rng i (by omega) o
 obtain ⟨r,b⟩:=hri c m (by omega)
 obtain ⟨v0,y⟩:=hF.inv1 (ix (ix xs i) c) (by omega) b
 have hI:=ZDR hF (e:=ix (ix xs i) c) (by omega) b
 have hS:=Zte hF (row:=ix xs i) (c:=ix inv (ix (ix xs i) c)) hri (by omega) (by omega) y
 have hsl:(xs.set i.toNat (ix xs piv.length)).length=xs.length:=List.length_set
 simp (disch:=omega) only [pz,Zaw,hI,hS]
 generalize hrow:scl f (ix xs i) (ix inv (ix (ix xs i) c))=row
 have hrl:(row.length:Int)=w:=by rw [←hrow,Zi0];exact hli
 have hrr:In q row:=by rw [←hrow];exact Zkd hF
 have hy:Mat q w ((xs.set i.toNat (ix xs piv.length)).set piv.length row):=(a.set (by omega) (a.rng _ (by omega) (by omega)) (a.len _ (by omega) (by omega))).set (i:=(piv.length:Int)) (by omega) hrr hrl
 have hyr:ix ((xs.set i.toNat (ix xs piv.length)).set piv.length row) (piv.length:Int)=row:=ZcG (i:=(piv.length:Int)) (by omega) (by rw [List.length_set];omega)
 have hyl:((xs.set i.toNat (ix xs piv.length)).set piv.length row).length=xs.length:=by rw [List.length_set,List.length_set]
 generalize ((xs.set i.toNat (ix xs piv.length)).set piv.length row)=ys at hy hyr hyl ⊢
 have hgo:=Zj (B:=ZeB f piv c row) (fun j=>(j,tabl ys.length fun t=>if t<j then (if t=piv.length then row else less f (ix ys t) row (ix (ix ys t) c)) else ix ys t)) (i:=0) (n:=ys.length) (by omega) fun j g k=>by
  have s:(tabl ys.length fun t=>if t<j then (if t=piv.length then row else less f (ix ys t) row (ix (ix ys t) c)) else ix ys t).length=ys.length:=by rw [Zk];omega
  have u:ix (tabl ys.length fun t=>if t<j then (if t=piv.length then row else less f (ix ys t) row (ix (ix ys t) c)) else ix ys t) j=ix ys j:=by rw [Zq g k,if_neg (by omega)]
  by_cases hj:j=piv.length
  ·have hs:(tabl ys.length fun t=>if t<j then (if t=piv.length then row else less f (ix ys t) row (ix (ix ys t) c)) else ix ys t)=tabl ys.length fun t=>if t<j+1 then (if t=piv.length then row else less f (ix ys t) row (ix (ix ys t) c)) else ix ys t:=by
    refine ZN fun t p l=>?_
    by_cases h:t<j
    ·rw [if_pos h,if_pos (show t<j+1 by omega)]
    ·by_cases h':t=j
     ·rw [if_neg h,if_pos (show t<j+1 by omega),if_pos (by omega),h',hj,hyr]
     ·rw [if_neg h,if_neg (show ¬ t<j+1 by omega)]
   have x:(tabl ys.length fun t=>if t<j+1 then (if t=piv.length then row else less f (ix ys t) row (ix (ix ys t) c)) else ix ys t).length=ys.length:=by rw [Zk];omega
   simp only [hs]
   simp (disch:=omega) only [pz,ZeB,x]
  ·have hlj:=hy.len j g k
   have hrj:=hy.rng j g k
   obtain ⟨d0,d1⟩:=hrj c m (by omega)
   have hL:=ZAF hF (v:=ix ys j) (w:=row) (c:=ix (ix ys j) c) hrj hrr (by omega) (by omega) d0 d1
   have hs:(tabl ys.length fun t=>if t<j then (if t=piv.length then row else less f (ix ys t) row (ix (ix ys t) c)) else ix ys t).set j.toNat (less f (ix ys j) row (ix (ix ys j) c))=tabl ys.length fun t=>if t<j+1 then (if t=piv.length then row else less f (ix ys t) row (ix (ix ys t) c)) else ix ys t:=by
    apply Zav g k
    ·intro t p l t2
     by_cases h:t<j
     ·rw [if_pos h,if_pos (show t<j+1 by omega)]
     ·rw [if_neg h,if_neg (show ¬ t<j+1 by omega)]
    ·rw [if_pos (by omega),if_neg hj]
   simp (disch:=omega) only [pz,ZeB,s,u,hL,hs]
 have r:((0:Int),ys)=(fun j=>(j,tabl ys.length fun t=>if t<j then (if t=piv.length then row else less f (ix ys t) row (ix (ix ys t) c)) else ix ys t)) 0:=by
  show _=((0:Int),_)
  congr 1
  refine (Zbp ys).symm.trans (ZN fun t p l=>?_)
  rw [if_neg (by omega)]
 rw [r,hgo]
 refine Zc ?_
 have b:(tabl ys.length fun t=>if t<(ys.length:Int) then (if t=piv.length then row else less f (ix ys t) row (ix (ix ys t) c)) else ix ys t)=elim f c piv.length row ys:=ZN fun t p l=>by rw [if_pos l]
 simp (disch:=omega) only [pz,ZeB,b,ZfW,gApp1]
end Go.Proofs.YtghbgeaammnkcaaGreatDoor
namespace Go.Proofs.YtghbgeaammnkcaaGreatDoor
set_option linter.unusedVariables false
open Go Go.Vc
set_option linter.unusedSimpArgs false
theorem ZaB {α:Type} [Inhabited α] {n:Int} {f:Int→α} {i:Int} (a:0≤i) (b:i<n):gIdx (tabl n f) i=some (f i):=by
 rw [ZgL a (by rw [Zk];omega),Zq a b]
theorem Zt6 {f:Zd} {q:Int} {inv:List Int}:(tabs f q inv).qadd=tabl q fun a=>tabl q fun b=>sumA f a b 1:=rfl
theorem Zsg {f:Zd} {q:Int} {inv:List Int}:(tabs f q inv).qsub=tabl q fun a=>tabl q fun b=>sumA f a b (f.Prime-1):=rfl
theorem Zlc {f:Zd} {q:Int} {inv:List Int}:(tabs f q inv).qmul=tabl q fun a=>tabl q fun b=>mulA f a b:=rfl
theorem ZB5 {f:Zd} {q:Int} {inv:List Int}:(tabs f q inv).qinv=tabl q fun i=>if 1≤i then ix inv i else 0:=rfl
theorem ZwC {f:Zd} {q:Int} {inv:List Int} (hF:Ff f q inv) {v w c:Int} (b:0≤v) (e:v<q) (w0:0≤w) (w1:w<q) (a:0≤c) (c1:c<q):sumA f v (mulA f (sumA f 0 c (f.Prime-1)) w) 1=sumA f v (mulA f w c) (f.Prime-1):=by
 obtain ⟨g,h⟩:=Zdo hF.fd hF.pw w c
 rw [hF.neg c w a c1 w0 w1,hF.comm c w a c1 w0 w1,hF.sub v _ b e g h]
theorem ZyL {f:Zd} {q:Int} {inv:List Int} (hF:Ff f q inv) {v w:List Int} {c:Int} (o:In q v) (hw:In q w) (hl:(v.length:Int)≤64) (he:w.length=v.length) (p:0≤c) (c1:c<q):
  ZbC (tabs f q inv) v w (sumA f 0 c (f.Prime-1))=some (less f v w c):=by
 have hq:=hF.q64
 obtain ⟨n0,n1⟩:=ZjT hF.fd hF.pw 0 c (f.Prime-1)
 unfold ZbC
 have hgo:=Zj (B:=Zbw (tabs f q inv) w (sumA f 0 c (f.Prime-1))) (fun t=>(t,tabl v.length fun u=>if u<t then sumA f (ix v u) (mulA f (ix w u) c) (f.Prime-1) else ix v u)) (i:=0) (n:=v.length) (by omega) fun t a e=>by
  obtain ⟨j,k⟩:=o t a e
  obtain ⟨l,m⟩:=hw t a (by omega)
  have a4:(tabl v.length fun u=>if u<t then sumA f (ix v u) (mulA f (ix w u) c) (f.Prime-1) else ix v u).length=v.length:=by rw [Zk];omega
  have g:ix (tabl v.length fun u=>if u<t then sumA f (ix v u) (mulA f (ix w u) c) (f.Prime-1) else ix v u) t=ix v t:=by rw [Zq a e,if_neg (by omega)]
  obtain ⟨r,s⟩:=Zdo hF.fd hF.pw (sumA f 0 c (f.Prime-1)) (ix w t)
  have hs:(tabl v.length fun u=>if u<t then sumA f (ix v u) (mulA f (ix w u) c) (f.Prime-1) else ix v u).set t.toNat (sumA f (ix v t) (mulA f (sumA f 0 c (f.Prime-1)) (ix w t)) 1)=tabl v.length fun u=>if u<t+1 then sumA f (ix v u) (mulA f (ix w u) c) (f.Prime-1) else ix v u:=by
   apply Zav a e
   ·intro u u0 u1 u2
    by_cases h:u<t
    ·rw [if_pos h,if_pos (show u<t+1 by omega)]
    ·rw [if_neg h,if_neg (show ¬ u<t+1 by omega)]
   ·rw [if_pos (by omega),ZwC hF j k l m p c1]
  have i1:gIdx (tabl v.length fun u=>if u<t then sumA f (ix v u) (mulA f (ix w u) c) (f.Prime-1) else ix v u) t=some (ix v t):=by rw [ZgL a (by omega),g]
  have x:gIdx (tabs f q inv).qadd (ix v t)=some (tabl q fun b=>sumA f (ix v t) b 1):=by rw [Zt6,ZaB j k]
  have y:gIdx (tabs f q inv).qmul (sumA f 0 c (f.Prime-1))=some (tabl q fun b=>mulA f (sumA f 0 c (f.Prime-1)) b):=by rw [Zlc,ZaB n0 n1]
  have i4:gIdx (tabl q fun b=>mulA f (sumA f 0 c (f.Prime-1)) b) (ix w t)=some (mulA f (sumA f 0 c (f.Prime-1)) (ix w t)):=ZaB l m
  have i5:gIdx (tabl q fun b=>sumA f (ix v t) b 1) (mulA f (sumA f 0 c (f.Prime-1)) (ix w t))=some (sumA f (ix v t) (mulA f (sumA f 0 c (f.Prime-1)) (ix w t)) 1):=ZaB r s
  simp (disch:=omega) only [pz,Zbw,g,x,y,i4,i5,hs]
 have e0:((0:Int),v)=(fun t=>(t,tabl v.length fun u=>if u<t then sumA f (ix v u) (mulA f (ix w u) c) (f.Prime-1) else ix v u)) 0:=by
  show _=((0:Int),_)
  congr 1
  refine (Zbp v).symm.trans (ZN fun t a e=>?_)
  rw [if_neg (by omega)]
 rw [e0,hgo]
 refine Zc ?_
 have e1:(tabl v.length fun u=>if u<(v.length:Int) then sumA f (ix v u) (mulA f (ix w u) c) (f.Prime-1) else ix v u)=less f v w c:=ZN fun t a e=>by rw [if_pos e]
 simp (disch:=omega) only [pz,Zbw,e1]
theorem ZzF {f:Zd} {q:Int} {inv:List Int} (hF:Ff f q inv) {v w:List Int} (e:In q v) (hw:In q w) (he:w.length=v.length):less f v w 0=v:=by
 refine Eq.trans (ZN fun t a g=>?_) (Zbp v)
 obtain ⟨h,i⟩:=e t a g
 obtain ⟨b,c⟩:=hw t a (by omega)
 have j:=hF.q2
 rw [hF.comm _ 0 b c (by omega) (by omega),hF.z1 _ b c,hF.z2 _ h i]
theorem ZD6 {f:Zd} {q w:Int} {inv:List Int} (hF:Ff f q inv) {piv:List Int} {c d:Int} {row:List Int} {ys:List (List Int)} (hy:Mat q w ys) (p:0≤c) (a3:c<w) (hr:(piv.length:Int)<ys.length) (hrl:(row.length:Int)=w) (hrr:In q row) (hyr:ix ys piv.length=row):
  loop (ZbD (tabs f q inv) piv c d ys) (0,ys)=some (if (piv.length:Int)+1=ys.length then .inr (.inr ((elim f c piv.length row ys).take (piv.length+1),piv++[c],d)) else .inr (.inl (piv++[c],d,c+1,elim f c piv.length row ys))):=by
 have hn:=hy.n;have hw:=hy.w1;have hq:=hF.q64;have a4:=hF.q2
 have hgo:=Zj (B:=ZbD (tabs f q inv) piv c d ys) (fun j=>(j,tabl ys.length fun t=>if t<j then (if t=piv.length then row else less f (ix ys t) row (ix (ix ys t) c)) else ix ys t)) (i:=0) (n:=ys.length) (by omega) fun j a k=>by
  have a5:(tabl ys.length fun t=>if t<j then (if t=piv.length then row else less f (ix ys t) row (ix (ix ys t) c)) else ix ys t).length=ys.length:=by rw [Zk];omega
  have o:ix (tabl ys.length fun t=>if t<j then (if t=piv.length then row else less f (ix ys t) row (ix (ix ys t) c)) else ix ys t) j=ix ys j:=by rw [Zq a k,if_neg (by omega)]
  have l:gIdx (tabl ys.length fun t=>if t<j then (if t=piv.length then row else less f (ix ys t) row (ix (ix ys t) c)) else ix ys t) j=some (ix ys j):=by rw [ZgL a (by omega),o]
  by_cases hj:j=piv.length
  ·have hs:(tabl ys.length fun t=>if t<j then (if t=piv.length then row else less f (ix ys t) row (ix (ix ys t) c)) else ix ys t)=tabl ys.length fun t=>if t<j+1 then (if t=piv.length then row else less f (ix ys t) row (ix (ix ys t) c)) else ix ys t:=by
    refine ZN fun t m e=>?_
    by_cases h:t<j
    ·rw [if_pos h,if_pos (show t<j+1 by omega)]
    ·by_cases h':t=j
     ·rw [if_neg h,if_pos (show t<j+1 by omega),if_pos (by omega),h',hj,hyr]
     ·rw [if_neg h,if_neg (show ¬ t<j+1 by omega)]
   simp only [hs] at l ⊢
   simp (disch:=omega) only [pz,ZbD,ZdD,l]
  ·have hlj:=hy.len j a k
   have hrj:=hy.rng j a k
   obtain ⟨r,s⟩:=hrj c p (by omega)
   by_cases hz:ix (ix ys j) c=0
   ·have hs:(tabl ys.length fun t=>if t<j then (if t=piv.length then row else less f (ix ys t) row (ix (ix ys t) c)) else ix ys t)=tabl ys.length fun t=>if t<j+1 then (if t=piv.length then row else less f (ix ys t) row (ix (ix ys t) c)) else ix ys t:=by
     refine ZN fun t m e=>?_
     by_cases h:t<j
     ·rw [if_pos h,if_pos (show t<j+1 by omega)]
     ·by_cases h':t=j
      ·rw [if_neg h,if_pos (show t<j+1 by omega),if_neg (by omega),h',hz,ZzF hF hrj hrr (by omega)]
      ·rw [if_neg h,if_neg (show ¬ t<j+1 by omega)]
    simp only [hs] at l ⊢
    simp (disch:=omega) only [pz,ZbD,ZdD,l]
   ·have hL:=ZyL hF (v:=ix ys j) (w:=row) (c:=ix (ix ys j) c) hrj hrr (by omega) (by omega) r s
    have hs:(tabl ys.length fun t=>if t<j then (if t=piv.length then row else less f (ix ys t) row (ix (ix ys t) c)) else ix ys t).set j.toNat (less f (ix ys j) row (ix (ix ys j) c))=tabl ys.length fun t=>if t<j+1 then (if t=piv.length then row else less f (ix ys t) row (ix (ix ys t) c)) else ix ys t:=by
     apply Zav a k
     ·intro t m e t2
      by_cases h:t<j
      ·rw [if_pos h,if_pos (show t<j+1 by omega)]
      ·rw [if_neg h,if_neg (show ¬ t<j+1 by omega)]
     ·rw [if_pos (by omega),if_neg hj]
    have u:ix (tabl ys.length fun t=>if t<j then (if t=piv.length then row else less f (ix ys t) row (ix (ix ys t) c)) else ix ys t) (piv.length:Int)=row:=by
     rw [Zq (by omega) hr]
     by_cases h:(piv.length:Int)<j
     ·rw [if_pos h,if_pos rfl]
     ·rw [if_neg h,hyr]
    have x:gIdx (tabs f q inv).qsub 0=some (tabl q fun b=>sumA f 0 b (f.Prime-1)):=by rw [Zsg,ZaB (by omega) (by omega)]
    have y:gIdx (tabl q fun b=>sumA f 0 b (f.Prime-1)) (ix (ix ys j) c)=some (sumA f 0 (ix (ix ys j) c) (f.Prime-1)):=ZaB r s
    have i5:gNe j (piv.length:Int)=some ():=by unfold gNe;rw [if_pos hj]
    have he:Zac.mk (tabs f q inv).qq (tabs f q inv).qadd (tabs f q inv).qsub (tabs f q inv).qmul (tabs f q inv).qinv=tabs f q inv:=rfl
    simp (disch:=omega) only [pz,ZbD,ZdD,o,u,x,y,i5,he,hL,hs]
 have e0:((0:Int),ys)=(fun j=>(j,tabl ys.length fun t=>if t<j then (if t=piv.length then row else less f (ix ys t) row (ix (ix ys t) c)) else ix ys t)) 0:=by
  show _=((0:Int),_)
  congr 1
  refine (Zbp ys).symm.trans (ZN fun t m e=>?_)
  rw [if_neg (by omega)]
 rw [e0,hgo]
 refine Zc ?_
 have e1:(tabl ys.length fun t=>if t<(ys.length:Int) then (if t=piv.length then row else less f (ix ys t) row (ix (ix ys t) c)) else ix ys t)=elim f c piv.length row ys:=ZN fun t m e=>by rw [if_pos e]
 have hel:(elim f c piv.length row ys).length=ys.length:=ZfW
 have hpl:(piv++[c]).length=piv.length+1:=by simp
 simp only [e1]
 by_cases h:(piv.length:Int)+1=ys.length
 ·rw [if_pos h]
  have g:gSl (elim f c piv.length row ys) 0 ((piv++[c]).length:Int)=some ((elim f c piv.length row ys).take (piv.length+1)):=by
   rw [Zcv (by omega) (by omega) (by omega),hpl]
   rfl
  simp (disch:=omega) only [pz,ZbD,gApp1,Zdw,g]
 ·rw [if_neg h]
  simp (disch:=omega) only [pz,ZbD,gApp1,ZfE]
end Go.Proofs.YtghbgeaammnkcaaGreatDoor
namespace Go.Proofs.YtghbgeaammnkcaaGreatDoor
set_option linter.unusedVariables false
open Go Go.Vc
set_option linter.unusedSimpArgs false
theorem Zug {α:Type} [Inhabited α] {xs:List α} {k:Nat}:xs.set k (ix xs (k:Int))=xs:=by
 apply Za1
 ·exact List.length_set
 ·intro i a b
  rw [List.length_set] at b
  by_cases h:(k:Int)=i
  ·subst h
   exact ZcG (i:=(k:Int)) a b
  ·exact Zib (i:=(k:Int)) (by omega) a h
theorem ZuA {f:Zd} {q w:Int} {inv:List Int} (hF:Ff f q inv) {piv:List Int} {c d:Int} {xs:List (List Int)} (g:Mat q w xs) (m:0≤c) (p:c<w) (hr:(piv.length:Int)<xs.length) (hp:¬ ix (ix xs piv.length) c=0) (y:0≤d) (d1:d<q):
  Zga (tabs f q inv) piv c d xs=some (if (piv.length:Int)+1=xs.length
   then .inr ((elim f c piv.length (scl f (ix xs piv.length) (ix inv (ix (ix xs piv.length) c))) (xs.set piv.length (scl f (ix xs piv.length) (ix inv (ix (ix xs piv.length) c))))).take (piv.length+1),piv++[c],mulA f d (ix (ix xs piv.length) c))
   else .inl (piv++[c],mulA f d (ix (ix xs piv.length) c),c+1,elim f c piv.length (scl f (ix xs piv.length) (ix inv (ix (ix xs piv.length) c))) (xs.set piv.length (scl f (ix xs piv.length) (ix inv (ix (ix xs piv.length) c)))))):=by
 have hq:=hF.q64;have hn:=g.n;have hw:=g.w1
 have hlr:=g.len piv.length (by omega) hr
 have hrr:=g.rng piv.length (by omega) hr
 obtain ⟨l,j⟩:=hrr c m (by omega)
 obtain ⟨v0,r⟩:=hF.inv1 (ix (ix xs piv.length) c) (by omega) j
 have i1:gIdx (tabs f q inv).qmul d=some (tabl q fun b=>mulA f d b):=by rw [Zlc,ZaB y d1]
 have i2:gIdx (tabl q fun b=>mulA f d b) (ix (ix xs piv.length) c)=some (mulA f d (ix (ix xs piv.length) c)):=ZaB l j
 simp (disch:=omega) only [pz,Zga,i1,i2]
 generalize hR:ix xs piv.length=R at *
 generalize hE:ix R c=e at *
 have hgo:=Zj (B:=Zgv (tabs f q inv) piv c e (mulA f d e) R) (fun t=>(t,xs.set piv.length (tabl R.length fun u=>if u<t then mulA f (ix R u) (ix inv e) else ix R u))) (i:=0) (n:=R.length) (by omega) fun t k a=>by
  obtain ⟨s,v⟩:=hrr t k a
  have x:(tabl R.length fun u=>if u<t then mulA f (ix R u) (ix inv e) else ix R u).length=R.length:=by rw [Zk];omega
  have o:ix (tabl R.length fun u=>if u<t then mulA f (ix R u) (ix inv e) else ix R u) t=ix R t:=by rw [Zq k a,if_neg (by omega)]
  have hs:(tabl R.length fun u=>if u<t then mulA f (ix R u) (ix inv e) else ix R u).set t.toNat (mulA f (ix inv e) (ix R t))=tabl R.length fun u=>if u<t+1 then mulA f (ix R u) (ix inv e) else ix R u:=by
   apply Zav k a
   ·intro u u0 u1 u2
    by_cases h:u<t
    ·rw [if_pos h,if_pos (show u<t+1 by omega)]
    ·rw [if_neg h,if_neg (show ¬ u<t+1 by omega)]
   ·rw [if_pos (by omega),hF.comm _ _ (by omega) r s v]
  generalize (tabl R.length fun u=>if u<t then mulA f (ix R u) (ix inv e) else ix R u)=A at x o hs ⊢
  have hA:ix (xs.set piv.length A) piv.length=A:=ZcG (i:=(piv.length:Int)) (by omega) hr
  have hAl:(xs.set piv.length A).length=xs.length:=List.length_set
  have i3:gIdx (tabs f q inv).qinv e=some (ix inv e):=by rw [ZB5,ZaB l j,if_pos (by omega)]
  have i4:gIdx (tabs f q inv).qmul (ix inv e)=some (tabl q fun b=>mulA f (ix inv e) b):=by rw [Zlc,ZaB (by omega) r]
  have i5:gIdx (tabl q fun b=>mulA f (ix inv e) b) (ix R t)=some (mulA f (ix inv e) (ix R t)):=ZaB s v
  simp (disch:=omega) only [pz,Zgv,hA,o,i3,i4,i5,hs,List.set_set]
 have l:((0:Int),xs)=(fun t=>(t,xs.set piv.length (tabl R.length fun u=>if u<t then mulA f (ix R u) (ix inv e) else ix R u))) 0:=by
  show _=((0:Int),xs.set piv.length _)
  congr 1
  have:(tabl R.length fun u=>if u<0 then mulA f (ix R u) (ix inv e) else ix R u)=R:=by
   refine Eq.trans (ZN fun t k a=>?_) (Zbp R)
   rw [if_neg (by omega)]
  rw [this,←hR,Zug]
 rw [l,hgo]
 refine Zc ?_
 have j:(tabl R.length fun u=>if u<(R.length:Int) then mulA f (ix R u) (ix inv e) else ix R u)=scl f R (ix inv e):=ZN fun t k a=>by rw [if_pos a]
 simp only [j]
 have hrl:((scl f R (ix inv e)).length:Int)=w:=by rw [Zi0];exact hlr
 have hir:In q (scl f R (ix inv e)):=Zkd hF
 generalize scl f R (ix inv e)=row at hrl hir ⊢
 have hy:Mat q w (xs.set piv.length row):=g.set (i:=(piv.length:Int)) (by omega) hir hrl
 have hyr:ix (xs.set piv.length row) piv.length=row:=ZcG (i:=(piv.length:Int)) (by omega) hr
 have hyl:(xs.set piv.length row).length=xs.length:=List.length_set
 have hL:=ZD6 hF (d:=mulA f d e) hy m p (by omega) hrl hir hyr
 rw [hyl] at hL
 simp (disch:=omega) only [pz,Zgv]
 rw [hL]
 by_cases h:(piv.length:Int)+1=xs.length
 ·rw [if_pos h,if_pos h]
 ·rw [if_neg h,if_neg h]
theorem Zr4 {f:Zd} {q w:Int} {piv:List Int} {c:Int} {xs:List (List Int)} (b:Mat q w xs) (v:0≤c) (y:c<w) (hr:(piv.length:Int)≤xs.length):
  ∃ i:Int,(piv.length:Int)≤i∧i≤xs.length∧(∀ j,(piv.length:Int)≤j→j<i→ix (ix xs j) c=0)∧(i<xs.length→¬ ix (ix xs i) c=0)∧ZiD f piv c xs=Zaw f piv c xs i:=by
 have hn:=b.n
 have key:∀ (d:Nat) (i:Int),i+d=xs.length→(piv.length:Int)≤i→(∀ j,(piv.length:Int)≤j→j<i→ix (ix xs j) c=0)→∃ i':Int,(piv.length:Int)≤i'∧i'≤xs.length∧(∀ j,(piv.length:Int)≤j→j<i'→ix (ix xs j) c=0)∧(i'<xs.length→¬ ix (ix xs i') c=0)∧loop (Zct f piv c xs) i=Zaw f piv c xs i':=by
  intro d
  induction d with
  | zero=>
   intro i hi hpi ha
   refine ⟨i,hpi,by omega,ha,fun h=>by omega,?_⟩
   have hB:Zct f piv c xs i=(Zaw f piv c xs i).map fun x=>.inr x:=by
    simp (disch:=omega) only [pz,Zct]
   cases hk:Zaw f piv c xs i with
   | none=>
    exfalso
    unfold Zaw at hk
    obtain rfl:i=(xs.length:Int):=by omega
    have:((xs.length:Int)==(xs.length:Int))=true:=by simp
    rw [this] at hk
    cases hk
   | some r=>rw [hk] at hB;exact Zc hB
  | succ d ih=>
   intro i hi hpi ha
   have hl:=b.len i (by omega) (by omega)
   by_cases h:ix (ix xs i) c=0
   ·obtain ⟨i',l,o,p,s,t⟩:=ih (i+1) (by omega) (by omega) fun j g u=>by
     by_cases e:j=i
     ·rw [e];exact h
     ·exact ha j g (by omega)
    refine ⟨i',l,o,p,s,?_⟩
    rw [←t]
    refine ZL ?_
    simp (disch:=omega) only [pz,Zct,h]
   ·refine ⟨i,hpi,by omega,ha,fun _=>h,?_⟩
    have hB:Zct f piv c xs i=(Zaw f piv c xs i).map fun x=>.inr x:=by
     simp (disch:=omega) only [pz,Zct,h]
    cases hk:Zaw f piv c xs i with
    | none=>
     rw [hk] at hB
     cases hl:loop (Zct f piv c xs) i with
     | none=>rfl
     | some r=>
      obtain ⟨m,hm⟩:=Zi hl
      obtain ⟨_,a,_,k,_⟩:=Zh hm
      rw [hB] at k
      cases k
    | some r=>rw [hk] at hB;exact Zc hB
 unfold ZiD
 exact key (xs.length-piv.length) piv.length (by omega) (by omega) fun j g u=>by omega
theorem ZuU {q w:Int} {piv:List Int} {c i:Int} {xs:List (List Int)} (a:Mat q w xs) (g:0≤c) (l:c<w) (hr:(piv.length:Int)≤xs.length) (m:(piv.length:Int)≤i) (o:i≤xs.length) (hz:∀ j,(piv.length:Int)≤j→j<i→ix (ix xs j) c=0) (hp:i<xs.length→¬ ix (ix xs i) c=0):
  Zdh (xs.drop piv.length) (fun b=>Zdv b c)=some (if i<xs.length then i-piv.length else -1):=by
 have p:=a.n
 unfold Zdh
 have hdl:((xs.drop piv.length).length:Int)=(xs.length:Int)-piv.length:=by rw [List.length_drop];omega
 have hdx:∀ k,0≤k→ix (xs.drop piv.length) k=ix xs (piv.length+k):=fun k f=>Zej (i:=(piv.length:Int)) (by omega) f
 have hgo:=Zj (B:=ZaG (xs.drop piv.length) (fun b=>Zdv b c)) (fun k=>k) (i:=0) (n:=i-piv.length) (by omega) fun k f k1=>by
  have hl:=a.len (piv.length+k) (by omega) (by omega)
  have hzk:=hz (piv.length+k) (by omega) (by omega)
  simp (disch:=omega) only [pz,ZaG,Zdv,hdx,hzk]
 rw [hgo]
 refine Zc ?_
 by_cases h:i<xs.length
 ·rw [if_pos h]
  have hl:=a.len i (by omega) h
  have hpi:=hp h
  have e:(piv.length:Int)+(i-piv.length)=i:=by omega
  simp (disch:=omega) only [pz,ZaG,Zdv,hdx,e]
 ·rw [if_neg h]
  simp (disch:=omega) only [pz,ZaG]
end Go.Proofs.YtghbgeaammnkcaaGreatDoor
namespace Go.Proofs.YtghbgeaammnkcaaGreatDoor
set_option linter.unusedVariables false
open Go Go.Vc
set_option linter.unusedSimpArgs false
theorem ZqQ {xs:List (List Int)} {k:Nat} (h:k≤xs.length):gSl xs 0 (k:Int)=some (xs.take k):=by
 rw [Zcv (by omega) (by omega) (by omega)]
 simp
theorem ZEP {f:Zd} {q w:Int} {inv:List Int} (hF:Ff f q inv):∀ (n:Nat) (c:Int) (piv:List Int) (xs:List (List Int)) (d:Int),c+n=w→0≤c→(piv.length:Int)<xs.length→Mat q w xs→0≤d→d<q →
  ∃ R piv' d',loop (Za2 f w) (piv,c,xs)=some (R,piv')∧piv'.length≤R.length∧R.length=xs.length∧Mat q w R∧loop (ZbS (tabs f q inv)) (piv,d,c,xs)=some (R.take piv'.length,piv',d'):=by
 intro n
 induction n with
 | zero=>
  intro c piv xs d x g hp a l m
  have y:=a.n;have hw:=a.w1
  have t:=a.len 0 (by omega) (by omega)
  refine ⟨xs,piv,d,Zc ?_,by omega,rfl,a,Zc ?_⟩
  ·simp (disch:=omega) only [pz,Za2]
  ·simp (disch:=omega) only [pz,ZbS,Zdw,ZqQ]
 | succ n ih=>
  intro c piv xs d x g hp a l m
  have y:=a.n;have hw:=a.w1;have a4:=hF.q2
  have t:=a.len 0 (by omega) (by omega)
  obtain ⟨i,u,i1,iz,ip,hs⟩:=Zr4 (f:=f) (piv:=piv) a g (by omega) (by omega)
  have hi:=ZuU (piv:=piv) a g (by omega) (by omega) u i1 iz ip
  have hsl:gSl xs (piv.length:Int) (xs.length:Int)=some (xs.drop piv.length):=ZgU (lo:=(piv.length:Int)) (by omega) (by omega)
  have hB:Za2 f w (piv,c,xs)=Zaw f piv c xs i:=by
   rw [←hs]
   simp (disch:=omega) only [pz,Za2]
  by_cases h:i<xs.length
  ·rw [if_pos h] at hi
   have hpi:=ip h
   have hB2:=ZyI hF (piv:=piv) a g (by omega:c<w) u h hpi
   rw [hB2] at hB
   rw [ZL hB]
   have hil:=a.len i (by omega) h
   have hir:=a.rng i (by omega) h
   have hrl:=a.len piv.length (by omega) hp
   have hrr:=a.rng piv.length (by omega) hp
   have hrow:In q (scl f (ix xs i) (ix inv (ix (ix xs i) c))):=Zkd hF
   have hrowl:((scl f (ix xs i) (ix inv (ix (ix xs i) c))).length:Int)=w:=by rw [Zi0];exact hil
   obtain ⟨m0,m1⟩:=hir c g (by omega)
   have hI:∃ d',0≤d'∧d'<q∧ZbS (tabs f q inv) (piv,d,c,xs)=some (if (piv.length:Int)+1=xs.length
     then .inr ((elim f c piv.length (scl f (ix xs i) (ix inv (ix (ix xs i) c))) ((xs.set i.toNat (ix xs piv.length)).set piv.length (scl f (ix xs i) (ix inv (ix (ix xs i) c))))).take (piv.length+1),piv++[c],d')
     else .inl (piv++[c],d',c+1,elim f c piv.length (scl f (ix xs i) (ix inv (ix (ix xs i) c))) ((xs.set i.toNat (ix xs piv.length)).set piv.length (scl f (ix xs i) (ix inv (ix (ix xs i) c)))))):=by
    by_cases hir':i=piv.length
    ·subst hir'
     have hk:=ZuA hF (piv:=piv) a g (by omega:c<w) hp hpi l m
     obtain ⟨j,k⟩:=Zdo hF.fd hF.pw d (ix (ix xs piv.length) c)
     refine ⟨_,j,k,?_⟩
     rw [Int.toNat_natCast,Zug]
     rw [Int.sub_self] at hi
     rw [←hk]
     simp (disch:=omega) only [pz,ZbS,ZeW,hsl,hi]
    ·have hzm:Mat q w ((xs.set piv.length (ix xs i)).set i.toNat (ix xs piv.length)):=(a.set (i:=(piv.length:Int)) (by omega) hir hil).set (by omega) hrr hrl
     have hzl:((xs.set piv.length (ix xs i)).set i.toNat (ix xs piv.length)).length=xs.length:=by rw [List.length_set,List.length_set]
     have a1:(xs.set piv.length (ix xs i)).length=xs.length:=List.length_set
     have hzr:ix ((xs.set piv.length (ix xs i)).set i.toNat (ix xs piv.length)) piv.length=ix xs i:=by
      rw [Zib (by omega) (by omega) hir']
      exact ZcG (i:=(piv.length:Int)) (by omega) hp
     have hsc:∀ row,((xs.set piv.length (ix xs i)).set i.toNat (ix xs piv.length)).set piv.length row=(xs.set i.toNat (ix xs piv.length)).set piv.length row:=fun row=>by
      rw [List.set_comm (ix xs i) (ix xs piv.length) (by omega:piv.length≠i.toNat),List.set_set]
     obtain ⟨n0,n1⟩:=ZjT hF.fd hF.pw 0 d (f.Prime-1)
     have hk:=ZuA hF (piv:=piv) (d:=sumA f 0 d (f.Prime-1)) hzm g (by omega:c<w) (by omega) (by rw [hzr];exact hpi) n0 n1
     rw [hzr,hzl,hsc] at hk
     obtain ⟨j,k⟩:=Zdo hF.fd hF.pw (sumA f 0 d (f.Prime-1)) (ix (ix xs i) c)
     refine ⟨_,j,k,?_⟩
     rw [←hk]
     have j1:gIdx (tabs f q inv).qsub 0=some (tabl q fun b=>sumA f 0 b (f.Prime-1)):=by rw [Zsg,ZaB (by omega) (by omega)]
     have j2:gIdx (tabl q fun b=>sumA f 0 b (f.Prime-1)) d=some (sumA f 0 d (f.Prime-1)):=ZaB l m
     have e:(piv.length:Int)+(i-piv.length)=i:=by omega
     simp (disch:=omega) only [pz,ZbS,ZeW,hsl,hi,e,j1,j2]
   obtain ⟨d',j,k,hI⟩:=hI
   have hyl:((xs.set i.toNat (ix xs piv.length)).set piv.length (scl f (ix xs i) (ix inv (ix (ix xs i) c)))).length=xs.length:=by rw [List.length_set,List.length_set]
   have hym:Mat q w ((xs.set i.toNat (ix xs piv.length)).set piv.length (scl f (ix xs i) (ix inv (ix (ix xs i) c)))):=(a.set (by omega) hrr hrl).set (i:=(piv.length:Int)) (by omega) hrow hrowl
   have hEm:Mat q w (elim f c piv.length (scl f (ix xs i) (ix inv (ix (ix xs i) c))) ((xs.set i.toNat (ix xs piv.length)).set piv.length (scl f (ix xs i) (ix inv (ix (ix xs i) c))))):=Mat.elim hF hym hrow hrowl
   have hEl:(elim f c piv.length (scl f (ix xs i) (ix inv (ix (ix xs i) c))) ((xs.set i.toNat (ix xs piv.length)).set piv.length (scl f (ix xs i) (ix inv (ix (ix xs i) c))))).length=xs.length:=by rw [ZfW,hyl]
   generalize elim f c piv.length (scl f (ix xs i) (ix inv (ix (ix xs i) c))) ((xs.set i.toNat (ix xs piv.length)).set piv.length (scl f (ix xs i) (ix inv (ix (ix xs i) c))))=E at hI hEm hEl ⊢
   have hpl:(piv++[c]).length=piv.length+1:=by simp
   by_cases hfull:(piv.length:Int)+1=xs.length
   ·rw [if_pos hfull] at hI
    refine ⟨E,piv++[c],d',Zc ?_,by omega,hEl,hEm,?_⟩
    ·by_cases hcw:c+1<w
     ·simp (disch:=omega) only [pz,Za2]
     ·simp (disch:=omega) only [pz,Za2]
    ·rw [hpl];exact Zc hI
   ·rw [if_neg hfull] at hI
    rw [ZL hI]
    obtain ⟨R,piv',d'',o,p,v,r,s⟩:=ih (c+1) (piv++[c]) E d' (by omega) (by omega) (by omega) hEm j k
    exact ⟨R,piv',d'',o,p,by omega,r,s⟩
  ·rw [if_neg h] at hi
   have hB2:Zaw f piv c xs i=some (.inl (piv,c+1,xs)):=by
    obtain rfl:i=(xs.length:Int):=by omega
    simp (disch:=omega) only [pz,Zaw]
   rw [hB2] at hB
   rw [ZL hB]
   have hI:ZbS (tabs f q inv) (piv,d,c,xs)=some (.inl (piv,0,c+1,xs)):=by
    simp (disch:=omega) only [pz,ZbS,ZeW,ZfE,hsl,hi]
   rw [ZL hI]
   obtain ⟨R,piv',d'',o,p,v,r,s⟩:=ih (c+1) piv xs 0 (by omega) (by omega) hp a (by omega) (by omega)
   exact ⟨R,piv',d'',o,p,v,r,s⟩
theorem ZsW {m:List (List Int)} (hs:Sz2 m):Zhm m=some m:=by
 unfold Zhm
 have a:=hs.1
 have hgo:=Zj (B:=ZfO m) (fun k=>(m.take k.toNat,k)) (i:=0) (n:=m.length) (by omega) fun k b a=>by
  have hr:=Zt4 (hs.2 (ix m k) (ZP b a))
  have hl:(m.take k.toNat).length=k.toNat:=by rw [List.length_take];omega
  simp (disch:=omega) only [pz,ZfO,hr,gApp1,hl,ZaS]
 have c:(([]:List (List Int)),(0:Int))=(fun k:Int=>(m.take k.toNat,k)) 0:=by simp
 rw [c,hgo]
 refine Zc ?_
 have e:m.take (m.length:Int).toNat=m:=by simp
 simp (disch:=omega) only [pz,ZfO,e]
theorem Zs8 {f:Zd} {q w:Int} {inv:List Int} (hF:Ff f q inv) {m:List (List Int)} (hs:Sz2 m) (hm:Mat q w m) (hw:0≤w) (l:1≤(m.length:Int)):
  ∃ R piv d,Zcc f m=some R∧ZgO (tabs f q inv) m=some (R,piv,d)∧R.length≤m.length∧∀ x∈R,(x.length:Int)≤1048576:=by
 have k:=hF.q2
 obtain ⟨R,piv,d,e,o,p,g,h⟩:=ZEP hF w.toNat 0 [] m 1 (by omega) (by omega) (by simp;omega) hm (by omega) (by omega)
 have c:=hm.len 0 (by omega) (by omega)
 refine ⟨R.take piv.length,piv,d,?_,?_,by rw [List.length_take];omega,fun x j=>?_⟩
 ·unfold Zcc Zg9
  rw [ZsW hs]
  simp (disch:=omega) only [pz,c,e,ZqQ]
 ·unfold ZgO
  rw [Zck hs]
  exact h
 ·obtain ⟨i,a,b,rfl⟩:=Z0 (List.mem_of_mem_take j)
  have:=g.len i a b
  have:=hm.w1
  omega
end Go.Proofs.YtghbgeaammnkcaaGreatDoor
