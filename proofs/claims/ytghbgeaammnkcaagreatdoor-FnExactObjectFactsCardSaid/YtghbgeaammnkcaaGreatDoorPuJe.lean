import Derived.Test.YtghbgeaammnkcaaGreatDoorPuJd
import Derived.Test.YtghbgeaammnkcaaGreatDoorPuEv
import Derived.Test.YtghbgeaammnkcaaGreatDoorCeFns
namespace Go.Proofs.YtghbgeaammnkcaaGreatDoor
open Go Go.Vc
set_option linter.unusedSimpArgs false
set_option linter.unusedVariables false
noncomputable def gx (xs:List Int):Nat→Int:=List.rec (fun _=>0) (fun a _ ih n=>Nat.rec a (fun m _=>ih m) n) xs
theorem gx_ok:∀ (xs:List Int) (n:Nat),gx xs n=ix xs (n:Int)
 | [],n=>by simp [gx,ix]
 | a::xs,0=>rfl
 | a::xs,n+1=>by
  show gx xs n=_
  rw [gx_ok xs n,Zat (by omega)]
  congr 1
  omega
theorem ZmH {α:Type} {n:Nat} {f:Int→α}:tabl ((n+1:Nat):Int) f=f 0::tabl (n:Int) fun i=>f (i+1):=by
 unfold tabl
 rw [show (((n+1:Nat):Int)).toNat=n+1 by omega,List.range_succ_eq_map,List.map_cons,List.map_map]
 congr 1
noncomputable def axR (p c:Int) (ws:List Int):List Int→List Int:=List.rec (fun xs=>xs) (fun w _ ih xs=>List.rec [] (fun x xs _=>Int.emod (Int.add x (Int.mul c w)) p::ih xs) xs) ws
noncomputable def axE (p c:Int) (ws:List Int) (off:Nat):List Int→List Int:=Nat.rec (axR p c ws) (fun _ ih xs=>List.rec [] (fun x xs _=>x::ih xs) xs) off
theorem ZpU {p c:Int}:∀ (ws xs:List Int),ws.length≤xs.length→axR p c ws xs=axAt p c ws 0 xs
 | [],xs,_=>by
  show xs=_
  refine (Zbp xs).symm.trans (ZN fun i a b=>?_)
  rw [if_neg (by rw [show (([]:List Int).length:Int)=0 from rfl];omega)]
 | w::ws,[],h=>by simp at h
 | w::ws,x::xs,h=>by
  show ((x+c*w)%p)::axR p c ws xs=_
  rw [ZpU ws xs (by simpa using h)]
  unfold axAt
  rw [show (((x::xs).length:Nat):Int)=((xs.length+1:Nat):Int) from rfl,ZmH]
  congr 1
  ·rw [if_pos (by rw [show (((w::ws).length:Nat):Int)=(ws.length:Int)+1 by simp];omega)];rfl
  ·refine ZN fun i a b=>?_
   rw [show (((w::ws).length:Nat):Int)=(ws.length:Int)+1 by simp]
   by_cases hi:i<(ws.length:Int)
   ·rw [if_pos (by omega),if_pos (by omega),Zat (by omega),Zat (by omega),show i+1-1=i by omega,show i+1-0-1=i-0 by omega]
   ·rw [if_neg (by omega),if_neg (by omega),Zat (by omega),show i+1-1=i by omega]
theorem Zpy {p c:Int} {ws:List Int}:∀ (off:Nat) (xs:List Int),off+ws.length≤xs.length→axE p c ws off xs=axAt p c ws (off:Int) xs
 | 0,xs,h=>ZpU ws xs (by omega)
 | off+1,[],h=>by simp at h
 | off+1,x::xs,h=>by
  show x::axE p c ws off xs=_
  rw [Zpy off xs (by simp at h;omega)]
  unfold axAt
  rw [show (((x::xs).length:Nat):Int)=((xs.length+1:Nat):Int) from rfl,ZmH]
  congr 1
  refine ZN fun i a b=>?_
  by_cases hi:(off:Int)≤i∧i<(off:Int)+(ws.length:Int)
  ·rw [if_pos hi,if_pos (by omega),Zat (by omega),show i+1-1=i by omega,show i+1-((off+1:Nat):Int)=i-(off:Int) by omega]
  ·rw [if_neg hi,if_neg (by omega),Zat (by omega),show i+1-1=i by omega]
noncomputable def digE (p:Int) (k:Nat):Int→List Int:=Nat.rec (fun _=>[]) (fun _ ih a=>Frc.frc (Int.ediv a p) fun a'=>Int.emod a p::ih a') k
theorem Zup (p a:Int):∀ i:Nat,qd p a (i+1)=qd p (a/p) i
 | 0=>rfl
 | i+1=>by show qd p a (i+1)/p=_;rw [Zup p a i];rfl
theorem Zg7 {p:Int}:∀ (k:Nat) (a:Int),digE p k a=dig p (k:Int) a
 | 0,a=>rfl
 | k+1,a=>by
  show Frc.frc (Int.ediv a p) _=_
  rw [Frc.ok]
  show (a%p)::digE p k (a/p)=_
  rw [Zg7 k (a/p)]
  unfold dig
  rw [ZmH]
  congr 1
  refine ZN fun i b c=>?_
  rw [show (i+1).toNat=i.toNat+1 by omega,Zup]
noncomputable def nmE (p:Int) (xs:List Int):Int:=List.rec 0 (fun d _ r=>Int.add (Int.mul r p) d) xs
theorem ZrN {p d:Int} {ds:List Int}:∀ m:Nat,m≤ds.length→nmN p (d::ds) m=nmN p ds m
 | 0,_=>rfl
 | m+1,h=>by
  show nmN p (d::ds) m*p+ix (d::ds) _=nmN p ds m*p+ix ds _
  rw [ZrN m (by omega),Zat (by simp;omega)]
  congr 2
  simp;omega
theorem Zl8 {p:Int}:∀ xs:List Int,nmE p xs=nm p xs
 | []=>rfl
 | d::ds=>by
  show nmE p ds*p+d=nmN p (d::ds) (ds.length+1)
  show nmE p ds*p+d=nmN p (d::ds) ds.length*p+ix (d::ds) _
  rw [ZrN _ (Nat.le_refl _),Zl8 ds,show (((d::ds).length:Nat):Int)-1-(ds.length:Int)=0 by simp,ZcL]
  rfl
noncomputable def sumE (p:Int) (k:Nat) (a b c:Int):Int:=Frc.frc (digE p k a) fun as=>Frc.frc (digE p k b) fun bs=>Frc.frc (axR p c bs as) fun xs=>nmE p xs
noncomputable def cnvE (p:Int) (as bs xs:List Int) (m:Nat):List Int:=Nat.rec xs (fun i r=>axE p (gx as i) bs i r) m
noncomputable def rstE (p:Int) (poly:List Int) (l k:Nat) (xs:List Int) (m:Nat):List Int:=Nat.rec xs (fun m r=>Frc.frc r fun ys=>Frc.frc (Int.sub p (gx ys (Nat.sub (Nat.sub l 1) m))) fun c=>axE p c poly (Nat.sub (Nat.sub (Nat.sub l 1) m) k) ys) m
noncomputable def tkE (n:Nat):List Int→List Int:=Nat.rec (fun _=>[]) (fun _ ih xs=>List.rec [] (fun x xs _=>x::ih xs) xs) n
theorem Zsp:∀ (n:Nat) (xs:List Int),tkE n xs=xs.take n
 | 0,xs=>rfl
 | n+1,[]=>rfl
 | n+1,x::xs=>by show x::tkE n xs=_;rw [Zsp n xs];rfl
noncomputable def rpE (n:Nat):List Int:=Nat.rec [] (fun _ r=>0::r) n
theorem Zso:∀ n:Nat,rpE n=List.replicate n 0
 | 0=>rfl
 | n+1=>by show 0::rpE n=_;rw [Zso n];rfl
noncomputable def mulE (p:Int) (k:Nat) (poly:List Int) (a b:Int):Int:=
 Frc.frc (digE p k a) fun as=>Frc.frc (digE p k b) fun bs=>
 Frc.frc (cnvE p as bs (rpE (Nat.sub (Nat.mul 2 k) 1)) k) fun xs=>Frc.frc (rstE p poly (Nat.sub (Nat.mul 2 k) 1) k xs (Nat.sub k 1)) fun ys=>nmE p (tkE k ys)
theorem Zt1 {p:Int} {as bs xs:List Int}:∀ m:Nat,(m:Int)-1+(bs.length:Int)≤xs.length→cnvE p as bs xs m=cnvN p as bs xs m
 | 0,_=>rfl
 | m+1,h=>by
  show axE p (gx as m) bs m (cnvE p as bs xs m)=axAt _ _ _ _ _
  rw [Zt1 m (by omega),Zpy m _ (by rw [Zbv];omega),gx_ok]
theorem Zr2 {p:Int} {poly xs:List Int} {l k:Nat} (hl:xs.length=l) (hk:poly.length=k+1):∀ m:Nat,m+k≤l→rstE p poly l k xs m=rstN p poly xs m
 | 0,_=>rfl
 | m+1,h=>by
  show Frc.frc (rstE p poly l k xs m) _=axAt _ _ _ _ _
  rw [Frc.ok,Frc.ok,Zr2 hl hk m (by omega),gx_ok]
  rw [Zpy _ _ (by rw [ZbW,hl,hk];show l-1-m-k+(k+1)≤l;omega)]
  rw [hl,hk]
  have a:((Nat.sub (Nat.sub l 1) m:Nat):Int)=(l:Int)-1-(m:Int):=by
   show ((l-1-m:Nat):Int)=_;omega
  have b:((Nat.sub (Nat.sub (Nat.sub l 1) m) k:Nat):Int)=(l:Int)-1-(m:Int)-(((k+1:Nat):Int)-1):=by
   show ((l-1-m-k:Nat):Int)=_;omega
  rw [a,b]
  rfl
theorem ZBU {f:Zd} (hf:Fd f) {k:Nat} (hk:f.Degree=(k:Int)) (a b c:Int):sumE f.Prime k a b c=sumA f a b c:=by
 unfold sumE sumA
 rw [Frc.ok,Frc.ok,Frc.ok,Zg7,Zg7,Zl8,hk]
 rw [ZpU _ _ (by
  have e:=Zas (p:=f.Prime) (k:=(k:Int)) (a:=a) (by omega)
  have g:=Zas (p:=f.Prime) (k:=(k:Int)) (a:=b) (by omega)
  omega)]
theorem ZA7 {f:Zd} (hf:Fd f) {k:Nat} (hk:f.Degree=(k:Int)) (a b:Int):mulE f.Prime k f.Poly a b=mulA f a b:=by
 have:=hf.k1;have:=hf.k6;have hpl:=hf.pl
 have g:=Zas (p:=f.Prime) (k:=(k:Int)) (a:=a) (by omega)
 have h:=Zas (p:=f.Prime) (k:=(k:Int)) (a:=b) (by omega)
 unfold mulE mulA
 rw [Frc.ok,Frc.ok,Frc.ok,Frc.ok,Zg7,Zg7,Zl8,hk,Zsp,Zso]
 have c:Nat.sub (Nat.mul 2 k) 1=(2*(k:Int)-1).toNat:=by show 2*k-1=_;omega
 have e:Nat.sub k 1=((k:Int)-1).toNat:=by show k-1=_;omega
 rw [c,e,Int.toNat_natCast]
 rw [Zt1 k (by rw [List.length_replicate];omega)]
 rw [Zr2 (by rw [Zbv,List.length_replicate]) (by omega) _ (by omega)]
end Go.Proofs.YtghbgeaammnkcaaGreatDoor
namespace Go.Proofs.YtghbgeaammnkcaaGreatDoor
set_option linter.unusedVariables false
open Go Go.Vc
set_option linter.unusedSimpArgs false
set_option maxRecDepth 20000
noncomputable def allN (n:Nat) (f:Nat→Bool):Bool:=Nat.rec true (fun m r=>bif f m then r else false) n
theorem ZeE {f:Nat→Bool}:∀ {n:Nat},allN n f=true→∀ m,m<n→f m=true
 | 0,_,m,hm=>by omega
 | n+1,h,m,hm=>by
  have h':(bif f n then allN n f else false)=true:=h
  cases hf:f n with
  | false=>rw [hf] at h';cases h'
  | true=>
   rw [hf] at h'
   by_cases e:m=n
   ·rw [e];exact hf
   ·exact ZeE h' m (by omega)
noncomputable def ngE (p:Int) (k:Nat) (a:Int):Int:=sumE p k 0 a (Int.sub p 1)
noncomputable def eqb (a b:Bool):Bool:=Bool.rec (Bool.rec true false b) b a
theorem Zsx {a b:Bool} (h:eqb a b=true):a=b:=by cases a<;>cases b<;>first|rfl|cases h
noncomputable def both (a b:Bool):Bool:=Bool.rec false b a
theorem ZdW {a b:Bool} (h:both a b=true):a=true∧b=true:=by cases a<;>cases b<;>first|exact ⟨rfl,rfl⟩|cases h
theorem ZeI {a b:Int} (h:eqi a b=true):a=b:=by rw [←Zo] at h;simpa using h
theorem ZkG {a b:Int}:eqi a b=true↔a=b:=by rw [←Zo];simp
theorem ZFq {a b:Int}:lti a b=true↔a<b:=by rw [←Zp];simp
noncomputable def chk (p:Int) (k:Nat) (poly inv:List Int) (q:Nat):Bool:=
 allN q fun a=>allN (Nat.succ a) fun b=>Frc.frc (mulE p k poly (.ofNat a) (.ofNat b)) fun m=>
  both (eqi m (mulE p k poly (.ofNat b) (.ofNat a))) (both (eqb (eqi m 1) (eqi (.ofNat b) (gx inv a))) (eqb (eqi m 1) (eqi (.ofNat a) (gx inv b))))
noncomputable def chkN (p:Int) (k:Nat) (poly:List Int) (q:Nat):Bool:=
 allN q fun a=>Frc.frc (ngE p k (.ofNat a)) fun na=>allN q fun b=>both (Frc.frc (mulE p k poly (.ofNat a) (.ofNat b)) fun m=>eqi (mulE p k poly na (.ofNat b)) (ngE p k m))
  (Frc.frc (ngE p k (.ofNat b)) fun nb=>eqi (sumE p k (.ofNat a) (.ofNat b) (Int.sub p 1)) (sumE p k (.ofNat a) nb 1))
noncomputable def chk1 (p:Int) (k:Nat) (poly inv:List Int) (q:Nat):Bool:=
 allN q fun a=>both (eqi (mulE p k poly 0 (.ofNat a)) 0) (both (eqi (sumE p k (.ofNat a) 0 (Int.sub p 1)) (.ofNat a)) (Nat.rec true (fun _ _=>both (lti 0 (gx inv a)) (lti (gx inv a) (.ofNat q))) a))
noncomputable def chk2 (p:Int) (k:Nat) (q:Nat):Bool:=both (eqi p 2) (allN q fun a=>eqi (ngE p k (.ofNat a)) (.ofNat a))
inductive GF:Int→Zd→Prop
 | f2:GF 2 ⟨2,1,[0,1]⟩
 | f3:GF 3 ⟨3,1,[0,1]⟩
 | f4:GF 4 ⟨2,2,[1,1,1]⟩
 | f5:GF 5 ⟨5,1,[0,1]⟩
 | f7:GF 7 ⟨7,1,[0,1]⟩
 | f8:GF 8 ⟨2,3,[1,1,0,1]⟩
 | f9:GF 9 ⟨3,2,[1,0,1]⟩
 | f11:GF 11 ⟨11,1,[0,1]⟩
 | f13:GF 13 ⟨13,1,[0,1]⟩
 | f16:GF 16 ⟨2,4,[1,1,0,0,1]⟩
 | f17:GF 17 ⟨17,1,[0,1]⟩
 | f19:GF 19 ⟨19,1,[0,1]⟩
 | f23:GF 23 ⟨23,1,[0,1]⟩
 | f25:GF 25 ⟨5,2,[2,0,1]⟩
 | f27:GF 27 ⟨3,3,[1,2,0,1]⟩
 | f29:GF 29 ⟨29,1,[0,1]⟩
 | f31:GF 31 ⟨31,1,[0,1]⟩
 | f32:GF 32 ⟨2,5,[1,0,1,0,0,1]⟩
 | f37:GF 37 ⟨37,1,[0,1]⟩
 | f41:GF 41 ⟨41,1,[0,1]⟩
 | f43:GF 43 ⟨43,1,[0,1]⟩
 | f47:GF 47 ⟨47,1,[0,1]⟩
 | f49:GF 49 ⟨7,2,[1,0,1]⟩
 | f53:GF 53 ⟨53,1,[0,1]⟩
 | f59:GF 59 ⟨59,1,[0,1]⟩
 | f61:GF 61 ⟨61,1,[0,1]⟩
 | f64:GF 64 ⟨2,6,[1,1,0,0,0,0,1]⟩
structure Ff (f:Zd) (q:Int) (inv:List Int):Prop where
 fd:Fd f
 pw:pwN f.Prime f.Degree.toNat=q
 q2:2≤q
 q64:q≤64
 comm:∀ a b,0≤a→a<q→0≤b→b<q→mulA f a b=mulA f b a
 neg:∀ a b,0≤a→a<q→0≤b→b<q→mulA f (sumA f 0 a (f.Prime-1)) b=sumA f 0 (mulA f a b) (f.Prime-1)
 sub:∀ a b,0≤a→a<q→0≤b→b<q→sumA f a b (f.Prime-1)=sumA f a (sumA f 0 b (f.Prime-1)) 1
 inv1:∀ a,1≤a→a<q→1≤ix inv a∧ix inv a<q
 inv2:∀ a b,0≤a→a<q→0≤b→b<q→(mulA f a b=1↔b=ix inv a)
 z1:∀ a,0≤a→a<q→mulA f 0 a=0
 z2:∀ a,0≤a→a<q→sumA f a 0 (f.Prime-1)=a
theorem ZrG {f:Zd} {q:Int} (hf:Fd f) (a:pwN f.Prime f.Degree.toNat=q) {xs:List Int} (b:In f.Prime xs) (hl:xs.length=f.Degree.toNat):0≤nm f.Prime xs∧nm f.Prime xs<q:=by
 have:=Zkg hf.p2 b xs.length (Nat.le_refl _)
 unfold nm
 rw [hl,a] at this
 rw [hl]
 exact this
theorem ZjT {f:Zd} {q:Int} (hf:Fd f) (e:pwN f.Prime f.Degree.toNat=q) (a b c:Int):0≤sumA f a b c∧sumA f a b c<q:=by
 have:=hf.p2;have:=hf.k1
 refine ZrG hf e (Zl1 (by omega) (ZbK (by omega))) ?_
 have:=Zas (p:=f.Prime) (k:=f.Degree) (a:=a) (by omega)
 rw [Za0];omega
theorem Zdo {f:Zd} {q:Int} (hf:Fd f) (c:pwN f.Prime f.Degree.toNat=q) (a b:Int):0≤mulA f a b∧mulA f a b<q:=by
 have:=hf.p2;have:=hf.k1
 refine ZrG hf c (Zr3 (ZjP (by omega) (Zb2 (by omega) (ZiF (by omega)) _) _)) ?_
 rw [List.length_take,ZbW,Zbv,List.length_replicate];omega
theorem ff_of {f:Zd} {q k:Nat} {inv:List Int} (hf:Fd f) (hk:f.Degree=(k:Int)) (u:pwN f.Prime k=q) (a4:2≤q) (v:q≤64) (s:chk f.Prime k f.Poly inv q=true) (w:chk1 f.Prime k f.Poly inv q=true) (x:chkN f.Prime k f.Poly q=true∨chk2 f.Prime k q=true):Ff f q inv:=by
 have hM:∀ a b,mulE f.Prime k f.Poly a b=mulA f a b:=ZA7 hf hk
 have hS:∀ a b c,sumE f.Prime k a b c=sumA f a b c:=ZBU hf hk
 have hqq:pwN f.Prime f.Degree.toNat=(q:Int):=by rw [hk,Int.toNat_natCast];exact u
 have key:∀ a b:Nat,a<q→b≤a→mulA f a b=mulA f b a∧(mulA f a b=1↔(b:Int)=ix inv a)∧(mulA f a b=1↔(a:Int)=ix inv b):=by
  intro a b ha j
  have h:=ZeE (ZeE s a ha) b (by omega)
  simp only [Frc.ok] at h
  obtain ⟨l,e⟩:=ZdW h
  obtain ⟨e,o⟩:=ZdW e
  rw [hM,hM] at l
  have e:=Zsx e
  have o:=Zsx o
  rw [hM,gx_ok] at e
  rw [hM,gx_ok] at o
  refine ⟨ZeI l,?_,?_⟩
  ·rw [←ZkG,←ZkG (a:=(b:Int))]
   exact ⟨fun h=>e.symm.trans h,fun h=>e.trans h⟩
  ·rw [←ZkG,←ZkG (a:=(a:Int))]
   exact ⟨fun h=>o.symm.trans h,fun h=>o.trans h⟩
 have nat:∀ {a:Int},0≤a→a<(q:Int)→∃ n:Nat,a=(n:Int)∧n<q:=fun {a} h0 s=>⟨a.toNat,by omega,by omega⟩
 have one:∀ a:Nat,a<q→mulA f 0 a=0∧sumA f a 0 (f.Prime-1)=a∧(1≤a→1≤ix inv a∧ix inv a<q):=by
  intro a ha
  obtain ⟨l,e⟩:=ZdW (ZeE w a ha)
  obtain ⟨e,o⟩:=ZdW e
  rw [hM] at l
  rw [hS] at e
  refine ⟨ZeI l,ZeI e,fun h=>?_⟩
  cases a with
  | zero=>omega
  | succ n=>
   obtain ⟨y,t⟩:=ZdW (show both _ _=true from o)
   rw [gx_ok,ZFq] at y t
   exact ⟨by omega,t⟩
 have two:∀ a b:Nat,a<q→b<q→mulA f (sumA f 0 a (f.Prime-1)) b=sumA f 0 (mulA f a b) (f.Prime-1)∧sumA f a b (f.Prime-1)=sumA f a (sumA f 0 b (f.Prime-1)) 1:=by
  intro a b ha j
  rcases x with h|h
  ·have h:=ZeE h a ha
   simp only [Frc.ok] at h
   have h:=ZeE h b j
   obtain ⟨l,e⟩:=ZdW h
   unfold ngE at l e
   simp only [hM,hS] at l e
   exact ⟨ZeI l,ZeI e⟩
  ·obtain ⟨l,e⟩:=ZdW h
   have hp:=ZeI l
   have ng:∀ a:Nat,a<q→sumA f 0 a (f.Prime-1)=a:=fun a ha=>by
    have:=ZeI (ZeE e a ha)
    unfold ngE at this
    rw [hS] at this
    exact this
   rw [ng a ha,ng b j]
   obtain ⟨m0,m1⟩:=Zdo hf hqq a b
   obtain ⟨m,em,hm⟩:=nat m0 m1
   rw [em,ng m hm]
   refine ⟨rfl,?_⟩
   rw [hp];rfl
 refine ⟨hf,hqq,by omega,by omega,?_,?_,?_,?_,?_,?_,?_⟩
 ·intro a b i g p r
  obtain ⟨a,rfl,ha⟩:=nat i g
  obtain ⟨b,rfl,j⟩:=nat p r
  by_cases h:b≤a
  ·exact (key a b ha h).1
  ·exact (key b a j (by omega)).1.symm
 ·intro a b i g p r
  obtain ⟨a,rfl,ha⟩:=nat i g
  obtain ⟨b,rfl,j⟩:=nat p r
  exact (two a b ha j).1
 ·intro a b i g p r
  obtain ⟨a,rfl,ha⟩:=nat i g
  obtain ⟨b,rfl,j⟩:=nat p r
  exact (two a b ha j).2
 ·intro a i g
  obtain ⟨a,rfl,ha⟩:=nat (by omega) g
  exact (one a ha).2.2 (by omega)
 ·intro a b i g p r
  obtain ⟨a,rfl,ha⟩:=nat i g
  obtain ⟨b,rfl,j⟩:=nat p r
  by_cases h:b≤a
  ·exact (key a b ha h).2.1
  ·have:=key b a j (by omega)
   rw [←this.1]
   exact this.2.2
 ·intro a i g
  obtain ⟨a,rfl,ha⟩:=nat i g
  exact (one a ha).1
 ·intro a i g
  obtain ⟨a,rfl,ha⟩:=nat i g
  exact (one a ha).2.1
theorem ff2:Ff ⟨2,1,[0,1]⟩ 2 [(-1),1]:=by
 refine ff_of (q:=2) (k:=1) ⟨by decide,by decide,by decide,by decide,rfl,rfl,?_,by decide⟩ rfl (by decide) (by decide) (by decide) (by kernel_rfl) (by kernel_rfl) (.inr (by kernel_rfl))
 intro i b a
 rcases (show i=0∨i=1 by simp at a;omega) with rfl|rfl<;>decide
theorem ff3:Ff ⟨3,1,[0,1]⟩ 3 [(-1),1,2]:=by
 refine ff_of (q:=3) (k:=1) ⟨by decide,by decide,by decide,by decide,rfl,rfl,?_,by decide⟩ rfl (by decide) (by decide) (by decide) (by kernel_rfl) (by kernel_rfl) (.inl (by kernel_rfl))
 intro i b a
 rcases (show i=0∨i=1 by simp at a;omega) with rfl|rfl<;>decide
theorem ff4:Ff ⟨2,2,[1,1,1]⟩ 4 [(-1),1,3,2]:=by
 refine ff_of (q:=4) (k:=2) ⟨by decide,by decide,by decide,by decide,rfl,rfl,?_,by decide⟩ rfl (by decide) (by decide) (by decide) (by kernel_rfl) (by kernel_rfl) (.inr (by kernel_rfl))
 intro i b a
 rcases (show i=0∨i=1∨i=2 by simp at a;omega) with rfl|rfl|rfl<;>decide
theorem ff5:Ff ⟨5,1,[0,1]⟩ 5 [(-1),1,3,2,4]:=by
 refine ff_of (q:=5) (k:=1) ⟨by decide,by decide,by decide,by decide,rfl,rfl,?_,by decide⟩ rfl (by decide) (by decide) (by decide) (by kernel_rfl) (by kernel_rfl) (.inl (by kernel_rfl))
 intro i b a
 rcases (show i=0∨i=1 by simp at a;omega) with rfl|rfl<;>decide
theorem ff7:Ff ⟨7,1,[0,1]⟩ 7 [(-1),1,4,5,2,3,6]:=by
 refine ff_of (q:=7) (k:=1) ⟨by decide,by decide,by decide,by decide,rfl,rfl,?_,by decide⟩ rfl (by decide) (by decide) (by decide) (by kernel_rfl) (by kernel_rfl) (.inl (by kernel_rfl))
 intro i b a
 rcases (show i=0∨i=1 by simp at a;omega) with rfl|rfl<;>decide
theorem ff8:Ff ⟨2,3,[1,1,0,1]⟩ 8 [(-1),1,5,6,7,2,3,4]:=by
 refine ff_of (q:=8) (k:=3) ⟨by decide,by decide,by decide,by decide,rfl,rfl,?_,by decide⟩ rfl (by decide) (by decide) (by decide) (by kernel_rfl) (by kernel_rfl) (.inr (by kernel_rfl))
 intro i b a
 rcases (show i=0∨i=1∨i=2∨i=3 by simp at a;omega) with rfl|rfl|rfl|rfl<;>decide
theorem ff9:Ff ⟨3,2,[1,0,1]⟩ 9 [(-1),1,2,6,5,4,3,8,7]:=by
 refine ff_of (q:=9) (k:=2) ⟨by decide,by decide,by decide,by decide,rfl,rfl,?_,by decide⟩ rfl (by decide) (by decide) (by decide) (by kernel_rfl) (by kernel_rfl) (.inl (by kernel_rfl))
 intro i b a
 rcases (show i=0∨i=1∨i=2 by simp at a;omega) with rfl|rfl|rfl<;>decide
theorem ff11:Ff ⟨11,1,[0,1]⟩ 11 [(-1),1,6,4,3,9,2,8,7,5,10]:=by
 refine ff_of (q:=11) (k:=1) ⟨by decide,by decide,by decide,by decide,rfl,rfl,?_,by decide⟩ rfl (by decide) (by decide) (by decide) (by kernel_rfl) (by kernel_rfl) (.inl (by kernel_rfl))
 intro i b a
 rcases (show i=0∨i=1 by simp at a;omega) with rfl|rfl<;>decide
theorem ff13:Ff ⟨13,1,[0,1]⟩ 13 [(-1),1,7,9,10,8,11,2,5,3,4,6,12]:=by
 refine ff_of (q:=13) (k:=1) ⟨by decide,by decide,by decide,by decide,rfl,rfl,?_,by decide⟩ rfl (by decide) (by decide) (by decide) (by kernel_rfl) (by kernel_rfl) (.inl (by kernel_rfl))
 intro i b a
 rcases (show i=0∨i=1 by simp at a;omega) with rfl|rfl<;>decide
theorem ff16:Ff ⟨2,4,[1,1,0,0,1]⟩ 16 [(-1),1,9,14,13,11,7,6,15,2,12,5,10,4,3,8]:=by
 refine ff_of (q:=16) (k:=4) ⟨by decide,by decide,by decide,by decide,rfl,rfl,?_,by decide⟩ rfl (by decide) (by decide) (by decide) (by kernel_rfl) (by kernel_rfl) (.inr (by kernel_rfl))
 intro i b a
 rcases (show i=0∨i=1∨i=2∨i=3∨i=4 by simp at a;omega) with rfl|rfl|rfl|rfl|rfl<;>decide
theorem ff17:Ff ⟨17,1,[0,1]⟩ 17 [(-1),1,9,6,13,7,3,5,15,2,12,14,10,4,11,8,16]:=by
 refine ff_of (q:=17) (k:=1) ⟨by decide,by decide,by decide,by decide,rfl,rfl,?_,by decide⟩ rfl (by decide) (by decide) (by decide) (by kernel_rfl) (by kernel_rfl) (.inl (by kernel_rfl))
 intro i b a
 rcases (show i=0∨i=1 by simp at a;omega) with rfl|rfl<;>decide
theorem ff19:Ff ⟨19,1,[0,1]⟩ 19 [(-1),1,10,13,5,4,16,11,12,17,2,7,8,3,15,14,6,9,18]:=by
 refine ff_of (q:=19) (k:=1) ⟨by decide,by decide,by decide,by decide,rfl,rfl,?_,by decide⟩ rfl (by decide) (by decide) (by decide) (by kernel_rfl) (by kernel_rfl) (.inl (by kernel_rfl))
 intro i b a
 rcases (show i=0∨i=1 by simp at a;omega) with rfl|rfl<;>decide
theorem ff23:Ff ⟨23,1,[0,1]⟩ 23 [(-1),1,12,8,6,14,4,10,3,18,7,21,2,16,5,20,13,19,9,17,15,11,22]:=by
 refine ff_of (q:=23) (k:=1) ⟨by decide,by decide,by decide,by decide,rfl,rfl,?_,by decide⟩ rfl (by decide) (by decide) (by decide) (by kernel_rfl) (by kernel_rfl) (.inl (by kernel_rfl))
 intro i b a
 rcases (show i=0∨i=1 by simp at a;omega) with rfl|rfl<;>decide
theorem ff25:Ff ⟨5,2,[2,0,1]⟩ 25 [(-1),1,3,2,4,10,17,22,23,18,5,14,21,24,11,20,19,6,9,16,15,12,7,8,13]:=by
 refine ff_of (q:=25) (k:=2) ⟨by decide,by decide,by decide,by decide,rfl,rfl,?_,by decide⟩ rfl (by decide) (by decide) (by decide) (by kernel_rfl) (by kernel_rfl) (.inl (by kernel_rfl))
 intro i b a
 rcases (show i=0∨i=1∨i=2 by simp at a;omega) with rfl|rfl|rfl<;>decide
theorem ff27:Ff ⟨3,3,[1,2,0,1]⟩ 27 [(-1),1,2,19,21,24,11,12,15,25,23,6,7,22,18,8,20,26,14,3,16,4,13,10,5,9,17]:=by
 refine ff_of (q:=27) (k:=3) ⟨by decide,by decide,by decide,by decide,rfl,rfl,?_,by decide⟩ rfl (by decide) (by decide) (by decide) (by kernel_rfl) (by kernel_rfl) (.inl (by kernel_rfl))
 intro i b a
 rcases (show i=0∨i=1∨i=2∨i=3 by simp at a;omega) with rfl|rfl|rfl|rfl<;>decide
theorem ff29:Ff ⟨29,1,[0,1]⟩ 29 [(-1),1,15,10,22,6,5,25,11,13,3,8,17,9,27,2,20,12,21,26,16,18,4,24,23,7,19,14,28]:=by
 refine ff_of (q:=29) (k:=1) ⟨by decide,by decide,by decide,by decide,rfl,rfl,?_,by decide⟩ rfl (by decide) (by decide) (by decide) (by kernel_rfl) (by kernel_rfl) (.inl (by kernel_rfl))
 intro i b a
 rcases (show i=0∨i=1 by simp at a;omega) with rfl|rfl<;>decide
theorem ff31:Ff ⟨31,1,[0,1]⟩ 31 [(-1),1,16,21,8,25,26,9,4,7,28,17,13,12,20,29,2,11,19,18,14,3,24,27,22,5,6,23,10,15,30]:=by
 refine ff_of (q:=31) (k:=1) ⟨by decide,by decide,by decide,by decide,rfl,rfl,?_,by decide⟩ rfl (by decide) (by decide) (by decide) (by kernel_rfl) (by kernel_rfl) (.inl (by kernel_rfl))
 intro i b a
 rcases (show i=0∨i=1 by simp at a;omega) with rfl|rfl<;>decide
theorem ff32:Ff ⟨2,5,[1,0,1,0,0,1]⟩ 32 [(-1),1,18,28,9,23,14,12,22,4,25,16,7,15,6,13,11,24,2,29,30,26,8,5,17,10,21,31,3,19,20,27]:=by
 refine ff_of (q:=32) (k:=5) ⟨by decide,by decide,by decide,by decide,rfl,rfl,?_,by decide⟩ rfl (by decide) (by decide) (by decide) (by kernel_rfl) (by kernel_rfl) (.inr (by kernel_rfl))
 intro i b a
 rcases (show i=0∨i=1∨i=2∨i=3∨i=4∨i=5 by simp at a;omega) with rfl|rfl|rfl|rfl|rfl|rfl<;>decide
theorem ff37:Ff ⟨37,1,[0,1]⟩ 37 [(-1),1,19,25,28,15,31,16,14,33,26,27,34,20,8,5,7,24,35,2,13,30,32,29,17,3,10,11,4,23,21,6,22,9,12,18,36]:=by
 refine ff_of (q:=37) (k:=1) ⟨by decide,by decide,by decide,by decide,rfl,rfl,?_,by decide⟩ rfl (by decide) (by decide) (by decide) (by kernel_rfl) (by kernel_rfl) (.inl (by kernel_rfl))
 intro i b a
 rcases (show i=0∨i=1 by simp at a;omega) with rfl|rfl<;>decide
theorem ff41:Ff ⟨41,1,[0,1]⟩ 41 [(-1),1,21,14,31,33,7,6,36,32,37,15,24,19,3,11,18,29,16,13,39,2,28,25,12,23,30,38,22,17,26,4,9,5,35,34,8,10,27,20,40]:=by
 refine ff_of (q:=41) (k:=1) ⟨by decide,by decide,by decide,by decide,rfl,rfl,?_,by decide⟩ rfl (by decide) (by decide) (by decide) (by kernel_rfl) (by kernel_rfl) (.inl (by kernel_rfl))
 intro i b a
 rcases (show i=0∨i=1 by simp at a;omega) with rfl|rfl<;>decide
theorem ff43:Ff ⟨43,1,[0,1]⟩ 43 [(-1),1,22,29,11,26,36,37,27,24,13,4,18,10,40,23,35,38,12,34,28,41,2,15,9,31,5,8,20,3,33,25,39,30,19,16,6,7,17,32,14,21,42]:=by
 refine ff_of (q:=43) (k:=1) ⟨by decide,by decide,by decide,by decide,rfl,rfl,?_,by decide⟩ rfl (by decide) (by decide) (by decide) (by kernel_rfl) (by kernel_rfl) (.inl (by kernel_rfl))
 intro i b a
 rcases (show i=0∨i=1 by simp at a;omega) with rfl|rfl<;>decide
theorem ff47:Ff ⟨47,1,[0,1]⟩ 47 [(-1),1,24,16,12,19,8,27,6,21,33,30,4,29,37,22,3,36,34,5,40,9,15,45,2,32,38,7,42,13,11,44,25,10,18,43,17,14,26,41,20,39,28,35,31,23,46]:=by
 refine ff_of (q:=47) (k:=1) ⟨by decide,by decide,by decide,by decide,rfl,rfl,?_,by decide⟩ rfl (by decide) (by decide) (by decide) (by kernel_rfl) (by kernel_rfl) (.inl (by kernel_rfl))
 intro i b a
 rcases (show i=0∨i=1 by simp at a;omega) with rfl|rfl<;>decide
theorem ff49:Ff ⟨7,2,[1,0,1]⟩ 49 [(-1),1,4,5,2,3,6,42,25,34,15,20,29,24,21,10,37,18,17,40,11,14,47,26,13,8,23,44,35,12,33,48,43,30,9,28,45,16,39,38,19,46,7,32,27,36,41,22,31]:=by
 refine ff_of (q:=49) (k:=2) ⟨by decide,by decide,by decide,by decide,rfl,rfl,?_,by decide⟩ rfl (by decide) (by decide) (by decide) (by kernel_rfl) (by kernel_rfl) (.inl (by kernel_rfl))
 intro i b a
 rcases (show i=0∨i=1∨i=2 by simp at a;omega) with rfl|rfl|rfl<;>decide
theorem ff53:Ff ⟨53,1,[0,1]⟩ 53 [(-1),1,27,18,40,32,9,38,20,6,16,29,31,49,19,46,10,25,3,14,8,48,41,30,42,17,51,2,36,11,23,12,5,45,39,50,28,43,7,34,4,22,24,37,47,33,15,44,21,13,35,26,52]:=by
 refine ff_of (q:=53) (k:=1) ⟨by decide,by decide,by decide,by decide,rfl,rfl,?_,by decide⟩ rfl (by decide) (by decide) (by decide) (by kernel_rfl) (by kernel_rfl) (.inl (by kernel_rfl))
 intro i b a
 rcases (show i=0∨i=1 by simp at a;omega) with rfl|rfl<;>decide
theorem ff59:Ff ⟨59,1,[0,1]⟩ 59 [(-1),1,30,20,15,12,10,17,37,46,6,43,5,50,38,4,48,7,23,28,3,45,51,18,32,26,25,35,19,57,2,40,24,34,33,27,41,8,14,56,31,36,52,11,55,21,9,54,16,53,13,22,42,49,47,44,39,29,58]:=by
 refine ff_of (q:=59) (k:=1) ⟨by decide,by decide,by decide,by decide,rfl,rfl,?_,by decide⟩ rfl (by decide) (by decide) (by decide) (by kernel_rfl) (by kernel_rfl) (.inl (by kernel_rfl))
 intro i b a
 rcases (show i=0∨i=1 by simp at a;omega) with rfl|rfl<;>decide
theorem ff61:Ff ⟨61,1,[0,1]⟩ 61 [(-1),1,31,41,46,49,51,35,23,34,55,50,56,47,48,57,42,18,17,45,58,32,25,8,28,22,54,52,24,40,59,2,21,37,9,7,39,33,53,36,29,3,16,44,43,19,4,13,14,5,11,6,27,38,26,10,12,15,20,30,60]:=by
 refine ff_of (q:=61) (k:=1) ⟨by decide,by decide,by decide,by decide,rfl,rfl,?_,by decide⟩ rfl (by decide) (by decide) (by decide) (by kernel_rfl) (by kernel_rfl) (.inl (by kernel_rfl))
 intro i b a
 rcases (show i=0∨i=1 by simp at a;omega) with rfl|rfl<;>decide
theorem ff64:Ff ⟨2,6,[1,1,0,0,0,0,1]⟩ 64 [(-1),1,33,62,49,43,31,44,57,37,52,28,46,40,22,25,61,54,51,39,26,35,14,24,23,15,20,34,11,53,45,6,63,2,27,21,56,9,50,19,13,47,48,5,7,30,12,41,42,4,38,18,10,29,17,60,36,8,59,58,55,16,3,32]:=by
 refine ff_of (q:=64) (k:=6) ⟨by decide,by decide,by decide,by decide,rfl,rfl,?_,by decide⟩ rfl (by decide) (by decide) (by decide) (by kernel_rfl) (by kernel_rfl) (.inr (by kernel_rfl))
 intro i b a
 rcases (show i=0∨i=1∨i=2∨i=3∨i=4∨i=5∨i=6 by simp at a;omega) with rfl|rfl|rfl|rfl|rfl|rfl|rfl<;>decide
theorem Zuu {q:Int} {f:Zd} (h:GF q f):∃ inv,Ff f q inv:=by
 cases h
 ·exact ⟨_,ff2⟩
 ·exact ⟨_,ff3⟩
 ·exact ⟨_,ff4⟩
 ·exact ⟨_,ff5⟩
 ·exact ⟨_,ff7⟩
 ·exact ⟨_,ff8⟩
 ·exact ⟨_,ff9⟩
 ·exact ⟨_,ff11⟩
 ·exact ⟨_,ff13⟩
 ·exact ⟨_,ff16⟩
 ·exact ⟨_,ff17⟩
 ·exact ⟨_,ff19⟩
 ·exact ⟨_,ff23⟩
 ·exact ⟨_,ff25⟩
 ·exact ⟨_,ff27⟩
 ·exact ⟨_,ff29⟩
 ·exact ⟨_,ff31⟩
 ·exact ⟨_,ff32⟩
 ·exact ⟨_,ff37⟩
 ·exact ⟨_,ff41⟩
 ·exact ⟨_,ff43⟩
 ·exact ⟨_,ff47⟩
 ·exact ⟨_,ff49⟩
 ·exact ⟨_,ff53⟩
 ·exact ⟨_,ff59⟩
 ·exact ⟨_,ff61⟩
 ·exact ⟨_,ff64⟩
end Go.Proofs.YtghbgeaammnkcaaGreatDoor
namespace Go.Proofs.YtghbgeaammnkcaaGreatDoor
set_option linter.unusedVariables false
open Go Go.Vc
set_option linter.unusedSimpArgs false
set_option maxRecDepth 20000
structure Made (q:Int) (f:Zd):Prop where
 gf:GF q f
 split:ZbF q=some (f.Prime,f.Degree)
 mks:Zfo q=some f
 mki:ZbU q=some (f,0)
 oks:Zgi f=some true
 oki:Zfl f=some true
 szs:Zbk f=some q
 szi:Zby f=some q
def FldAt (q:Int):Prop:=(∃ f,Made q f)∨(ZbF q=some (0,0)∧∃ e,ZbU q=some (⟨0,0,[]⟩,e))
theorem mk2:FldAt 2:=.inl ⟨_,.f2,Zn (F:=100) _ _ (by kernel_rfl),Z7 (F:=100) _ _ (by kernel_rfl),Zr (F:=100) _ _ (by kernel_rfl),Z8 (F:=100) _ _ (by kernel_rfl),Z4 (F:=100) _ _ (by kernel_rfl),Z9 (F:=100) _ _ (by kernel_rfl),Zaa (F:=100) _ _ (by kernel_rfl)⟩
theorem mk3:FldAt 3:=.inl ⟨_,.f3,Zn (F:=100) _ _ (by kernel_rfl),Z7 (F:=100) _ _ (by kernel_rfl),Zr (F:=100) _ _ (by kernel_rfl),Z8 (F:=100) _ _ (by kernel_rfl),Z4 (F:=100) _ _ (by kernel_rfl),Z9 (F:=100) _ _ (by kernel_rfl),Zaa (F:=100) _ _ (by kernel_rfl)⟩
theorem mk4:FldAt 4:=.inl ⟨_,.f4,Zn (F:=100) _ _ (by kernel_rfl),Z7 (F:=100) _ _ (by kernel_rfl),Zr (F:=100) _ _ (by kernel_rfl),Z8 (F:=100) _ _ (by kernel_rfl),Z4 (F:=100) _ _ (by kernel_rfl),Z9 (F:=100) _ _ (by kernel_rfl),Zaa (F:=100) _ _ (by kernel_rfl)⟩
theorem mk5:FldAt 5:=.inl ⟨_,.f5,Zn (F:=100) _ _ (by kernel_rfl),Z7 (F:=100) _ _ (by kernel_rfl),Zr (F:=100) _ _ (by kernel_rfl),Z8 (F:=100) _ _ (by kernel_rfl),Z4 (F:=100) _ _ (by kernel_rfl),Z9 (F:=100) _ _ (by kernel_rfl),Zaa (F:=100) _ _ (by kernel_rfl)⟩
theorem mk6:FldAt 6:=.inr ⟨Zn (F:=100) _ _ (by kernel_rfl),_,Zr (F:=100) _ (⟨0,0,[]⟩,2) (by kernel_rfl)⟩
theorem mk7:FldAt 7:=.inl ⟨_,.f7,Zn (F:=100) _ _ (by kernel_rfl),Z7 (F:=100) _ _ (by kernel_rfl),Zr (F:=100) _ _ (by kernel_rfl),Z8 (F:=100) _ _ (by kernel_rfl),Z4 (F:=100) _ _ (by kernel_rfl),Z9 (F:=100) _ _ (by kernel_rfl),Zaa (F:=100) _ _ (by kernel_rfl)⟩
theorem mk8:FldAt 8:=.inl ⟨_,.f8,Zn (F:=100) _ _ (by kernel_rfl),Z7 (F:=100) _ _ (by kernel_rfl),Zr (F:=100) _ _ (by kernel_rfl),Z8 (F:=100) _ _ (by kernel_rfl),Z4 (F:=100) _ _ (by kernel_rfl),Z9 (F:=100) _ _ (by kernel_rfl),Zaa (F:=100) _ _ (by kernel_rfl)⟩
theorem mk9:FldAt 9:=.inl ⟨_,.f9,Zn (F:=100) _ _ (by kernel_rfl),Z7 (F:=100) _ _ (by kernel_rfl),Zr (F:=100) _ _ (by kernel_rfl),Z8 (F:=100) _ _ (by kernel_rfl),Z4 (F:=100) _ _ (by kernel_rfl),Z9 (F:=100) _ _ (by kernel_rfl),Zaa (F:=100) _ _ (by kernel_rfl)⟩
theorem mk10:FldAt 10:=.inr ⟨Zn (F:=100) _ _ (by kernel_rfl),_,Zr (F:=100) _ (⟨0,0,[]⟩,2) (by kernel_rfl)⟩
theorem mk11:FldAt 11:=.inl ⟨_,.f11,Zn (F:=100) _ _ (by kernel_rfl),Z7 (F:=100) _ _ (by kernel_rfl),Zr (F:=100) _ _ (by kernel_rfl),Z8 (F:=100) _ _ (by kernel_rfl),Z4 (F:=100) _ _ (by kernel_rfl),Z9 (F:=100) _ _ (by kernel_rfl),Zaa (F:=100) _ _ (by kernel_rfl)⟩
theorem mk12:FldAt 12:=.inr ⟨Zn (F:=100) _ _ (by kernel_rfl),_,Zr (F:=100) _ (⟨0,0,[]⟩,2) (by kernel_rfl)⟩
theorem mk13:FldAt 13:=.inl ⟨_,.f13,Zn (F:=100) _ _ (by kernel_rfl),Z7 (F:=100) _ _ (by kernel_rfl),Zr (F:=100) _ _ (by kernel_rfl),Z8 (F:=100) _ _ (by kernel_rfl),Z4 (F:=100) _ _ (by kernel_rfl),Z9 (F:=100) _ _ (by kernel_rfl),Zaa (F:=100) _ _ (by kernel_rfl)⟩
theorem mk14:FldAt 14:=.inr ⟨Zn (F:=100) _ _ (by kernel_rfl),_,Zr (F:=100) _ (⟨0,0,[]⟩,2) (by kernel_rfl)⟩
theorem mk15:FldAt 15:=.inr ⟨Zn (F:=100) _ _ (by kernel_rfl),_,Zr (F:=100) _ (⟨0,0,[]⟩,2) (by kernel_rfl)⟩
theorem mk16:FldAt 16:=.inl ⟨_,.f16,Zn (F:=100) _ _ (by kernel_rfl),Z7 (F:=100) _ _ (by kernel_rfl),Zr (F:=100) _ _ (by kernel_rfl),Z8 (F:=100) _ _ (by kernel_rfl),Z4 (F:=100) _ _ (by kernel_rfl),Z9 (F:=100) _ _ (by kernel_rfl),Zaa (F:=100) _ _ (by kernel_rfl)⟩
theorem mk17:FldAt 17:=.inl ⟨_,.f17,Zn (F:=100) _ _ (by kernel_rfl),Z7 (F:=100) _ _ (by kernel_rfl),Zr (F:=100) _ _ (by kernel_rfl),Z8 (F:=100) _ _ (by kernel_rfl),Z4 (F:=100) _ _ (by kernel_rfl),Z9 (F:=100) _ _ (by kernel_rfl),Zaa (F:=100) _ _ (by kernel_rfl)⟩
theorem mk18:FldAt 18:=.inr ⟨Zn (F:=100) _ _ (by kernel_rfl),_,Zr (F:=100) _ (⟨0,0,[]⟩,2) (by kernel_rfl)⟩
theorem mk19:FldAt 19:=.inl ⟨_,.f19,Zn (F:=100) _ _ (by kernel_rfl),Z7 (F:=100) _ _ (by kernel_rfl),Zr (F:=100) _ _ (by kernel_rfl),Z8 (F:=100) _ _ (by kernel_rfl),Z4 (F:=100) _ _ (by kernel_rfl),Z9 (F:=100) _ _ (by kernel_rfl),Zaa (F:=100) _ _ (by kernel_rfl)⟩
theorem mk20:FldAt 20:=.inr ⟨Zn (F:=100) _ _ (by kernel_rfl),_,Zr (F:=100) _ (⟨0,0,[]⟩,2) (by kernel_rfl)⟩
theorem mk21:FldAt 21:=.inr ⟨Zn (F:=100) _ _ (by kernel_rfl),_,Zr (F:=100) _ (⟨0,0,[]⟩,2) (by kernel_rfl)⟩
theorem mk22:FldAt 22:=.inr ⟨Zn (F:=100) _ _ (by kernel_rfl),_,Zr (F:=100) _ (⟨0,0,[]⟩,2) (by kernel_rfl)⟩
theorem mk23:FldAt 23:=.inl ⟨_,.f23,Zn (F:=100) _ _ (by kernel_rfl),Z7 (F:=100) _ _ (by kernel_rfl),Zr (F:=100) _ _ (by kernel_rfl),Z8 (F:=100) _ _ (by kernel_rfl),Z4 (F:=100) _ _ (by kernel_rfl),Z9 (F:=100) _ _ (by kernel_rfl),Zaa (F:=100) _ _ (by kernel_rfl)⟩
theorem mk24:FldAt 24:=.inr ⟨Zn (F:=100) _ _ (by kernel_rfl),_,Zr (F:=100) _ (⟨0,0,[]⟩,2) (by kernel_rfl)⟩
theorem mk25:FldAt 25:=.inl ⟨_,.f25,Zn (F:=100) _ _ (by kernel_rfl),Z7 (F:=100) _ _ (by kernel_rfl),Zr (F:=100) _ _ (by kernel_rfl),Z8 (F:=100) _ _ (by kernel_rfl),Z4 (F:=100) _ _ (by kernel_rfl),Z9 (F:=100) _ _ (by kernel_rfl),Zaa (F:=100) _ _ (by kernel_rfl)⟩
theorem mk26:FldAt 26:=.inr ⟨Zn (F:=100) _ _ (by kernel_rfl),_,Zr (F:=100) _ (⟨0,0,[]⟩,2) (by kernel_rfl)⟩
theorem mk27:FldAt 27:=.inl ⟨_,.f27,Zn (F:=100) _ _ (by kernel_rfl),Z7 (F:=100) _ _ (by kernel_rfl),Zr (F:=100) _ _ (by kernel_rfl),Z8 (F:=100) _ _ (by kernel_rfl),Z4 (F:=100) _ _ (by kernel_rfl),Z9 (F:=100) _ _ (by kernel_rfl),Zaa (F:=100) _ _ (by kernel_rfl)⟩
theorem mk28:FldAt 28:=.inr ⟨Zn (F:=100) _ _ (by kernel_rfl),_,Zr (F:=100) _ (⟨0,0,[]⟩,2) (by kernel_rfl)⟩
theorem mk29:FldAt 29:=.inl ⟨_,.f29,Zn (F:=100) _ _ (by kernel_rfl),Z7 (F:=100) _ _ (by kernel_rfl),Zr (F:=100) _ _ (by kernel_rfl),Z8 (F:=100) _ _ (by kernel_rfl),Z4 (F:=100) _ _ (by kernel_rfl),Z9 (F:=100) _ _ (by kernel_rfl),Zaa (F:=100) _ _ (by kernel_rfl)⟩
theorem mk30:FldAt 30:=.inr ⟨Zn (F:=100) _ _ (by kernel_rfl),_,Zr (F:=100) _ (⟨0,0,[]⟩,2) (by kernel_rfl)⟩
theorem mk31:FldAt 31:=.inl ⟨_,.f31,Zn (F:=100) _ _ (by kernel_rfl),Z7 (F:=100) _ _ (by kernel_rfl),Zr (F:=100) _ _ (by kernel_rfl),Z8 (F:=100) _ _ (by kernel_rfl),Z4 (F:=100) _ _ (by kernel_rfl),Z9 (F:=100) _ _ (by kernel_rfl),Zaa (F:=100) _ _ (by kernel_rfl)⟩
theorem mk32:FldAt 32:=.inl ⟨_,.f32,Zn (F:=100) _ _ (by kernel_rfl),Z7 (F:=100) _ _ (by kernel_rfl),Zr (F:=100) _ _ (by kernel_rfl),Z8 (F:=100) _ _ (by kernel_rfl),Z4 (F:=100) _ _ (by kernel_rfl),Z9 (F:=100) _ _ (by kernel_rfl),Zaa (F:=100) _ _ (by kernel_rfl)⟩
theorem mk33:FldAt 33:=.inr ⟨Zn (F:=100) _ _ (by kernel_rfl),_,Zr (F:=100) _ (⟨0,0,[]⟩,2) (by kernel_rfl)⟩
theorem mk34:FldAt 34:=.inr ⟨Zn (F:=100) _ _ (by kernel_rfl),_,Zr (F:=100) _ (⟨0,0,[]⟩,2) (by kernel_rfl)⟩
theorem mk35:FldAt 35:=.inr ⟨Zn (F:=100) _ _ (by kernel_rfl),_,Zr (F:=100) _ (⟨0,0,[]⟩,2) (by kernel_rfl)⟩
theorem mk36:FldAt 36:=.inr ⟨Zn (F:=100) _ _ (by kernel_rfl),_,Zr (F:=100) _ (⟨0,0,[]⟩,2) (by kernel_rfl)⟩
theorem mk37:FldAt 37:=.inl ⟨_,.f37,Zn (F:=100) _ _ (by kernel_rfl),Z7 (F:=100) _ _ (by kernel_rfl),Zr (F:=100) _ _ (by kernel_rfl),Z8 (F:=100) _ _ (by kernel_rfl),Z4 (F:=100) _ _ (by kernel_rfl),Z9 (F:=100) _ _ (by kernel_rfl),Zaa (F:=100) _ _ (by kernel_rfl)⟩
theorem mk38:FldAt 38:=.inr ⟨Zn (F:=100) _ _ (by kernel_rfl),_,Zr (F:=100) _ (⟨0,0,[]⟩,2) (by kernel_rfl)⟩
theorem mk39:FldAt 39:=.inr ⟨Zn (F:=100) _ _ (by kernel_rfl),_,Zr (F:=100) _ (⟨0,0,[]⟩,2) (by kernel_rfl)⟩
theorem mk40:FldAt 40:=.inr ⟨Zn (F:=100) _ _ (by kernel_rfl),_,Zr (F:=100) _ (⟨0,0,[]⟩,2) (by kernel_rfl)⟩
theorem mk41:FldAt 41:=.inl ⟨_,.f41,Zn (F:=100) _ _ (by kernel_rfl),Z7 (F:=100) _ _ (by kernel_rfl),Zr (F:=100) _ _ (by kernel_rfl),Z8 (F:=100) _ _ (by kernel_rfl),Z4 (F:=100) _ _ (by kernel_rfl),Z9 (F:=100) _ _ (by kernel_rfl),Zaa (F:=100) _ _ (by kernel_rfl)⟩
theorem mk42:FldAt 42:=.inr ⟨Zn (F:=100) _ _ (by kernel_rfl),_,Zr (F:=100) _ (⟨0,0,[]⟩,2) (by kernel_rfl)⟩
theorem mk43:FldAt 43:=.inl ⟨_,.f43,Zn (F:=100) _ _ (by kernel_rfl),Z7 (F:=100) _ _ (by kernel_rfl),Zr (F:=100) _ _ (by kernel_rfl),Z8 (F:=100) _ _ (by kernel_rfl),Z4 (F:=100) _ _ (by kernel_rfl),Z9 (F:=100) _ _ (by kernel_rfl),Zaa (F:=100) _ _ (by kernel_rfl)⟩
theorem mk44:FldAt 44:=.inr ⟨Zn (F:=100) _ _ (by kernel_rfl),_,Zr (F:=100) _ (⟨0,0,[]⟩,2) (by kernel_rfl)⟩
theorem mk45:FldAt 45:=.inr ⟨Zn (F:=100) _ _ (by kernel_rfl),_,Zr (F:=100) _ (⟨0,0,[]⟩,2) (by kernel_rfl)⟩
theorem mk46:FldAt 46:=.inr ⟨Zn (F:=100) _ _ (by kernel_rfl),_,Zr (F:=100) _ (⟨0,0,[]⟩,2) (by kernel_rfl)⟩
theorem mk47:FldAt 47:=.inl ⟨_,.f47,Zn (F:=100) _ _ (by kernel_rfl),Z7 (F:=100) _ _ (by kernel_rfl),Zr (F:=100) _ _ (by kernel_rfl),Z8 (F:=100) _ _ (by kernel_rfl),Z4 (F:=100) _ _ (by kernel_rfl),Z9 (F:=100) _ _ (by kernel_rfl),Zaa (F:=100) _ _ (by kernel_rfl)⟩
theorem mk48:FldAt 48:=.inr ⟨Zn (F:=100) _ _ (by kernel_rfl),_,Zr (F:=100) _ (⟨0,0,[]⟩,2) (by kernel_rfl)⟩
theorem mk49:FldAt 49:=.inl ⟨_,.f49,Zn (F:=100) _ _ (by kernel_rfl),Z7 (F:=100) _ _ (by kernel_rfl),Zr (F:=100) _ _ (by kernel_rfl),Z8 (F:=100) _ _ (by kernel_rfl),Z4 (F:=100) _ _ (by kernel_rfl),Z9 (F:=100) _ _ (by kernel_rfl),Zaa (F:=100) _ _ (by kernel_rfl)⟩
theorem mk50:FldAt 50:=.inr ⟨Zn (F:=100) _ _ (by kernel_rfl),_,Zr (F:=100) _ (⟨0,0,[]⟩,2) (by kernel_rfl)⟩
theorem mk51:FldAt 51:=.inr ⟨Zn (F:=100) _ _ (by kernel_rfl),_,Zr (F:=100) _ (⟨0,0,[]⟩,2) (by kernel_rfl)⟩
theorem mk52:FldAt 52:=.inr ⟨Zn (F:=100) _ _ (by kernel_rfl),_,Zr (F:=100) _ (⟨0,0,[]⟩,2) (by kernel_rfl)⟩
theorem mk53:FldAt 53:=.inl ⟨_,.f53,Zn (F:=100) _ _ (by kernel_rfl),Z7 (F:=100) _ _ (by kernel_rfl),Zr (F:=100) _ _ (by kernel_rfl),Z8 (F:=100) _ _ (by kernel_rfl),Z4 (F:=100) _ _ (by kernel_rfl),Z9 (F:=100) _ _ (by kernel_rfl),Zaa (F:=100) _ _ (by kernel_rfl)⟩
theorem mk54:FldAt 54:=.inr ⟨Zn (F:=100) _ _ (by kernel_rfl),_,Zr (F:=100) _ (⟨0,0,[]⟩,2) (by kernel_rfl)⟩
theorem mk55:FldAt 55:=.inr ⟨Zn (F:=100) _ _ (by kernel_rfl),_,Zr (F:=100) _ (⟨0,0,[]⟩,2) (by kernel_rfl)⟩
theorem mk56:FldAt 56:=.inr ⟨Zn (F:=100) _ _ (by kernel_rfl),_,Zr (F:=100) _ (⟨0,0,[]⟩,2) (by kernel_rfl)⟩
theorem mk57:FldAt 57:=.inr ⟨Zn (F:=100) _ _ (by kernel_rfl),_,Zr (F:=100) _ (⟨0,0,[]⟩,2) (by kernel_rfl)⟩
theorem mk58:FldAt 58:=.inr ⟨Zn (F:=100) _ _ (by kernel_rfl),_,Zr (F:=100) _ (⟨0,0,[]⟩,2) (by kernel_rfl)⟩
theorem mk59:FldAt 59:=.inl ⟨_,.f59,Zn (F:=100) _ _ (by kernel_rfl),Z7 (F:=100) _ _ (by kernel_rfl),Zr (F:=100) _ _ (by kernel_rfl),Z8 (F:=100) _ _ (by kernel_rfl),Z4 (F:=100) _ _ (by kernel_rfl),Z9 (F:=100) _ _ (by kernel_rfl),Zaa (F:=100) _ _ (by kernel_rfl)⟩
theorem mk60:FldAt 60:=.inr ⟨Zn (F:=100) _ _ (by kernel_rfl),_,Zr (F:=100) _ (⟨0,0,[]⟩,2) (by kernel_rfl)⟩
theorem mk61:FldAt 61:=.inl ⟨_,.f61,Zn (F:=100) _ _ (by kernel_rfl),Z7 (F:=100) _ _ (by kernel_rfl),Zr (F:=100) _ _ (by kernel_rfl),Z8 (F:=100) _ _ (by kernel_rfl),Z4 (F:=100) _ _ (by kernel_rfl),Z9 (F:=100) _ _ (by kernel_rfl),Zaa (F:=100) _ _ (by kernel_rfl)⟩
theorem mk62:FldAt 62:=.inr ⟨Zn (F:=100) _ _ (by kernel_rfl),_,Zr (F:=100) _ (⟨0,0,[]⟩,2) (by kernel_rfl)⟩
theorem mk63:FldAt 63:=.inr ⟨Zn (F:=100) _ _ (by kernel_rfl),_,Zr (F:=100) _ (⟨0,0,[]⟩,2) (by kernel_rfl)⟩
theorem mk64:FldAt 64:=.inl ⟨_,.f64,Zn (F:=100) _ _ (by kernel_rfl),Z7 (F:=100) _ _ (by kernel_rfl),Zr (F:=100) _ _ (by kernel_rfl),Z8 (F:=100) _ _ (by kernel_rfl),Z4 (F:=100) _ _ (by kernel_rfl),Z9 (F:=100) _ _ (by kernel_rfl),Zaa (F:=100) _ _ (by kernel_rfl)⟩
theorem ZFC {ρ:Type} {B:Int→Option (Int ⊕ ρ)} {i n:Int} (hi:i≤n) (h:∀ k,i≤k→k<n→(∃ r,B k=some (.inr r))∨B k=some (.inl (k+1))) (he:∃ r,B n=some (.inr r)):∃ r,loop B i=some r:=by
 have key:∀ (d:Nat) (k:Int),k+d=n→i≤k→∃ r,loop B k=some r:=by
  intro d
  induction d with
  | zero=>intro k hk _;obtain rfl:k=n:=(by omega);obtain ⟨r,hr⟩:=he;exact ⟨r,Zc hr⟩
  | succ d ih=>
   intro k hk hik
   rcases h k hik (by omega) with ⟨r,hr⟩|hr
   ·exact ⟨r,Zc hr⟩
   ·rw [ZL hr];exact ih (k+1) (by omega) (by omega)
 exact key (n-i).toNat i (by omega) (by omega)
theorem ZnP {l:Nat} {n:Int} (a:1≤n) (h:pwN 2 l*n≤1000000):l≤20:=by
 by_cases hl:l≤20
 ·exact hl
 ·exfalso
  have b:=ZlG (p:=2) (by omega) (m:=20) (l-20)
  rw [show 20+(l-20)=l by omega] at b
  have c:pwN 2 20=1048576:=by decide
  have e:pwN 2 l*1≤pwN 2 l*n:=Int.mul_le_mul_of_nonneg_left a (by omega)
  omega
theorem Zt3 {p:Int} (hp:2≤p) (f:p≤1000):∀ (d:Nat) (n:Int) (fs:List Int),n≤d→1≤n→pwN 2 fs.length*n≤1000000→∃ n' fs',loop (Zdt p) (n,fs)=some (.inl (n',fs',p+1))∧1≤n'∧n'≤n∧pwN 2 fs'.length*n'≤1000000
 | 0,n,fs,h,e,_=>by omega
 | d+1,n,fs,h,e,g=>by
  have hl:=ZnP e g
  have i:=Int.tmod_eq_emod_of_nonneg (b:=p) (a:=n) (by omega)
  have l:=Int.tdiv_eq_ediv_of_nonneg (b:=p) (a:=n) (by omega)
  have hpos:=ZaQ (p:=2) (by omega) fs.length
  by_cases hm:n%p=0
  ·have m:p*(n/p)=n:=Int.mul_ediv_cancel' (Int.dvd_of_emod_eq_zero hm)
   have j:0≤n/p:=Int.ediv_nonneg (by omega) (by omega)
   have k:1≤n/p:=by
    by_cases o:n/p=0
    ·rw [o] at m;omega
    ·omega
   have v:2*(n/p)≤p*(n/p):=Int.mul_le_mul_of_nonneg_right hp j
   have hpw:pwN 2 (fs++[p]).length*(n/p)≤1000000:=by
    rw [List.length_append]
    show pwN 2 fs.length*2*(n/p)≤_
    rw [Int.mul_assoc]
    have:pwN 2 fs.length*(2*(n/p))≤pwN 2 fs.length*n:=Int.mul_le_mul_of_nonneg_left (by omega) (by omega)
    omega
   have r:n≤1000000:=by
    have:=Int.mul_le_mul_of_nonneg_right (a:=1) (b:=pwN 2 fs.length) (c:=n) hpos (by omega)
    omega
   obtain ⟨n',fs',s,t,w,u⟩:=Zt3 hp f d (n/p) (fs++[p]) (by omega) k hpw
   refine ⟨n',fs',?_,t,by omega,u⟩
   rw [←s]
   refine ZL ?_
   have hz:n.tmod p=0:=by rw [i];exact hm
   simp (disch:=omega) only [pz,Zdt,hz,l,gApp1]
  ·have r:n≤1000000:=by
    have:=Int.mul_le_mul_of_nonneg_right (a:=1) (b:=pwN 2 fs.length) (c:=n) hpos (by omega)
    omega
   refine ⟨n,fs,Zc ?_,e,by omega,g⟩
   have hz:¬ n.tmod p=0:=by rw [i];exact hm
   simp (disch:=omega) only [pz,Zdt,hz]
theorem ZyM:∀ (d:Nat) (n:Int) (fs:List Int) (p:Int),1001-p≤d→2≤p→p≤1001→1≤n→n≤1000000→pwN 2 fs.length*n≤1000000→∃ r:List Int,loop Zbq (n,fs,p)=some r∧r.length≤21:=by
 intro d
 induction d with
 | zero=>
  intro n fs p g hp a b i c
  have hl:=ZnP b c
  obtain rfl:p=1001:=by omega
  by_cases h:1<n
  ·refine ⟨fs++[n],Zc ?_,by simp;omega⟩
   simp (disch:=omega) only [pz,Zbq,gApp1]
  ·refine ⟨fs,Zc ?_,by omega⟩
   simp (disch:=omega) only [pz,Zbq]
 | succ d ih=>
  intro n fs p g hp a b i c
  have hl:=ZnP b c
  have hpp:0≤p*p∧p*p≤1002001:=by
   refine ⟨Int.mul_nonneg (by omega) (by omega),?_⟩
   have:=Int.mul_le_mul a a (by omega) (by omega)
   omega
  by_cases m:p*p≤n
  ·have e:p≤1000:=by
    by_cases h:p≤1000
    ·exact h
    ·have:(1001:Int)*1001≤p*p:=Int.mul_le_mul (by omega) (by omega) (by omega) (by omega)
     omega
   obtain ⟨n',fs',j,k,o,l⟩:=Zt3 hp e n.toNat n fs (by omega) b c
   obtain ⟨r,hr,f⟩:=ih n' fs' (p+1) (by omega) (by omega) (by omega) k (by omega) l
   refine ⟨r,?_,f⟩
   rw [←hr]
   refine ZL ?_
   simp (disch:=omega) only [pz,Zbq,j]
  ·by_cases h:1<n
   ·refine ⟨fs++[n],Zc ?_,by simp;omega⟩
    simp (disch:=omega) only [pz,Zbq,gApp1]
   ·refine ⟨fs,Zc ?_,by omega⟩
    simp (disch:=omega) only [pz,Zbq]
theorem Zva (n:Int):∃ r:List Int,Zb4 n=some r∧r.length≤21:=by
 unfold Zb4 Z2
 by_cases b:1≤n
 ·by_cases c:n≤1000000
  ·obtain ⟨r,hr,a⟩:=ZyM 1001 n [] 2 (by omega) (by omega) (by omega) b c (by show 1*n≤_;omega)
   refine ⟨r,?_,a⟩
   rw [←hr]
   simp (disch:=omega) only [pz,]
  ·refine ⟨[],?_,by simp⟩
   simp (disch:=omega) only [pz,]
 ·refine ⟨[],?_,by simp⟩
  simp (disch:=omega) only [pz,]
theorem Zzf (n:Int):∃ r:Int×Int,Zb1 n=some r:=by
 unfold Zb1
 obtain ⟨l,hl,a⟩:=Zva n
 rw [hl]
 show ∃ r,loop (ZbM l) 0=some r
 refine ZFC (n:=l.length) (by omega) ?_ ?_
 ·intro k b k1
  by_cases h:ix l k=ix l 0
  ·refine .inr ?_
   simp (disch:=omega) only [pz,ZbM,h]
  ·refine .inl ⟨(0,0),?_⟩
   simp (disch:=omega) only [pz,ZbM,h]
 ·by_cases h:l.length=0
  ·refine ⟨(0,0),?_⟩
   simp (disch:=omega) only [pz,ZbM]
  ·refine ⟨(ix l 0,l.length),?_⟩
   simp (disch:=omega) only [pz,ZbM,ZH]
theorem Zru (q:Int):FldAt q:=by
 by_cases h:2≤q∧q≤64
 ·obtain ⟨a,b⟩:=h
  obtain ⟨n,rfl⟩:∃ n:Nat,q=(n:Int):=⟨q.toNat,by omega⟩
  have g:n<65:=by omega
  have f:2≤n:=by omega
  clear a b
  revert n
  have key:∀ n:Nat,n<65→2≤n→FldAt (n:Int):=by
   intro n a b
   match n,a,b with
   | 0,_,h=>omega
   | 1,_,h=>omega
   | 2,_,_=>exact mk2
   | 3,_,_=>exact mk3
   | 4,_,_=>exact mk4
   | 5,_,_=>exact mk5
   | 6,_,_=>exact mk6
   | 7,_,_=>exact mk7
   | 8,_,_=>exact mk8
   | 9,_,_=>exact mk9
   | 10,_,_=>exact mk10
   | 11,_,_=>exact mk11
   | 12,_,_=>exact mk12
   | 13,_,_=>exact mk13
   | 14,_,_=>exact mk14
   | 15,_,_=>exact mk15
   | 16,_,_=>exact mk16
   | 17,_,_=>exact mk17
   | 18,_,_=>exact mk18
   | 19,_,_=>exact mk19
   | 20,_,_=>exact mk20
   | 21,_,_=>exact mk21
   | 22,_,_=>exact mk22
   | 23,_,_=>exact mk23
   | 24,_,_=>exact mk24
   | 25,_,_=>exact mk25
   | 26,_,_=>exact mk26
   | 27,_,_=>exact mk27
   | 28,_,_=>exact mk28
   | 29,_,_=>exact mk29
   | 30,_,_=>exact mk30
   | 31,_,_=>exact mk31
   | 32,_,_=>exact mk32
   | 33,_,_=>exact mk33
   | 34,_,_=>exact mk34
   | 35,_,_=>exact mk35
   | 36,_,_=>exact mk36
   | 37,_,_=>exact mk37
   | 38,_,_=>exact mk38
   | 39,_,_=>exact mk39
   | 40,_,_=>exact mk40
   | 41,_,_=>exact mk41
   | 42,_,_=>exact mk42
   | 43,_,_=>exact mk43
   | 44,_,_=>exact mk44
   | 45,_,_=>exact mk45
   | 46,_,_=>exact mk46
   | 47,_,_=>exact mk47
   | 48,_,_=>exact mk48
   | 49,_,_=>exact mk49
   | 50,_,_=>exact mk50
   | 51,_,_=>exact mk51
   | 52,_,_=>exact mk52
   | 53,_,_=>exact mk53
   | 54,_,_=>exact mk54
   | 55,_,_=>exact mk55
   | 56,_,_=>exact mk56
   | 57,_,_=>exact mk57
   | 58,_,_=>exact mk58
   | 59,_,_=>exact mk59
   | 60,_,_=>exact mk60
   | 61,_,_=>exact mk61
   | 62,_,_=>exact mk62
   | 63,_,_=>exact mk63
   | 64,_,_=>exact mk64
   | n+65,h,_=>omega
  exact key
 ·refine .inr ⟨?_,?_⟩
  ·unfold ZbF ZR
   by_cases a:2≤q
   ·simp (disch:=omega) only [pz,]
   ·simp (disch:=omega) only [pz,]
  ·obtain ⟨r,hr⟩:=Zzf q
   by_cases a:64<q
   ·refine ⟨2,?_⟩
    unfold ZbU
    rw [hr]
    by_cases c:r.1=0
    ·simp (disch:=omega) only [pz,c]
    ·simp (disch:=omega) only [pz,c]
   ·have hz:Zb1 q=some (0,0):=by
     by_cases b:1≤q
     ·obtain rfl:q=1:=by omega
      have:ZbU 1=some (⟨0,0,[]⟩,2):=Zr (F:=100) _ _ (by kernel_rfl)
      exact Zr7 (F:=100) _ _ (by kernel_rfl)
     ·unfold Zb1 Zb4 Z2
      have e:loop (ZbM []) 0=some (0,0):=by
       refine Zc ?_
       rfl
      simp (disch:=omega) only [pz,e]
    refine ⟨2,?_⟩
    unfold ZbU
    rw [hz]
    rfl
end Go.Proofs.YtghbgeaammnkcaaGreatDoor
