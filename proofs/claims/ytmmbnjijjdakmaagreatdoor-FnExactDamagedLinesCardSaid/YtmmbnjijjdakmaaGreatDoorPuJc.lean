import Derived.Test.YtmmbnjijjdakmaaGreatDoorPuJb
import Derived.MapKept
namespace Go.Proofs.YtmmbnjijjdakmaaGreatDoor
open Go Go.Vc
set_option linter.unusedSimpArgs false
set_option linter.unusedVariables false
theorem Zys {n:Int} (h0:0≤n) (h1:n≤32):Zf3 n=some (idP n):=by
 unfold Zf3
 have hgo:=ZA (B:=Zet n) (fun k=>(idP k,k)) (i:=0) (n:=n) h0 fun k a b=>by
  have hl:=Zbz k
  have e:idP (k+1)=idP k++[k]:=ZeA a
  simp (disch:=omega) only [pz,Zet,e]
 have e0:(([]:List Int),(0:Int))=(fun k:Int=>(idP k,k)) 0:=rfl
 rw [e0,hgo]
 exact Zc (by simp (disch:=omega) only [pz,Zet])
theorem Zzx {n:Int} (h0:0≤n) (h1:n≤32):ZhY n=some (idP n):=by
 unfold ZhY
 have hmk:=ZdO (b:=8) (z:=(0:Int)) h0 (by omega) (by omega)
 rw [hmk]
 simp only [Option.bind_some]
 have hrl:((List.replicate n.toNat (0:Int)).length:Int)=n:=by rw [List.length_replicate];omega
 have hgo:=ZA (B:=ZeI (List.replicate n.toNat 0)) (fun k=>(k,idP k++List.replicate (n-k).toNat 0)) (i:=0) (n:=n) h0 fun k a b=>by
  have hl:=Zbz k
  have e:idP (k+1)=idP k++[k]:=ZeA a
  have er:List.replicate (n-k).toNat (0:Int)=0::List.replicate (n-(k+1)).toNat 0:=by
   rw [show (n-k).toNat=(n-(k+1)).toNat+1 by omega,List.replicate_succ]
  have hk:k=((idP k).length:Int):=by rw [hl];omega
  have hll:((idP k++(0:Int)::List.replicate (n-(k+1)).toNat 0).length:Int)=n:=by rw [List.length_append,hl,List.length_cons,List.length_replicate];omega
  rw [er]
  simp (disch:=omega) only [pz,ZeI]
  rw [setMid hk,←e]
 have e0:((0:Int),List.replicate n.toNat (0:Int))=(fun k:Int=>(k,idP k++List.replicate (n-k).toNat (0:Int))) 0:=by
  show _=((0:Int),idP 0++List.replicate (n-0).toNat (0:Int))
  rw [Int.sub_zero];rfl
 rw [e0,hgo]
 refine Zc ?_
 have:(n-n).toNat=0:=by omega
 simp (disch:=omega) only [pz,ZeI,this]
 simp
theorem Zqi {p g:List Int} {k:Int} (a:0≤k) (b:k<(p.length:Int)):cmpP (p.take (k+1).toNat) g=cmpP (p.take k.toNat) g++[ix g (ix p k)]:=by
 unfold cmpP
 rw [Zbo a b,List.map_append];rfl
theorem ZAE {p g:List Int} (hl:(p.length:Int)≤1048576) (hr:∀ x∈p,0≤x∧x<(g.length:Int)):Zhy p g=some (cmpP p g):=by
 unfold Zhy
 have hgo:=ZA (B:=Zfv p g) (fun k=>(cmpP (p.take k.toNat) g,k)) (i:=0) (n:=p.length) (by omega) fun k a b=>by
  have h:=hr _ (ZK a b)
  have hcl:(cmpP (p.take k.toNat) g).length≤1048576:=by rw [Zhn,List.length_take];omega
  simp (disch:=omega) only [pz,Zfv,Zqi a b]
 have e0:(([]:List Int),(0:Int))=(fun k:Int=>(cmpP (p.take k.toNat) g,k)) 0:=rfl
 rw [e0,hgo]
 refine Zc ?_
 simp (disch:=omega) only [pz,Zfv]
theorem ZzA {p g:List Int} (hl:(p.length:Int)≤1048576) (hr:∀ x∈p,0≤x∧x<(g.length:Int)):Zho p g=some (cmpP p g):=by
 unfold Zho
 have hmk:=ZnS (b:=8) (n:=p.length) (z:=(0:Int)) (by omega) (by omega)
 rw [hmk]
 simp only [Option.bind_some]
 have hgo:=ZA (B:=ZeK p g (List.replicate p.length 0)) (fun k=>(k,cmpP (p.take k.toNat) g++List.replicate (p.length-k.toNat) 0)) (i:=0) (n:=p.length) (by omega) fun k a b=>by
  have h:=hr _ (ZK a b)
  have hcl:(cmpP (p.take k.toNat) g).length=k.toNat:=by rw [Zhn,List.length_take];omega
  have er:List.replicate (p.length-k.toNat) (0:Int)=0::List.replicate (p.length-(k+1).toNat) 0:=by
   rw [show p.length-k.toNat=(p.length-(k+1).toNat)+1 by omega,List.replicate_succ]
  have hk:k=((cmpP (p.take k.toNat) g).length:Int):=by rw [hcl];omega
  have hll:((cmpP (p.take k.toNat) g++(0:Int)::List.replicate (p.length-(k+1).toNat) 0).length:Int)=p.length:=by rw [List.length_append,hcl,List.length_cons,List.length_replicate];omega
  have hrl:((List.replicate p.length (0:Int)).length:Int)=p.length:=by rw [List.length_replicate]
  rw [er]
  simp (disch:=omega) only [pz,ZeK]
  rw [setMid hk,Zqi a b]
 have e0:((0:Int),List.replicate p.length (0:Int))=(fun k:Int=>(k,cmpP (p.take k.toNat) g++List.replicate (p.length-k.toNat) (0:Int))) 0:=rfl
 rw [e0,hgo]
 refine Zc ?_
 have hrl:((List.replicate p.length (0:Int)).length:Int)=p.length:=by rw [List.length_replicate]
 simp (disch:=omega) only [pz,ZeK]
 simp
theorem u8_of {x:Int} (h0:0≤x) (h1:x≤255):IntKind.u8.wrap x=x:=by
 have:IntKind.u8.wrap x=x%256:=rfl
 rw [this];omega
theorem Zrl {p:List Int} (hl:(p.length:Int)≤1048576) (hr:∀ x∈p,0≤x∧x≤255):Zfs p=some (bstr p):=by
 unfold Zfs
 have hmk:=ZnS (b:=1) (n:=p.length) (z:=(0:Int)) (by omega) (by omega)
 rw [hmk]
 simp only [Option.bind_some]
 have hgo:=ZA (B:=Ze8 p) (fun k=>(k,p.take k.toNat++List.replicate (p.length-k.toNat) 0)) (i:=0) (n:=p.length) (by omega) fun k a b=>by
  have h:=hr _ (ZK a b)
  have hcl:(p.take k.toNat).length=k.toNat:=by rw [List.length_take];omega
  have er:List.replicate (p.length-k.toNat) (0:Int)=0::List.replicate (p.length-(k+1).toNat) 0:=by
   rw [show p.length-k.toNat=(p.length-(k+1).toNat)+1 by omega,List.replicate_succ]
  have hk:k=((p.take k.toNat).length:Int):=by rw [hcl];omega
  have hll:((p.take k.toNat++(0:Int)::List.replicate (p.length-(k+1).toNat) 0).length:Int)=p.length:=by rw [List.length_append,hcl,List.length_cons,List.length_replicate];omega
  rw [er]
  simp (disch:=omega) only [pz,Ze8,u8_of h.1 h.2]
  rw [setMid hk,Zbo a b]
 have e0:((0:Int),List.replicate p.length (0:Int))=(fun k:Int=>(k,p.take k.toNat++List.replicate (p.length-k.toNat) (0:Int))) 0:=rfl
 rw [e0,hgo]
 refine Zc ?_
 have e1:p.take ((p.length:Int)).toNat++List.replicate (p.length-((p.length:Int)).toNat) (0:Int)=p:=by rw [Int.toNat_natCast,List.take_length];simp
 have hg:gByt p=some (bstr p):=by unfold gByt;rw [if_pos hr]
 rw [e1]
 simp (disch:=omega) only [pz,Ze8,hg]
theorem Zpf {p q:List Int} (hp:∀ x∈p,0≤x∧x≤255) (hq:∀ x∈q,0≤x∧x≤255) (h:bstr p=bstr q):p=q:=by
 have key:∀ (a b:List Int),(∀ x∈a,0≤x∧x≤255)→(∀ x∈b,0≤x∧x≤255)→a.map (fun n=>UInt8.ofNat n.toNat)=b.map (fun n=>UInt8.ofNat n.toNat)→a=b:=by
  intro a
  induction a with
  | nil=>intro b _ _ h;cases b with|nil=>rfl|cons _ _=>simp at h
  | cons x a ih=>
   intro b ha hb h
   cases b with
   | nil=>simp at h
   | cons y b=>
    simp only [List.map_cons,List.cons.injEq] at h
    have hx:=ha x (by simp)
    have hy:=hb y (by simp)
    have e:x=y:=by
     have e1:=congrArg UInt8.toNat h.1
     simp at e1
     omega
    rw [e,ih b (fun z hz=>ha z (by simp [hz])) (fun z hz=>hb z (by simp [hz])) h.2]
 unfold bstr at h
 have h1:(p.map (fun n=>UInt8.ofNat n.toNat)).toArray=(q.map (fun n=>UInt8.ofNat n.toNat)).toArray:=by
  have:=congrArg ByteArray.data h
  exact this
 exact key p q hp hq (by simpa using h1)
def Byt (p:List Int):Prop:=∀ x∈p,0≤x∧x≤255
def keysOf (q:List (List Int)):List (ByteArray×Bool):=q.map fun p=>(bstr p,true)
theorem ZmE (a b:ByteArray):(a==b)=true↔a=b:=MapKept.bytes_beq a b
theorem ZqA {p:List Int} (hp:Byt p):∀ {q:List (List Int)},(∀ x∈q,Byt x)→mpGet (keysOf q) (bstr p) false=decide (p∈q)
 | [],_=>by simp [keysOf,mpGet]
 | x::q,h=>by
  have ih:=ZqA hp (q:=q) fun y hy=>h y (by simp [hy])
  unfold keysOf at *
  rw [List.map_cons,mpGet,ih]
  by_cases he:p=x
  ·subst he
   rw [(ZmE _ _).2 rfl];simp
  ·have:(bstr p==bstr x)=false:=by
    cases hb:bstr p==bstr x with
    | false=>rfl
    | true=>exact absurd (Zpf hp (h x (by simp)) ((ZmE _ _).1 hb)) he
   rw [this]
   simp [he]
theorem Zq0 {p:List Int} (hp:Byt p):∀ {q:List (List Int)},(∀ x∈q,Byt x)→p∉q→mpSet (keysOf q) (bstr p) true=keysOf (q++[p])
 | [],_,_=>rfl
 | x::q,h,hn=>by
  have ih:=Zq0 hp (q:=q) (fun y hy=>h y (by simp [hy])) (fun hh=>hn (by simp [hh]))
  unfold keysOf at *
  rw [List.map_cons,mpSet,ih]
  have:(bstr p==bstr x)=false:=by
   cases hb:bstr p==bstr x with
   | false=>rfl
   | true=>exact absurd (by rw [Zpf hp (h x (by simp)) ((ZmE _ _).1 hb)];simp) hn
  rw [this];rfl
end Go.Proofs.YtmmbnjijjdakmaaGreatDoor
namespace Go.Proofs.YtmmbnjijjdakmaaGreatDoor
set_option linter.unusedVariables false
open Go Go.Vc
set_option linter.unusedSimpArgs false
def StrictL (l:List (List Int)):Prop:=∀ i j,0≤i→i<j→j<(l.length:Int)→cmpL (ix l i) (ix l j)<0
theorem ZkB {q:List (List Int)} (hn:q.Nodup):StrictL (sortRows q):=by
 intro i j h0 h1 h2
 have hs:=ZmI q
 have hnd:(sortRows q).Nodup:=(Zgd q).nodup_iff.2 hn
 have gi:=Zap (xs:=sortRows q) (i:=i) h0 (by omega)
 have gj:=Zap (xs:=sortRows q) (i:=j) (by omega) h2
 have li:i.toNat<(sortRows q).length:=by omega
 have lj:j.toNat<(sortRows q).length:=by omega
 rw [List.getElem?_eq_getElem li] at gi
 rw [List.getElem?_eq_getElem lj] at gj
 have gi:=Option.some.inj gi
 have gj:=Option.some.inj gj
 have hle:=List.pairwise_iff_getElem.1 hs i.toNat j.toNat li lj (by omega)
 rw [gi,gj,Ze4] at hle
 have hne:=List.pairwise_iff_getElem.1 hnd i.toNat j.toNat li lj (by omega)
 rw [gi,gj] at hne
 have:=(Zcn (ix (sortRows q) i) (ix (sortRows q) j))
 rcases Int.lt_or_le (cmpL (ix (sortRows q) i) (ix (sortRows q) j)) 0 with h|h
 ·exact h
 ·exact absurd (this.1 (by omega)) hne
theorem ZrS {l:List (List Int)} {p:List Int} (hs:StrictL l) (hl:(l.length:Int)≤1048576) (hr:∀ x∈l,(x.length:Int)≤1048576):
  (∃ k,Zda l p=some (k,true)∧p∈l)∨∃ k,Zda l p=some (k,false)∧p∉l∧0≤k∧k≤(l.length:Int)∧(∀ j,0≤j→j<k→cmpL (ix l j) p<0)∧∀ j,k≤j→j<(l.length:Int)→0<cmpL (ix l j) p:=by
 unfold Zda
 have key:∀ (d:Nat) (lo hi:Int),(hi-lo).toNat≤d→0≤lo→lo≤hi→hi≤(l.length:Int)→(∀ j,0≤j→j<lo→cmpL (ix l j) p<0)→(∀ j,hi≤j→j<(l.length:Int)→0<cmpL (ix l j) p) →
   (∃ k,loop (Zbe l p) (lo,hi)=some (k,true)∧p∈l)∨∃ k,loop (Zbe l p) (lo,hi)=some (k,false)∧p∉l∧0≤k∧k≤(l.length:Int)∧(∀ j,0≤j→j<k→cmpL (ix l j) p<0)∧∀ j,k≤j→j<(l.length:Int)→0<cmpL (ix l j) p:=by
  intro d
  induction d with
  | zero=>
   intro lo hi hd h0 h1 h2 h3 h4
   obtain rfl:lo=hi:=by omega
   refine .inr ⟨lo,Zc (by simp (disch:=omega) only [pz,Zbe]),fun hm=>?_,h0,h2,h3,h4⟩
   obtain ⟨i,a,b,rfl⟩:=Z4 hm
   have e:=(Zcn (ix l i) (ix l i)).2 rfl
   rcases Int.lt_or_le i lo with c|c
   ·have:=h3 i a c;omega
   ·have:=h4 i c b;omega
  | succ d ih=>
   intro lo hi hd h0 h1 h2 h3 h4
   by_cases hlt:lo<hi
   ·have hm:Int.tdiv (lo+hi) 2=(lo+hi)/2:=Int.tdiv_eq_ediv_of_nonneg (by omega)
    have hmid:lo≤(lo+hi)/2∧(lo+hi)/2<hi:=by omega
    have hrow:=hr (ix l ((lo+hi)/2)) (ZK (by omega) (by omega))
    have hc:=Zga (a:=ix l ((lo+hi)/2)) (b:=p) (by omega)
    rcases ZpC (ix l ((lo+hi)/2)) p with e|e|e
    ·have hB:Zbe l p (lo,hi)=some (.inl ((lo+hi)/2+1,hi)):=by simp (disch:=omega) only [pz,Zbe,hm,hc]
     rw [ZI hB]
     refine ih _ _ (by omega) (by omega) (by omega) h2 (fun j a b=>?_) h4
     by_cases hj:j=(lo+hi)/2
     ·rw [hj,e];omega
     ·have:=hs j ((lo+hi)/2) a (by omega) (by omega)
      exact ZeH _ _ _ this (by omega)
    ·have hB:Zbe l p (lo,hi)=some (.inr ((lo+hi)/2,true)):=by simp (disch:=omega) only [pz,Zbe,hm,hc]
     refine .inl ⟨_,Zc hB,?_⟩
     rw [←(Zcn _ _).1 e]
     exact ZK (by omega) (by omega)
    ·have hB:Zbe l p (lo,hi)=some (.inl (lo,(lo+hi)/2)):=by simp (disch:=omega) only [pz,Zbe,hm,hc]
     rw [ZI hB]
     refine ih _ _ (by omega) h0 (by omega) (by omega) h3 fun j a b=>?_
     by_cases hj:j=(lo+hi)/2
     ·rw [hj,e];omega
     ·have h5:=hs ((lo+hi)/2) j (by omega) (by omega) b
      have n1:=Zdl (ix l ((lo+hi)/2)) (ix l j)
      have n2:=Zdl (ix l ((lo+hi)/2)) p
      have n3:=Zdl (ix l j) p
      have:=ZeH p (ix l ((lo+hi)/2)) (ix l j) (by omega) h5
      omega
   ·exact ih lo hi (by omega) h0 h1 h2 h3 h4
 exact key _ 0 l.length (Nat.le_refl _) (by omega) (by omega) (by omega) (fun j a b=>by omega) fun j a b=>by omega
theorem ZsM {lo hi:Int} (h0:0≤lo) (h1:lo≤hi) (h2:hi≤1048576):IntKind.i64.wrap (Int.fdiv (IntKind.u64.wrap (IntKind.i64.wrap (lo+hi))) (2^min (1:Int).toNat IntKind.u64.bits))=(lo+hi)/2:=by
 have e1:IntKind.i64.wrap (lo+hi)=lo+hi:=wr64 (by omega) (by omega)
 have e2:IntKind.u64.wrap (lo+hi)=lo+hi:=by
  have:IntKind.u64.wrap (lo+hi)=(lo+hi)%18446744073709551616:=rfl
  rw [this];omega
 have e3:(2:Int)^min (1:Int).toNat IntKind.u64.bits=2:=rfl
 rw [e1,e2,e3,Int.fdiv_eq_ediv_of_nonneg _ (by omega),wr64 (by omega) (by omega)]
theorem ZoI {l:List (List Int)} {p:List Int} (hs:StrictL l) (hl:(l.length:Int)≤1048576) (hr:∀ x∈l,(x.length:Int)≤1048576):
  ∃ k,ZgK l p (fun y0 y1=>Zal y0 y1)=some (k,decide (p∈l)):=by
 unfold ZgK
 generalize hB0:Zc5 l p (fun y0 y1=>Zal y0 y1)=B
 have key:∀ (d:Nat) (lo hi:Int),(hi-lo).toNat≤d→0≤lo→lo≤hi→hi≤(l.length:Int)→(∀ j,0≤j→j<lo→cmpL (ix l j) p<0)→(∀ j,hi≤j→j<(l.length:Int)→0≤cmpL (ix l j) p)→∃ k,loop B (lo,hi)=some (k,decide (p∈l)):=by
  intro d
  induction d with
  | zero=>
   intro lo hi hd h0 h1 h2 h3 h4
   obtain rfl:lo=hi:=by omega
   by_cases hlt:lo<(l.length:Int)
   ·have hrow:=hr (ix l lo) (ZK h0 hlt)
    have hc:=Zd1 (a:=ix l lo) (b:=p) (by omega)
    have hq:((cmpL (ix l lo) p:Int)==0)=decide (p∈l):=by
     by_cases hm:p∈l
     ·obtain ⟨i,a,b,hi⟩:=Z4 hm
      have e:cmpL (ix l i) p=0:=(Zcn _ _).2 hi
      have hge:lo≤i:=by
       rcases Int.lt_or_le i lo with c|c
       ·have:=h3 i a c;omega
       ·exact c
      have:cmpL (ix l lo) p=0:=by
       by_cases hil:i=lo
       ·rw [←hil];exact e
       ·have h5:=hs lo i h0 (by omega) b
        rw [hi] at h5
        have:=h4 lo (by omega) hlt
        omega
      rw [this,decide_eq_true hm];rfl
     ·have:¬ cmpL (ix l lo) p=0:=fun e=>hm (by rw [←(Zcn _ _).1 e];exact ZK h0 hlt)
      rw [decide_eq_false hm,beq_f this]
    refine ⟨lo,Zc ?_⟩
    rw [←hB0,←hq]
    simp (disch:=omega) only [pz,Zc5,hc]
   ·have hm:p∉l:=fun hm=>by
     obtain ⟨i,a,b,hi⟩:=Z4 hm
     have e:cmpL (ix l i) p=0:=(Zcn _ _).2 hi
     have:=h3 i a (by omega)
     omega
    refine ⟨lo,Zc ?_⟩
    rw [←hB0,decide_eq_false hm]
    simp (disch:=omega) only [pz,Zc5]
  | succ d ih=>
   intro lo hi hd h0 h1 h2 h3 h4
   by_cases hlt:lo<hi
   ·have hm:=ZsM h0 h1 (show hi≤1048576 by omega)
    have hmid:lo≤(lo+hi)/2∧(lo+hi)/2<hi:=by omega
    have hrow:=hr (ix l ((lo+hi)/2)) (ZK (by omega) (by omega))
    have hc:=Zd1 (a:=ix l ((lo+hi)/2)) (b:=p) (by omega)
    have hn1:gNn 1=some ():=rfl
    by_cases e:cmpL (ix l ((lo+hi)/2)) p<0
    ·have hB:B (lo,hi)=some (.inl ((lo+hi)/2+1,hi)):=by
      rw [←hB0]
      simp only [Zc5,hm,hn1]
      simp (disch:=omega) only [pz,hc]
     rw [ZI hB]
     refine ih _ _ (by omega) (by omega) (by omega) h2 (fun j a b=>?_) h4
     by_cases hj:j=(lo+hi)/2
     ·rw [hj];exact e
     ·have:=hs j ((lo+hi)/2) a (by omega) (by omega)
      exact ZeH _ _ _ this e
    ·have hB:B (lo,hi)=some (.inl (lo,(lo+hi)/2)):=by
      rw [←hB0]
      simp only [Zc5,hm,hn1]
      simp (disch:=omega) only [pz,hc]
     rw [ZI hB]
     refine ih _ _ (by omega) h0 (by omega) (by omega) h3 fun j a b=>?_
     by_cases hj:j=(lo+hi)/2
     ·rw [hj];omega
     ·have h5:=hs ((lo+hi)/2) j (by omega) (by omega) b
      rcases Int.lt_or_le (cmpL (ix l j) p) 0 with c|c
      ·exact absurd (ZeH _ _ _ h5 c) e
      ·exact c
   ·exact ih lo hi (by omega) h0 h1 h2 h3 h4
 exact key _ 0 l.length (Nat.le_refl _) (by omega) (by omega) (by omega) (fun j a b=>by omega) fun j a b=>by omega
theorem Zvm {l:List (List Int)} {k:Int} {p:List Int} (h0:0≤k) (h1:k≤(l.length:Int)) (hl:(l.length:Int)≤1048576):ZhT l k p=some (l.take k.toNat++[p]++l.drop k.toNat):=by
 unfold ZhT
 have s1:gSl l 0 k=some (l.take k.toNat):=by rw [ZaX (by omega) h0 h1];simp
 have s2:gSl l k (l.length:Int)=some (l.drop k.toNat):=ZnK h0 h1
 have t1:(l.take k.toNat).length≤1048576:=by rw [List.length_take];omega
 have t2:(l.drop k.toNat).length≤1048576:=by rw [List.length_drop];omega
 have a1:gApp 24 ([]:List (List Int)) (l.take k.toNat)=some (l.take k.toNat):=by rw [ZdF (by simp;omega) (by simp;omega)];rfl
 have a2:gApp 24 (l.take k.toNat) [p]=some (l.take k.toNat++[p]):=gApp1 (by omega) (by omega)
 have a3:gApp 24 (l.take k.toNat++[p]) (l.drop k.toNat)=some (l.take k.toNat++[p]++l.drop k.toNat):=ZdF (by rw [List.length_append,List.length_singleton];omega) (by rw [List.length_append,List.length_singleton];omega)
 rw [s1,s2]
 simp only [Option.bind_some,a1,a2,a3]
structure GOk (n:Int) (gens:List (List Int)):Prop where
 n0:1≤n
 n1:n≤32
 len:(gens.length:Int)≤1048576
 prm:∀ g∈gens,Vc.Perm g n
theorem GOk.rng {n:Int} {gens:List (List Int)} (h:GOk n gens) {p:List Int} (hp:Rch (idP n) gens p):(p.length:Int)=n∧∀ x∈p,0≤x∧x<n:=by
 have:=h.n0
 exact Zsw (by omega) h.prm hp
theorem Zox (e:List Int):∀ (gs q:List (List Int)),q.length≤(rowq e gs q).length:=fun gs q=>(Zgl e gs q).length_le
theorem Znj (e:List Int):∀ (gs q:List (List Int)),(rowq e gs q).length≤q.length+gs.length
 | [],q=>by simp [rowq]
 | g::gs,q=>by
  have:=Znj e gs (addq q (cmpP e g))
  have h2:(addq q (cmpP e g)).length≤q.length+1:=by unfold addq;split<;>simp
  rw [rowq];simp only [List.length_cons];omega
theorem ZuP {n:Int} {gens:List (List Int)} (hG:GOk n gens) {most:Nat} (hm:most≤1048576) {i:Nat} {q:List (List Int)} {e:List Int} (hb:Bfs (idP n) gens i q) (he:q[i]?=some e) (hq:q.length≤most):
  (loop (ZaG gens most i) (sortRows q,q,0)=some (.inl (sortRows (rowq e gens q),rowq e gens q,(i:Int)+1))∧(rowq e gens q).length≤most)∨(loop (ZaG gens most i) (sortRows q,q,0)=some (.inr ([],false))∧¬ ∃ L,Gens (idP n) gens L∧L.length≤most):=by
 have n0:=hG.n0
 have n1:=hG.n1
 have hgl:=hG.len
 have key:∀ (d:Nat) (k:Nat),k+d=gens.length→(rowq e (gens.take k) q).length≤most →
   (loop (ZaG gens most i) (sortRows (rowq e (gens.take k) q),rowq e (gens.take k) q,(k:Int))=some (.inl (sortRows (rowq e gens q),rowq e gens q,(i:Int)+1))∧(rowq e gens q).length≤most)∨(loop (ZaG gens most i) (sortRows (rowq e (gens.take k) q),rowq e (gens.take k) q,(k:Int))=some (.inr ([],false))∧¬ ∃ L,Gens (idP n) gens L∧L.length≤most):=by
  intro d
  induction d with
  | zero=>
   intro k hk hlen
   obtain rfl:k=gens.length:=by omega
   rw [List.take_length] at *
   refine .inl ⟨Zc ?_,hlen⟩
   have hi:=Z5 he
   simp (disch:=omega) only [pz,ZaG]
  | succ d ih=>
   intro k hk hlen
   obtain ⟨g,hg⟩:=Zb6 (xs:=gens) (k:=k) (by omega)
   have hgm:=List.mem_of_getElem? hg
   have htk:gens.take (k+1)=gens.take k++[g]:=by rw [List.take_add_one,hg];rfl
   generalize hQ:rowq e (gens.take k) q=Q at *
   have hpre:q <+: Q:=by rw [←hQ];exact Zgl ..
   have hQe:Q[i]?=some e:=ZlT hpre he
   have hRe:Rch (idP n) gens e:=hb.rch e (List.mem_of_getElem? he)
   have hreQ:∀ p∈Q,Rch (idP n) gens p:=fun p hp=>by
    rw [←hQ] at hp
    rcases (Zh6 e _ _).1 hp with h|⟨g',h,rfl⟩
    ·exact hb.rch p h
    ·exact .step hRe (List.mem_of_mem_take h)
   have hndQ:Q.Nodup:=by rw [←hQ];exact Zjd _ _ _ hb.nd
   have hi:=Z5 hQe
   have hsl:(sortRows Q).length=Q.length:=ZiX Q
   have hRp:Rch (idP n) gens (cmpP e g):=.step hRe hgm
   have hrg:=hG.rng hRe
   have hgp:=hG.prm g hgm
   have ht:=ZAE (p:=e) (g:=g) (by omega) (fun x hx=>by rw [hgp.len];exact hrg.2 x hx)
   have hf:=ZrS (l:=sortRows Q) (p:=cmpP e g) (ZkB hndQ) (by omega) (fun x hx=>by
    have:=(hG.rng (hreQ x (ZbR.1 hx))).1;omega)
   have e1:ix Q (i:Int)=e:=ZQ hQe
   have e2:ix gens (k:Int)=g:=ZQ hg
   have hkl:(k:Int)<(gens.length:Int):=by omega
   have hnext:rowq e (gens.take (k+1)) q=addq Q (cmpP e g):=by rw [htk,Znl,hQ]
   rcases hf with ⟨j,f1,f2⟩|⟨j,f1,f2,f3,f4,f5,f6⟩
   ·have hin:cmpP e g∈Q:=ZbR.1 f2
    have hadd:addq Q (cmpP e g)=Q:=by unfold addq;rw [if_pos hin]
    have hB:ZaG gens most i (sortRows Q,Q,(k:Int))=some (.inl (sortRows (addq Q (cmpP e g)),addq Q (cmpP e g),((k+1:Nat):Int))):=by
     rw [hadd]
     simp (disch:=omega) only [pz,ZaG,e1,e2,ht,f1]
     rfl
    rw [ZI hB]
    have:=ih (k+1) (by omega) (by rw [hnext,hadd];exact hlen)
    rw [hnext] at this
    exact this
   ·have hni:cmpP e g∉Q:=fun h=>f2 (ZbR.2 h)
    have hadd:addq Q (cmpP e g)=Q++[cmpP e g]:=by unfold addq;rw [if_neg hni]
    by_cases hfull:Q.length=most
    ·refine .inr ⟨Zc ?_,?_⟩
     ·have hff:((sortRows Q).length:Int)=(most:Int):=by omega
      simp (disch:=omega) only [pz,ZaG,e1,e2,ht,f1]
     ·rintro ⟨L,hL,hLm⟩
      have h1:(Q++[cmpP e g]).Nodup:=by rw [←hadd];exact ZrU hndQ
      have:=hL.le h1 fun p hp=>by
       rcases List.mem_append.1 hp with h|h
       ·exact hreQ p h
       ·simp at h;subst h;exact hRp
      rw [List.length_append,List.length_singleton] at this
      omega
    ·have hff:¬ ((sortRows Q).length:Int)=(most:Int):=by omega
     have hput:=Zvm (l:=sortRows Q) (k:=j) (p:=cmpP e g) f3 f4 (by omega)
     have hins:(sortRows Q).take j.toNat++[cmpP e g]++(sortRows Q).drop j.toNat=sortRows (Q++[cmpP e g]):=by
      refine ZzD rfl (fun y hy=>?_) fun y hy=>?_
      ·obtain ⟨a,a0,a1,rfl⟩:=Z4 hy
       rw [List.length_take] at a1
       rw [Zdf a0 (by omega),Ze4]
       have:=f5 a a0 (by omega)
       omega
      ·obtain ⟨a,a0,a1,rfl⟩:=Z4 hy
       rw [List.length_drop] at a1
       rw [ZoX f3 a0,Ze4]
       have:=f6 (j+a) (by omega) (by omega)
       have:=Zdl (ix (sortRows Q) (j+a)) (cmpP e g)
       omega
     rw [hins] at hput
     have hB:ZaG gens most i (sortRows Q,Q,(k:Int))=some (.inl (sortRows (addq Q (cmpP e g)),addq Q (cmpP e g),((k+1:Nat):Int))):=by
      rw [hadd]
      simp (disch:=omega) only [pz,ZaG,e1,e2,ht,f1,hput]
      rfl
     rw [ZI hB]
     have:=ih (k+1) (by omega) (by rw [hnext,hadd,List.length_append,List.length_singleton];omega)
     rw [hnext] at this
     exact this
 have:=key gens.length 0 (by omega) (by simpa [rowq] using hq)
 simpa [rowq] using this
theorem Zo5 {n:Int} {gens:List (List Int)} (hG:GOk n gens) {most:Nat} (hm:most≤1048576) (hm1:1≤most):
  (∃ L,Gens (idP n) gens L∧L.length≤most∧Zcf n gens most=some (sortRows L,true))∨((¬ ∃ L,Gens (idP n) gens L∧L.length≤most)∧Zcf n gens most=some ([],false)):=by
 unfold Zcf
 have n0:=hG.n0
 rw [Zys (by omega) hG.n1]
 simp only [Option.bind_some]
 have key:∀ (d:Nat) (i:Nat) (q:List (List Int)),most+1-i≤d→Bfs (idP n) gens i q→q.length≤most→i≤q.length →
   (∃ L,Gens (idP n) gens L∧L.length≤most∧loop (ZbY gens most) (sortRows q,q,(i:Int))=some (sortRows L,true))∨((¬ ∃ L,Gens (idP n) gens L∧L.length≤most)∧loop (ZbY gens most) (sortRows q,q,(i:Int))=some ([],false)):=by
  intro d
  induction d with
  | zero=>intro i q hd hb hq hi;omega
  | succ d ih=>
   intro i q hd hb hq hi
   by_cases hlt:i<q.length
   ·obtain ⟨e,he⟩:=Zb6 (xs:=q) (k:=i) hlt
    rcases ZuP hG hm hb he hq with ⟨r1,r2⟩|⟨r1,r2⟩
    ·have hB:ZbY gens most (sortRows q,q,(i:Int))=some (.inl (sortRows (rowq e gens q),rowq e gens q,((i+1:Nat):Int))):=by
      simp (disch:=omega) only [pz,ZbY,r1]
      rfl
     rw [ZI hB]
     exact ih (i+1) _ (by omega) (hb.row he) r2 (by have:=Zox e gens q;omega)
    ·exact .inr ⟨r2,Zc (by simp (disch:=omega) only [pz,ZbY,r1])⟩
   ·exact .inl ⟨q,hb.done (by omega),hq,Zc (by simp (disch:=omega) only [pz,ZbY])⟩
 have hs:sortRows [idP n]=[idP n]:=(Ze3 (List.Perm.refl _) (by unfold SortedL;simp)).symm
 have:=key _ 0 [idP n] (Nat.le_refl _) Bfs.start (by simpa using hm1) (by simp)
 rw [hs] at this
 exact this
end Go.Proofs.YtmmbnjijjdakmaaGreatDoor
namespace Go.Proofs.YtmmbnjijjdakmaaGreatDoor
set_option linter.unusedVariables false
open Go Go.Vc
set_option linter.unusedSimpArgs false
theorem GOk.byt {n:Int} {gens:List (List Int)} (h:GOk n gens) {p:List Int} (hp:Rch (idP n) gens p):Byt p:=fun x hx=>by
 have:=(h.rng hp).2 x hx
 have:=h.n1
 omega
theorem ZBe {n:Int} {gens:List (List Int)} (hG:GOk n gens) {i:Nat} {q:List (List Int)} {e:List Int} (hb:Bfs (idP n) gens i q) (he:q[i]?=some e) (hq:q.length≤720):
  loop (Zbm gens i) (q,0,keysOf q)=some (bif decide (((rowq e gens q).length:Int)>720) then .inr ([],false) else .inl (rowq e gens q,(i:Int)+1,keysOf (rowq e gens q))):=by
 have n0:=hG.n0
 have n1:=hG.n1
 have hgl:=hG.len
 have hlen2:=Znj e gens q
 have key:∀ (d:Nat) (k:Nat),k+d=gens.length →
   loop (Zbm gens i) (rowq e (gens.take k) q,(k:Int),keysOf (rowq e (gens.take k) q))=some (bif decide (((rowq e gens q).length:Int)>720) then .inr ([],false) else .inl (rowq e gens q,(i:Int)+1,keysOf (rowq e gens q))):=by
  intro d
  induction d with
  | zero=>
   intro k hk
   obtain rfl:k=gens.length:=by omega
   rw [List.take_length]
   refine Zc ?_
   have hi:=Z5 he
   by_cases hbig:((rowq e gens q).length:Int)>720
   ·simp (disch:=omega) only [pz,Zbm]
   ·simp (disch:=omega) only [pz,Zbm]
  | succ d ih=>
   intro k hk
   obtain ⟨g,hg⟩:=Zb6 (xs:=gens) (k:=k) (by omega)
   have hgm:=List.mem_of_getElem? hg
   have htk:gens.take (k+1)=gens.take k++[g]:=by rw [List.take_add_one,hg];rfl
   have hl2:=Znj e (gens.take k) q
   rw [List.length_take] at hl2
   generalize hQ:rowq e (gens.take k) q=Q at *
   have hpre:q <+: Q:=by rw [←hQ];exact Zgl ..
   have hQe:Q[i]?=some e:=ZlT hpre he
   have hRe:Rch (idP n) gens e:=hb.rch e (List.mem_of_getElem? he)
   have hreQ:∀ p∈Q,Rch (idP n) gens p:=fun p hp=>by
    rw [←hQ] at hp
    rcases (Zh6 e _ _).1 hp with h|⟨g',h,rfl⟩
    ·exact hb.rch p h
    ·exact .step hRe (List.mem_of_mem_take h)
   have hi:=Z5 hQe
   have hRp:Rch (idP n) gens (cmpP e g):=.step hRe hgm
   have hrg:=hG.rng hRe
   have hrp:=hG.rng hRp
   have hgp:=hG.prm g hgm
   have ht:=ZzA (p:=e) (g:=g) (by omega) (fun x hx=>by rw [hgp.len];exact hrg.2 x hx)
   have hkey:=Zrl (p:=cmpP e g) (by omega) (hG.byt hRp)
   have hseen:=ZqA (p:=cmpP e g) (hG.byt hRp) (q:=Q) fun x hx=>hG.byt (hreQ x hx)
   have e1:ix Q (i:Int)=e:=ZQ hQe
   have e2:ix gens (k:Int)=g:=ZQ hg
   have hkl:(k:Int)<(gens.length:Int):=by omega
   have hnext:rowq e (gens.take (k+1)) q=addq Q (cmpP e g):=by rw [htk,Znl,hQ]
   have hB:Zbm gens i (Q,(k:Int),keysOf Q)=some (.inl (addq Q (cmpP e g),((k+1:Nat):Int),keysOf (addq Q (cmpP e g)))):=by
    by_cases hin:cmpP e g∈Q
    ·have hadd:addq Q (cmpP e g)=Q:=by unfold addq;rw [if_pos hin]
     rw [hadd]
     rw [decide_eq_true hin] at hseen
     simp (disch:=omega) only [pz,Zbm,e1,e2,ht,hkey,hseen]
     rfl
    ·have hadd:addq Q (cmpP e g)=Q++[cmpP e g]:=by unfold addq;rw [if_neg hin]
     have hput:=Zq0 (p:=cmpP e g) (hG.byt hRp) (q:=Q) (fun x hx=>hG.byt (hreQ x hx)) hin
     rw [hadd]
     rw [decide_eq_false hin] at hseen
     simp (disch:=omega) only [pz,Zbm,e1,e2,ht,hkey,hseen,hput]
     rfl
   rw [ZI hB]
   have:=ih (k+1) (by omega)
   rw [hnext] at this
   exact this
 have:=key gens.length 0 (by omega)
 simpa [rowq] using this
theorem Zz3 {q:List (List Int)} (hl:q.length≤1048576) (hr:∀ x∈q,(x.length:Int)≤1048576):ZfO q (fun y0 y1=>Zal y0 y1)=some (sortRows q):=by
 unfold ZfO
 have h1:∀ a∈q,∀ c∈q,Zal a c=some (lexC a c):=fun a ha c hc=>by
  rw [Ze4];exact Zd1 (by have:=hr a ha;omega)
 rw [if_pos ⟨h1,by omega⟩]
theorem Zpb {n:Int} {gens:List (List Int)} (hG:GOk n gens):
  (∃ L,Gens (idP n) gens L∧L.length≤720∧Zc8 n gens=some (sortRows L,true))∨((¬ ∃ L,Gens (idP n) gens L∧L.length≤720)∧Zc8 n gens=some ([],false)):=by
 unfold Zc8
 have n0:=hG.n0
 have n1:=hG.n1
 have hone:Rch (idP n) gens (idP n):=.one
 have hg0:gIdx [idP n] 0=some (idP n):=rfl
 rw [Zzx (by omega) hG.n1]
 simp only [Option.bind_some,hg0]
 rw [Zrl (by have:=(hG.rng hone).1;omega) (hG.byt hone)]
 simp only [Option.bind_some]
 have hk0:mpSet ([]:List (ByteArray×Bool)) (bstr (idP n)) true=keysOf [idP n]:=rfl
 rw [hk0]
 have key:∀ (d:Nat) (i:Nat) (q:List (List Int)),721-i≤d→Bfs (idP n) gens i q→q.length≤720→i≤q.length →
   (∃ L,Gens (idP n) gens L∧L.length≤720∧loop (ZbQ gens) (q,(i:Int),keysOf q)=some (sortRows L,true))∨((¬ ∃ L,Gens (idP n) gens L∧L.length≤720)∧loop (ZbQ gens) (q,(i:Int),keysOf q)=some ([],false)):=by
  intro d
  induction d with
  | zero=>intro i q hd hb hq hi;omega
  | succ d ih=>
   intro i q hd hb hq hi
   by_cases hlt:i<q.length
   ·obtain ⟨e,he⟩:=Zb6 (xs:=q) (k:=i) hlt
    have r1:=ZBe hG hb he hq
    by_cases hbig:((rowq e gens q).length:Int)>720
    ·rw [dec_t hbig] at r1
     refine .inr ⟨?_,Zc (by simp (disch:=omega) only [pz,ZbQ,r1])⟩
     rintro ⟨L,hL,hLm⟩
     have:=hL.le (Zjd e gens q hb.nd) (hb.row he).rch
     omega
    ·rw [dec_f hbig] at r1
     have hB:ZbQ gens (q,(i:Int),keysOf q)=some (.inl (rowq e gens q,((i+1:Nat):Int),keysOf (rowq e gens q))):=by
      simp (disch:=omega) only [pz,ZbQ,r1]
      rfl
     rw [ZI hB]
     exact ih (i+1) _ (by omega) (hb.row he) (by omega) (by have:=Zox e gens q;omega)
   ·have hs:=Zz3 (q:=q) (by omega) (fun x hx=>by have:=(hG.rng (hb.rch x hx)).1;omega)
    exact .inl ⟨q,hb.done (by omega),hq,Zc (by simp (disch:=omega) only [pz,ZbQ,hs])⟩
 exact key _ 0 [idP n] (Nat.le_refl _) Bfs.start (by simp) (by simp)
def Grp (n:Int) (E:List (List Int)):Prop:=idP n∈E∧∀ p∈E,∀ q∈E,cmpP p q∈E
theorem Grp.sub {n:Int} {E gens:List (List Int)} (h:Grp n E) (hg:∀ g∈gens,g∈E) {p:List Int} (hp:Rch (idP n) gens p):p∈E:=by
 induction hp with
 | one=>exact h.1
 | step _ h1 ih=>exact h.2 _ ih _ (hg _ h1)
open Classical in
theorem Grp.gens {n:Int} {E gens:List (List Int)} (h:Grp n E) (hn:E.Nodup) (hg:∀ g∈gens,g∈E):∃ L,Gens (idP n) gens L∧L.length≤E.length:=
 ⟨E.filter fun p=>decide (Rch (idP n) gens p),⟨hn.filter _,fun p=>by simp only [List.mem_filter,decide_eq_true_eq];exact ⟨fun q=>q.2,fun q=>⟨h.sub hg q,q⟩⟩⟩,List.length_filter_le _ _⟩
theorem ZxE {p q g:List Int} (hp:∀ x∈p,0≤x∧x<(q.length:Int)):cmpP p (cmpP q g)=cmpP (cmpP p q) g:=by
 unfold cmpP
 rw [List.map_map]
 refine List.map_congr_left fun x hx=>?_
 have:=hp x hx
 exact ZpY this.1 this.2
theorem Zzl {p:List Int} {n:Int} (hp:∀ x∈p,0≤x∧x<n):cmpP p (idP n)=p:=by
 unfold cmpP
 have:p.map (fun x=>ix (idP n) x)=p.map id:=List.map_congr_left fun x hx=>ZeN (hp x hx).1 (hp x hx).2
 rw [this,List.map_id]
theorem Gens.grp {n:Int} {gens L:List (List Int)} (hG:GOk n gens) (h:Gens (idP n) gens L):Grp n L:=by
 refine ⟨(h.2 _).2 .one,fun p hp q hq=>(h.2 _).2 ?_⟩
 have hp':=(h.2 p).1 hp
 have hq':=(h.2 q).1 hq
 clear hq hp
 induction hq' with
 | one=>rw [Zzl (hG.rng hp').2];exact hp'
 | step h1 hg ih=>
  rw [ZxE (fun x hx=>by rw [(hG.rng h1).1];exact (hG.rng hp').2 x hx)]
  exact .step ih hg
structure EOk (n:Int) (E:List (List Int)):Prop where
 n0:1≤n
 n1:n≤32
 l0:1≤(E.length:Int)
 l1:(E.length:Int)≤720
 prm:∀ p∈E,(p.length:Int)=n∧IsP p
 srt:StrictL E
theorem EOk.perm {n:Int} {E:List (List Int)} (h:EOk n E) {p:List Int} (hp:p∈E):Vc.Perm p n:=by
 obtain ⟨h1,h2⟩:=h.prm p hp
 rw [←h1];exact h2.2
theorem EOk.nd {n:Int} {E:List (List Int)} (h:EOk n E):E.Nodup:=by
 unfold List.Nodup
 rw [List.pairwise_iff_getElem]
 intro i j hi hj hij he
 have:=h.srt (i:Int) (j:Int) (by omega) (by omega) (by omega)
 have e1:ix E (i:Int)=E[i]:=ZQ (List.getElem?_eq_getElem hi)
 have e2:ix E (j:Int)=E[j]:=ZQ (List.getElem?_eq_getElem hj)
 rw [e1,e2,he,(Zcn _ _).2 rfl] at this
 omega
theorem EOk.gok {n:Int} {E gens:List (List Int)} (h:EOk n E) (hg:∀ g∈gens,g∈E) (hl:(gens.length:Int)≤1048576):GOk n gens:=⟨h.n0,h.n1,hl,fun g hgm=>h.perm (hg g hgm)⟩
theorem EOk.self {n:Int} {E:List (List Int)} (h:EOk n E):E=sortRows E:=by
 refine Ze3 (List.Perm.refl _) ?_
 unfold SortedL
 rw [List.pairwise_iff_getElem]
 intro i j hi hj hij
 have:=h.srt (i:Int) (j:Int) (by omega) (by omega) (by omega)
 have e1:ix E (i:Int)=E[i]:=ZQ (List.getElem?_eq_getElem hi)
 have e2:ix E (j:Int)=E[j]:=ZQ (List.getElem?_eq_getElem hj)
 rw [e1,e2] at this
 rw [Ze4];omega
theorem EOk.same {n:Int} {E L:List (List Int)} (h:EOk n E) (hL:L.Nodup) (hs:∀ p∈E,p∈L) (hl:L.length=E.length):sortRows L=E:=by
 have hp:=Zob h.nd hs hl.symm
 exact (Ze3 (hp.trans (List.Perm.refl _)) (by have:=ZmI E;rwa [←h.self] at this)).symm
theorem Zqr {a b:List (List Int)} (ha:(a.length:Int)≤1048576) (hr:∀ x∈a,(x.length:Int)≤1048576):IsQ (ZeB a b) (a=b):=by
 unfold ZeB
 refine ZfM (by unfold M63;omega) (fun k x y hx hy=>?_) (by simp (disch:=omega) only [pz,ZfQ])
 have h1:=Z5 hx
 have h2:=Z5 hy
 have hs:=ZxT (a:=x) (b:=y) (hr x (List.mem_of_getElem? hx))
 by_cases h:x=y
 ·exact Zb0 (c:=true) (by simp [h]) (by simp (disch:=omega) only [pz,ZfQ,ZQ hx,ZQ hy,hs.eq h])
 ·exact Zb0 (c:=false) (by simp [h]) (by simp (disch:=omega) only [pz,ZfQ,ZQ hx,ZQ hy,hs.ne h])
theorem ZwS {p:List Int} (hl:(p.length:Int)≤1048576):Zbh p=some p:=by
 unfold Zbh
 rw [ZdF (by simp;omega) (by simp;omega)];rfl
theorem ZuC {n:Int} {E:List (List Int)} (h:EOk n E):∃ g c,Zge n E=some (g,c)∧(c=true↔Grp n E):=by
 have n0:=h.n0
 have n1:=h.n1
 have l0:=h.l0
 have l1:=h.l1
 unfold Zge
 have hG0:GOk n []:=h.gok (by simp) (by simp)
 have h0:Zcf n [] 1=some ([idP n],true)∧Gens (idP n) [] [idP n]:=by
  have hg:Gens (idP n) [] [idP n]:=Bfs.done (k:=1) ⟨by simp,rfl,fun p hp=>by simp at hp;subst hp;exact .one,fun j e _ _ g hg=>by simp at hg⟩ (by simp)
  have hs:sortRows [idP n]=[idP n]:=(Ze3 (List.Perm.refl _) (by unfold SortedL;simp)).symm
  rcases Zo5 hG0 (most:=1) (by omega) (by omega) with ⟨L,a,b,c⟩|⟨a,b⟩
  ·have hL:L=[idP n]:=by
    have e1:idP n∈L:=(a.2 _).2 .one
    match L,b,e1 with
    | [x],_,e=>simp at e;rw [e]
    | [],_,e=>simp at e
   rw [hL,hs] at c
   exact ⟨c,hg⟩
  ·exact absurd ⟨[idP n],hg,by simp⟩ a
 rw [h0.1]
 simp only [Option.bind_some]
 have key:∀ (d:Nat) (i:Nat) (gens L:List (List Int)),i+d=E.length→(∀ g∈gens,g∈E)→gens.length≤i→Gens (idP n) gens L→L.length≤E.length→(∀ j:Nat,j<i→∀ p,E[j]?=some p→p∈L) →
   ∃ g c,loop (Zbk n E) (gens,sortRows L,(i:Int))=some (g,c)∧(c=true↔Grp n E):=by
  intro d
  induction d with
  | zero=>
   intro i gens L hi hg hgl hL hLl hin
   obtain rfl:i=E.length:=by omega
   have hGk:=h.gok hg (by omega)
   have hsub:∀ p∈E,p∈L:=fun p hp=>by obtain ⟨j,hj⟩:=List.getElem?_of_mem hp;exact hin j (Z5 hj) p hj
   have hle:=Zfd h.nd hsub
   have hsame:sortRows L=E:=h.same hL.1 hsub (by omega)
   have hgr:Grp n E:=by
    have g1:=Gens.grp hGk hL
    have hm:∀ p,p∈E↔p∈L:=fun p=>by rw [←hsame];exact ZbR
    exact ⟨(hm _).2 g1.1,fun p hp q hq=>(hm _).2 (g1.2 p ((hm p).1 hp) q ((hm q).1 hq))⟩
   have hq:=(Zqr (a:=sortRows L) (b:=E) (by rw [hsame];omega) (fun x hx=>by rw [hsame] at hx;have:=(h.prm x hx).1;omega)).eq hsame
   refine ⟨gens,true,Zc ?_,by simp [hgr]⟩
   simp (disch:=omega) only [pz,Zbk,hq]
  | succ d ih=>
   intro i gens L hi hg hgl hL hLl hin
   obtain ⟨p,hp⟩:=Zb6 (xs:=E) (k:=i) (by omega)
   have hpm:=List.mem_of_getElem? hp
   have hGk:=h.gok hg (by omega)
   have e1:ix E (i:Int)=p:=ZQ hp
   have hpl:=(h.prm p hpm).1
   have hf:=ZrS (l:=sortRows L) (p:=p) (ZkB hL.1) (by rw [ZiX];omega) (fun x hx=>by have:=(hGk.rng ((hL.2 x).1 (ZbR.1 hx))).1;omega)
   have hil:(i:Int)<(E.length:Int):=by omega
   rcases hf with ⟨j,f1,f2⟩|⟨j,f1,f2,_⟩
   ·have hB:Zbk n E (gens,sortRows L,(i:Int))=some (.inl (gens,sortRows L,((i+1:Nat):Int))):=by
     simp (disch:=omega) only [pz,Zbk,e1,f1]
     rfl
    rw [ZI hB]
    refine ih (i+1) gens L (by omega) hg (by omega) hL hLl fun j' hj' p' hp'=>?_
    by_cases hji:j'=i
    ·subst hji;rw [hp] at hp';cases hp';exact ZbR.1 f2
    ·exact hin j' (by omega) p' hp'
   ·have hg':∀ g∈gens++[p],g∈E:=fun g hgm=>by
     rcases List.mem_append.1 hgm with a|a
     ·exact hg g a
     ·simp at a;subst a;exact hpm
    have hGk':=h.gok hg' (by rw [List.length_append,List.length_singleton];omega)
    have how:=ZwS (p:=p) (by omega)
    rcases Zo5 hGk' (most:=E.length) (by omega) (by omega) with ⟨L',a,b,c⟩|⟨a,b⟩
    ·have hB:Zbk n E (gens,sortRows L,(i:Int))=some (.inl (gens++[p],sortRows L',((i+1:Nat):Int))):=by
      simp (disch:=omega) only [pz,Zbk,e1,f1,how,c]
      rfl
     rw [ZI hB]
     refine ih (i+1) (gens++[p]) L' (by omega) hg' (by rw [List.length_append,List.length_singleton];omega) a b fun j' hj' p' hp'=>?_
     by_cases hji:j'=i
     ·subst hji;rw [hp] at hp';cases hp'
      have:Rch (idP n) (gens++[p]) (cmpP (idP n) p):=.step .one (by simp)
      rw [ZoB (by omega) hpl] at this
      exact (a.2 _).2 this
     ·exact (hL.mono a fun g hgm=>List.mem_append_left _ hgm).1 p' (hin j' (by omega) p' hp')
    ·refine ⟨[],false,Zc ?_,?_⟩
     ·simp (disch:=omega) only [pz,Zbk,e1,f1,how,b]
     ·simp
      intro hgr
      exact a (hgr.gens h.nd hg')
 have hs:sortRows [idP n]=[idP n]:=(Ze3 (List.Perm.refl _) (by unfold SortedL;simp)).symm
 have:=key E.length 0 [] [idP n] (by omega) (by simp) (by simp) h0.2 (by simp;omega) (fun j hj=>by omega)
 rw [hs] at this
 exact this
theorem ZAO {n:Int} {E:List (List Int)} (h:EOk n E):∃ g a c,Zgr n E=some (g,a,c)∧((c=true∧a.length=E.length)↔Grp n E):=by
 have n0:=h.n0
 have n1:=h.n1
 have l0:=h.l0
 have l1:=h.l1
 unfold Zgr
 have hG0:GOk n []:=h.gok (by simp) (by simp)
 -- once not ok, so to the end
 have bad:∀ (d:Nat) (i:Nat) (gens:List (List Int)),i+d=E.length→loop (Zat n E) (gens,[],false,(i:Int))=some (gens,[],false):=by
  intro d
  induction d with
  | zero=>
   intro i gens hi
   obtain rfl:i=E.length:=by omega
   exact Zc (by simp (disch:=omega) only [pz,Zat])
  | succ d ih=>
   intro i gens hi
   obtain ⟨p,hp⟩:=Zb6 (xs:=E) (k:=i) (by omega)
   have e1:ix E (i:Int)=p:=ZQ hp
   have hil:(i:Int)<(E.length:Int):=by omega
   obtain ⟨k,hk⟩:=ZoI (l:=[]) (p:=p) (fun i j a b c=>by simp at c;omega) (by simp) (by simp)
   have hB:Zat n E (gens,[],false,(i:Int))=some (.inl (gens,[],false,((i+1:Nat):Int))):=by
    have hm:decide (p∈([]:List (List Int)))=false:=by simp
    rw [hm] at hk
    simp (disch:=omega) only [pz,Zat,e1,hk]
    rfl
   rw [ZI hB]
   exact ih (i+1) gens (by omega)
 have key:∀ (d:Nat) (i:Nat) (gens L:List (List Int)),i+d=E.length→(∀ g∈gens,g∈E)→gens.length≤i→Gens (idP n) gens L→L.length≤720→(∀ j:Nat,j<i→∀ p,E[j]?=some p→p∈L) →
   ∃ g a c,loop (Zat n E) (gens,sortRows L,true,(i:Int))=some (g,a,c)∧((c=true∧a.length=E.length)↔Grp n E):=by
  intro d
  induction d with
  | zero=>
   intro i gens L hi hg hgl hL hLl hin
   obtain rfl:i=E.length:=by omega
   have hGk:=h.gok hg (by omega)
   have hsub:∀ p∈E,p∈L:=fun p hp=>by obtain ⟨j,hj⟩:=List.getElem?_of_mem hp;exact hin j (Z5 hj) p hj
   refine ⟨gens,sortRows L,true,Zc (by simp (disch:=omega) only [pz,Zat]),?_⟩
   rw [ZiX]
   constructor
   ·intro hq
    have hsame:sortRows L=E:=h.same hL.1 hsub hq.2
    have g1:=Gens.grp hGk hL
    have hm:∀ p,p∈E↔p∈L:=fun p=>by rw [←hsame];exact ZbR
    exact ⟨(hm _).2 g1.1,fun p hp q hq=>(hm _).2 (g1.2 p ((hm p).1 hp) q ((hm q).1 hq))⟩
   ·intro hgr
    have h1:=Zfd h.nd hsub
    have h2:=Zfd hL.1 (l':=E) fun x hx=>hgr.sub hg ((hL.2 x).1 hx)
    exact ⟨rfl,by omega⟩
  | succ d ih=>
   intro i gens L hi hg hgl hL hLl hin
   obtain ⟨p,hp⟩:=Zb6 (xs:=E) (k:=i) (by omega)
   have hpm:=List.mem_of_getElem? hp
   have hGk:=h.gok hg (by omega)
   have e1:ix E (i:Int)=p:=ZQ hp
   have hpl:=(h.prm p hpm).1
   have hil:(i:Int)<(E.length:Int):=by omega
   obtain ⟨k,hk⟩:=ZoI (l:=sortRows L) (p:=p) (ZkB hL.1) (by rw [ZiX];omega) (fun x hx=>by have:=(hGk.rng ((hL.2 x).1 (ZbR.1 hx))).1;omega)
   by_cases hin':p∈sortRows L
   ·rw [decide_eq_true hin'] at hk
    have hB:Zat n E (gens,sortRows L,true,(i:Int))=some (.inl (gens,sortRows L,true,((i+1:Nat):Int))):=by
     simp (disch:=omega) only [pz,Zat,e1,hk]
     rfl
    rw [ZI hB]
    refine ih (i+1) gens L (by omega) hg (by omega) hL hLl fun j' hj' p' hp'=>?_
    by_cases hji:j'=i
    ·subst hji;rw [hp] at hp';cases hp';exact ZbR.1 hin'
    ·exact hin j' (by omega) p' hp'
   ·rw [decide_eq_false hin'] at hk
    have hg':∀ g∈gens++[p],g∈E:=fun g hgm=>by
     rcases List.mem_append.1 hgm with a|a
     ·exact hg g a
     ·simp at a;subst a;exact hpm
    have hGk':=h.gok hg' (by rw [List.length_append,List.length_singleton];omega)
    rcases Zpb hGk' with ⟨L',a,b,c⟩|⟨a,b⟩
    ·have hB:Zat n E (gens,sortRows L,true,(i:Int))=some (.inl (gens++[p],sortRows L',true,((i+1:Nat):Int))):=by
      simp (disch:=omega) only [pz,Zat,ZhZ,e1,hk,c]
      rfl
     rw [ZI hB]
     refine ih (i+1) (gens++[p]) L' (by omega) hg' (by rw [List.length_append,List.length_singleton];omega) a b fun j' hj' p' hp'=>?_
     by_cases hji:j'=i
     ·subst hji;rw [hp] at hp';cases hp'
      have:Rch (idP n) (gens++[p]) (cmpP (idP n) p):=.step .one (by simp)
      rw [ZoB (by omega) hpl] at this
      exact (a.2 _).2 this
     ·exact (hL.mono a fun g hgm=>List.mem_append_left _ hgm).1 p' (hin j' (by omega) p' hp')
    ·have hB:Zat n E (gens,sortRows L,true,(i:Int))=some (.inl (gens++[p],[],false,((i+1:Nat):Int))):=by
      simp (disch:=omega) only [pz,Zat,ZhZ,e1,hk,b]
      rfl
     rw [ZI hB,bad d (i+1) _ (by omega)]
     refine ⟨_,_,_,rfl,?_⟩
     simp
     intro hgr
     obtain ⟨L2,a1,a2⟩:=hgr.gens h.nd hg'
     exact a ⟨L2,a1,by omega⟩
 have hg:Gens (idP n) [] [idP n]:=Bfs.done (k:=1) ⟨by simp,rfl,fun p hp=>by simp at hp;subst hp;exact .one,fun j e _ _ g hg=>by simp at hg⟩ (by simp)
 rcases Zpb hG0 with ⟨L,a,b,c⟩|⟨a,b⟩
 ·rw [c]
  simp only [Option.bind_some]
  exact key E.length 0 [] L (by omega) (by simp) (by simp) a b (fun j hj=>by omega)
 ·exact absurd ⟨[idP n],hg,by simp⟩ a
def ValidGr (g:ZaK):Prop:=EOk g.Degree g.Elements∧Grp g.Degree g.Elements
theorem ZiS {l:List (List Int)} (h:∀ k,0<k→k<(l.length:Int)→cmpL (ix l (k-1)) (ix l k)<0):StrictL l:=by
 have key:∀ (d:Nat) (i:Int),0≤i→i+1+d<(l.length:Int)→cmpL (ix l i) (ix l (i+1+d))<0:=by
  intro d
  induction d with
  | zero=>intro i h0 h1;have:=h (i+1) (by omega) (by omega);simpa using this
  | succ d ih=>
   intro i h0 h1
   have a:=ih i h0 (by omega)
   have b:=h (i+1+(d+1:Nat)) (by omega) h1
   rw [show i+1+((d+1:Nat):Int)-1=i+1+d by omega] at b
   exact ZeH _ _ _ a b
 intro i j h0 h1 h2
 have:=key (j-i-1).toNat i h0 (by omega)
 rwa [show i+1+((j-i-1).toNat:Int)=j by omega] at this
theorem ZuU {g:ZaK} (hs:Sz2 g.Elements):IsQ (ZhC g) (ValidGr g):=by
 unfold ZhC ZiN
 by_cases h1:1≤g.Degree∧g.Degree≤32
 ·by_cases h2:(g.Elements.length:Int)=0
  ·simp (disch:=omega) only [pz,in_ok];exact IsQ.f fun q=>by have:=q.1.l0;omega
  ·by_cases h3:(g.Elements.length:Int)≤720
   ·simp (disch:=omega) only [pz,in_ok]
    refine (Zaj (P:=fun k=>(IsP (ix g.Elements k)∧((ix g.Elements k).length:Int)=g.Degree)∧(0<k→cmpL (ix g.Elements (k-1)) (ix g.Elements k)<0)) (n:=g.Elements.length) (Q:=Grp g.Degree g.Elements) (by omega) ?_ ?_ fun hall=>?_).congr ?_
    ·intro k g0 g1 ⟨⟨a1,a2⟩,a3⟩
     have hr:=hs.row g0 g1
     have hb:=(Zeb hr).eq a1
     by_cases hk:0<k
     ·have hr2:=hs.row (k:=k-1) (by omega) (by omega)
      have hc:=Zga (a:=ix g.Elements (k-1)) (b:=ix g.Elements k) (by omega)
      have:=a3 hk
      simp (disch:=omega) only [pz,ZcT,hb,hc]
     ·simp (disch:=omega) only [pz,ZcT,hb]
    ·intro k g0 g1 hn
     have hr:=hs.row g0 g1
     by_cases a1:IsP (ix g.Elements k)
     ·have hb:=(Zeb hr).eq a1
      by_cases a2:((ix g.Elements k).length:Int)=g.Degree
      ·have hk:0<k∧¬ cmpL (ix g.Elements (k-1)) (ix g.Elements k)<0:=⟨Classical.byContradiction fun h=>hn ⟨⟨a1,a2⟩,fun h'=>absurd h' h⟩,fun h=>hn ⟨⟨a1,a2⟩,fun _=>h⟩⟩
       have hr2:=hs.row (k:=k-1) (by omega) (by omega)
       have hc:=Zga (a:=ix g.Elements (k-1)) (b:=ix g.Elements k) (by omega)
       simp (disch:=omega) only [pz,ZcT,hb,hc]
      ·simp (disch:=omega) only [pz,ZcT,hb]
     ·have hb:=(Zeb hr).ne a1
      simp (disch:=omega) only [pz,ZcT,hb]
    ·have hE:EOk g.Degree g.Elements:=⟨h1.1,h1.2,by omega,h3,fun p hp=>by obtain ⟨i,a,b,rfl⟩:=Z4 hp;exact ⟨(hall i a b).1.2,(hall i a b).1.1⟩,ZiS fun k a b=>(hall k (by omega) b).2 a⟩
     obtain ⟨gg,c,q1,q2⟩:=ZuC hE
     refine ⟨c,Zc ?_,q2⟩
     simp (disch:=omega) only [pz,ZcT,q1]
    ·constructor
     ·intro q
      exact ⟨⟨h1.1,h1.2,by omega,h3,fun p hp=>by obtain ⟨i,a,b,rfl⟩:=Z4 hp;exact ⟨(q.1 i a b).1.2,(q.1 i a b).1.1⟩,ZiS fun k a b=>(q.1 k (by omega) b).2 a⟩,q.2⟩
     ·intro q
      exact ⟨fun k a b=>⟨⟨(q.1.prm _ (ZK a b)).2,(q.1.prm _ (ZK a b)).1⟩,fun c=>q.1.srt (k-1) k (by omega) (by omega) b⟩,q.2⟩
   ·simp (disch:=omega) only [pz,in_ok];exact IsQ.f fun q=>h3 q.1.l1
 ·simp (disch:=omega) only [pz,in_ok];exact IsQ.f fun q=>h1 ⟨q.1.n0,q.1.n1⟩
theorem Zph {g:ZaK} (hs:Sz2 g.Elements):IsQ (ZfW g) (ValidGr g):=by
 unfold ZfW ZjE
 by_cases h1:1≤g.Degree∧g.Degree≤32
 ·by_cases h2:1≤(g.Elements.length:Int)
  ·by_cases h3:(g.Elements.length:Int)≤720
   ·by_cases hp:∀ p∈g.Elements,(p.length:Int)=g.Degree∧IsP p
    ·have hq:=(Zjg (n:=g.Degree) hs).eq hp
     simp (disch:=omega) only [pz,ZP,hq]
     refine (Zaj (P:=fun k=>cmpL (ix g.Elements (k-1)) (ix g.Elements k)<0) (i:=1) (n:=g.Elements.length) (Q:=Grp g.Degree g.Elements) (by omega) ?_ ?_ fun hall=>?_).congr ?_
     ·intro k g0 g1 a
      have hr2:=hs.row (k:=k-1) (by omega) (by omega)
      have hc:=Zd1 (a:=ix g.Elements (k-1)) (b:=ix g.Elements k) (by omega)
      simp (disch:=omega) only [pz,Zc9,hc]
     ·intro k g0 g1 a
      have hr2:=hs.row (k:=k-1) (by omega) (by omega)
      have hc:=Zd1 (a:=ix g.Elements (k-1)) (b:=ix g.Elements k) (by omega)
      simp (disch:=omega) only [pz,Zc9,hc]
     ·have hE:EOk g.Degree g.Elements:=⟨h1.1,h1.2,h2,h3,hp,ZiS fun k a b=>hall k (by omega) b⟩
      obtain ⟨gg,a,c,q1,q2⟩:=ZAO hE
      cases c with
      | false=>
       rw [Zc (r:=false) (by simp (disch:=omega) only [pz,Zc9,q1])]
       exact IsQ.f fun hg=>by have:=(q2.2 hg).1;simp at this
      | true=>
       by_cases hl:a.length=g.Elements.length
       ·rw [Zc (r:=true) (by simp (disch:=omega) only [pz,Zc9,q1])]
        exact IsQ.t (q2.1 ⟨rfl,hl⟩)
       ·have hl':¬ (a.length:Int)=(g.Elements.length:Int):=by omega
        rw [Zc (r:=false) (by simp (disch:=omega) only [pz,Zc9,q1])]
        exact IsQ.f fun hg=>hl (q2.2 hg).2
     ·constructor
      ·intro q
       exact ⟨⟨h1.1,h1.2,h2,h3,hp,ZiS fun k a b=>q.1 k (by omega) b⟩,q.2⟩
      ·intro q
       exact ⟨fun k a b=>q.1.srt (k-1) k (by omega) (by omega) b,q.2⟩
    ·have hq:=(Zjg (n:=g.Degree) hs).ne hp
     simp (disch:=omega) only [pz,ZP,hq];exact IsQ.f fun q=>hp q.1.prm
   ·simp (disch:=omega) only [pz,ZP];exact IsQ.f fun q=>h3 q.1.l1
  ·simp (disch:=omega) only [pz,ZP];exact IsQ.f fun q=>h2 q.1.l0
 ·simp (disch:=omega) only [pz,ZP];exact IsQ.f fun q=>h1 ⟨q.1.n0,q.1.n1⟩
end Go.Proofs.YtmmbnjijjdakmaaGreatDoor
