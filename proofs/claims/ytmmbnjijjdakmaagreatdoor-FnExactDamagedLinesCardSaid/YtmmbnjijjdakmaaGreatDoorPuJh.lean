import Derived.Test.YtmmbnjijjdakmaaGreatDoorPuTxt
import Derived.Test.YtmmbnjijjdakmaaGreatDoorPuJg
import Derived.Lib.ParseIntB
import Derived.Test.YtmmbnjijjdakmaaGreatDoorPuFam
namespace Go.Proofs.YtmmbnjijjdakmaaGreatDoor
open Go Go.Vc Go.Lib
set_option linter.unusedSimpArgs false
set_option linter.unusedVariables false
theorem gFitW {a b:ByteArray} (h:a.size+b.size≤4000000000000000000):gFit a b=some ():=by
 unfold gFit
 rw [if_pos]
 have:IntKind.i64.max=9223372036854775807:=rfl
 omega
def bl (l:List UInt8):ByteArray:=⟨l.toArray⟩
theorem Zaa (b:ByteArray):bl b.data.toList=b:=by cases b;rfl
theorem ZO (l:List UInt8):(bl l).size=l.length:=by show l.toArray.size=_;simp
theorem Za7 (l r:List UInt8):bl l++bl r=bl (l++r):=by
 apply ByteArray.ext
 rw [ByteArray.data_append]
 show l.toArray++r.toArray=(l++r).toArray
 simp
theorem ZaL (a b:ByteArray):(a++b).size=a.size+b.size:=by simp
theorem Zit (x s:ByteArray):joinB [x] s=x:=by
 unfold joinB
 rw [List.map_cons,List.map_nil,join_one]
theorem Zn0 (x:ByteArray) (r:List ByteArray) (s:ByteArray):joinB (x::r) s=bl (x.data.toList++joinTail s.data.toList (r.map (·.data.toList))):=by
 unfold joinB
 rw [List.map_cons,join_cons];rfl
theorem Zf1 {l:List ByteArray} (h:l≠[]) (x s:ByteArray):joinB (l++[x]) s=joinB l s++s++x:=by
 cases l with
 | nil=>exact absurd rfl h
 | cons a r=>
  rw [List.cons_append,Zn0,Zn0,List.map_append]
  conv=>rhs;rw [←Zaa s,←Zaa x,Za7,Za7]
  congr 1
  rw [Zaa]
  simp [joinTail]
theorem Zol {l:List ByteArray} {s:ByteArray} {m:Nat} (h:∀ x∈l,x.size≤m):(joinB l s).size≤(m+s.size)*l.length:=by
 cases l with
 | nil=>exact Nat.zero_le _
 | cons a r=>
  have hl:∀ (r:List ByteArray),(∀ x∈r,x.size≤m)→lens (r.map (·.data.toList))≤m*r.length:=by
   intro r
   induction r with
   | nil=>intro _;exact Nat.zero_le _
   | cons b t ih=>
    intro hb
    have h1:=ih fun x hx=>hb x (List.mem_cons_of_mem _ hx)
    have h2:=hb b (List.mem_cons_self ..)
    have h3:b.data.toList.length=b.size:=by rw [Array.length_toList];rfl
    simp only [lens,List.map_cons,List.sum_cons,List.length_cons] at h1 ⊢
    rw [Nat.mul_succ]
    omega
  have h1:=hl r fun x hx=>h x (List.mem_cons_of_mem _ hx)
  have h2:=h a (List.mem_cons_self ..)
  have h3:a.data.toList.length=a.size:=by rw [Array.length_toList];rfl
  have h4:s.data.toList.length=s.size:=by rw [Array.length_toList];rfl
  rw [Zn0,ZO,List.length_append,joinTail_length,List.length_map,h3,h4,List.length_cons,Nat.add_mul,Nat.mul_succ,Nat.mul_succ]
  omega
theorem dgl:∀ (m u:Nat),u<10^(m+1)→(decDigits u).length≤m+1:=by
 intro m
 induction m with
 | zero=>
  intro u h
  rw [decDigits,dif_pos (by simpa using h)]
  exact Nat.le_refl _
 | succ m ih=>
  intro u h
  rw [decDigits]
  split
  ·simp
  ·have e:10^(m+1+1)=10^(m+1)*10:=Nat.pow_succ ..
   have:=ih (u/10) (by omega)
   rw [List.length_append,List.length_singleton]
   omega
theorem ZpA {n:Int} (m:Nat) (h1:-10^(m+1)<n) (h2:n<10^(m+1)):(itoaB n).size≤m+2:=by
 have e:(10:Int)^(m+1)=((10^(m+1):Nat):Int):=by simp
 rw [e] at h1 h2
 show (itoa n).toArray.size≤_
 unfold itoa
 split
 ·have:=dgl m n.natAbs (by omega)
  simp;omega
 ·have:=dgl m n.toNat (by omega)
  simp;omega
theorem tq (k:Int):(0≤k→Int.tmod k 10=((k.natAbs%10:Nat):Int)∧Int.tdiv k 10=((k.natAbs/10:Nat):Int))∧(k<0→Int.tmod k 10=-((k.natAbs%10:Nat):Int)∧Int.tdiv k 10=-((k.natAbs/10:Nat):Int)):=by
 refine ⟨fun h=>?_,fun h=>?_⟩
 ·rw [Int.tmod_eq_emod_of_nonneg h,Int.tdiv_eq_ediv_of_nonneg h]
  omega
 ·obtain ⟨j,rfl⟩:∃ j,k=-j:=⟨-k,by omega⟩
  rw [Int.neg_tmod,Int.neg_tdiv,Int.tmod_eq_emod_of_nonneg (by omega),Int.tdiv_eq_ediv_of_nonneg (by omega)]
  omega
def nums (l:List UInt8):List Int:=l.map fun b=>(b.toNat:Int)
theorem ZvC (l:List UInt8):gByt (nums l)=some (bl l):=by
 unfold gByt
 rw [if_pos]
 ·congr 1
  unfold bstr nums bl
  congr 2
  rw [List.map_map]
  conv=>rhs;rw [←List.map_id l]
  refine List.map_congr_left fun x _=>?_
  simp
 ·intro x hx
  obtain ⟨b,_,rfl⟩:=List.mem_map.1 hx
  have:=b.toNat_lt
  omega
theorem ZvR {n0 k:Int} {out:List Int} (hk:¬ k=0) (h1:-9223372036854775808≤k) (h2:k≤9223372036854775807) (ho:out.length≤100):
  ZaS n0 (out,k)=some (.inl (((48+k.natAbs%10:Nat):Int)::out,Int.tdiv k 10)):=by
 have hm:k.natAbs%10<10:=Nat.mod_lt _ (by omega)
 have k1:∀ d:Int,d=((k.natAbs%10:Nat):Int)→Zej out k d=some (.inl (((48+k.natAbs%10:Nat):Int)::out,Int.tdiv k 10)):=by
  intro d hd
  have w1:IntKind.i64.wrap (48+d)=48+d:=Zak (by omega) (by omega)
  have w2:IntKind.u8.wrap (48+d)=48+d:=u8_of (by omega) (by omega)
  have w3:IntKind.i64.wrap (Int.tdiv k 10)=Int.tdiv k 10:=by
   by_cases hp:0≤k
   ·have:=((tq k).1 hp).2;exact Zak (by omega) (by omega)
   ·have:=((tq k).2 (by omega)).2;exact Zak (by omega) (by omega)
  have g:gApp 1 [48+d] out=some ([48+d]++out):=ZdF (by simp;omega) (by simp;omega)
  unfold Zej
  rw [w1,w2,g]
  simp (disch:=omega) only [pz,w3]
  rw [hd]
  simp
 by_cases hp:0≤k
 ·have hd:=((tq k).1 hp).1
  have hn:¬ Int.tmod k 10<0:=by omega
  simp (disch:=omega) only [pz,ZaS,k1 _ hd]
 ·have hd:=((tq k).2 (by omega)).1
  by_cases hz:Int.tmod k 10<0
  ·have w:IntKind.i64.wrap (0-Int.tmod k 10)=0-Int.tmod k 10:=Zak (by omega) (by omega)
   simp (disch:=omega) only [pz,ZaS,w,k1 (0-Int.tmod k 10) (by omega)]
  ·simp (disch:=omega) only [pz,ZaS,k1 (Int.tmod k 10) (by omega)]
theorem ZyQ (n0:Int):∀ (m:Nat) (k:Int) (out:List Int),¬ k=0→k.natAbs<10^m→-9223372036854775808≤k→k≤9223372036854775807→out.length+m≤100 →
  loop (ZaS n0) (out,k)=loop (ZaS n0) (nums (decDigits k.natAbs)++out,0):=by
 intro m
 induction m with
 | zero=>intro k out hk h;exact absurd (by simp at h;omega) hk
 | succ m ih=>
  intro k out hk h h1 h2 ho
  rw [ZI (ZvR hk h1 h2 (by omega))]
  have hm:k.natAbs%10<10:=Nat.mod_lt _ (by omega)
  have hu:(Int.tdiv k 10).natAbs=k.natAbs/10:=by
   by_cases hp:0≤k
   ·have:=((tq k).1 hp).2;omega
   ·have:=((tq k).2 (by omega)).2;omega
  have hx:((UInt8.ofNat (48+k.natAbs%10)).toNat:Int)=((48+k.natAbs%10:Nat):Int):=by
   rw [UInt8.toNat_ofNat'];omega
  by_cases hz:k.natAbs<10
  ·have e0:Int.tdiv k 10=0:=by omega
   have hx2:k.natAbs%10=k.natAbs:=by omega
   rw [e0,decDigits,dif_pos hz]
   rw [hx2] at hx ⊢
   unfold nums
   rw [List.map_cons,List.map_nil,hx];rfl
  ·have e:10^(m+1)=10^m*10:=Nat.pow_succ ..
   rw [ih (Int.tdiv k 10) _ (by omega) (by rw [hu];omega) (by
    by_cases hp:0≤k
    ·have:=((tq k).1 hp).2;omega
    ·have:=((tq k).2 (by omega)).2;omega) (by
    by_cases hp:0≤k
    ·have:=((tq k).1 hp).2;omega
    ·have:=((tq k).2 (by omega)).2;omega) (by rw [List.length_cons];omega),hu]
   conv=>rhs;rw [decDigits,dif_neg hz]
   unfold nums
   rw [List.map_append,List.map_cons,List.map_nil,hx]
   simp
theorem dgn (u:Nat):0<(decDigits u).length:=by
 rw [decDigits];split<;>simp
theorem ZiY {n:Int} (h1:-9223372036854775808≤n) (h2:n≤9223372036854775807):Zcg n=some (itoaB n):=by
 unfold Zcg
 by_cases h0:n=0
 ·subst h0
  rw [Zc (r:=⟨#[48]⟩) (by simp (disch:=omega) only [pz,ZaS,List.length_nil])]
  congr 1
  unfold itoaB itoa
  rw [if_neg (by omega),decDigits,dif_pos (by decide)]
  rfl
 ·rw [ZyQ n 19 n [] h0 (by omega) h1 h2 (by decide),List.append_nil]
  have hl:=dgn n.natAbs
  have hn:(nums (decDigits n.natAbs)).length=(decDigits n.natAbs).length:=List.length_map ..
  have hs:=ZvC (decDigits n.natAbs)
  have hd:=dgl 19 n.natAbs (by omega)
  have hz:¬ ((nums (decDigits n.natAbs)).length:Int)=0:=by omega
  by_cases hp:n<0
  ·have hf:gFit ⟨#[45]⟩ (bl (decDigits n.natAbs))=some ():=gFitW (by rw [ZO];show 1+_≤_;omega)
   rw [Zc (r:=(⟨#[45]⟩:ByteArray)++bl (decDigits n.natAbs)) (by simp (disch:=omega) only [pz,ZaS,hs,hf])]
   congr 1
   unfold itoaB itoa
   rw [if_pos hp]
   exact Za7 [45] _
  ·rw [Zc (r:=bl (decDigits n.natAbs)) (by simp (disch:=omega) only [pz,ZaS,hs])]
   congr 1
   unfold itoaB itoa
   rw [if_neg hp,show n.natAbs=n.toNat by omega]
   rfl
theorem ZeF {n:Int} (h1:-9223372036854775808≤n) (h2:n≤9223372036854775807):ZbM n=some (itoaB n):=by
 unfold ZbM ZjS
 rw [if_pos ⟨rfl,h1,h2⟩];rfl
end Go.Proofs.YtmmbnjijjdakmaaGreatDoor
namespace Go.Proofs.YtmmbnjijjdakmaaGreatDoor
set_option linter.unusedVariables false
open Go Go.Vc Go.Lib
set_option linter.unusedSimpArgs false
theorem Zyi (b:ByteArray):(⟨#[]⟩:ByteArray)++b=b:=by
 have:=Za7 [] b.data.toList
 rw [Zaa] at this
 rw [show (⟨#[]⟩:ByteArray)=bl [] from rfl,this,List.nil_append,Zaa]
theorem ZkQ (a b c:ByteArray):(a++b)++c=a++(b++c):=by
 rw [←Zaa a,←Zaa b,←Zaa c,Za7,Za7,Za7,Za7,List.append_assoc]
theorem ZqM {l:List ByteArray} {s:ByteArray} (h1:l.length≤140737488355328) (h2:(joinB l s).size≤140737488355328):Ze1 l s=some (joinB l s):=by
 unfold Ze1
 rw [if_pos ⟨h1,h2⟩]
theorem Zpg {α:Type} [Inhabited α] {xs:List α} {f:α→ByteArray} {s:ByteArray} {k:Int} (h0:0<k) (h1:k<(xs.length:Int)):
  joinB ((xs.take (k+1).toNat).map f) s=joinB ((xs.take k.toNat).map f) s++s++f (ix xs k):=by
 rw [Zbo (by omega) h1,List.map_append,List.map_cons,List.map_nil,Zf1]
 intro e
 have:=congrArg List.length e
 rw [List.length_map,List.length_take,List.length_nil] at this
 omega
theorem ZqX {α:Type} [Inhabited α] {xs:List α} {f:α→ByteArray} {s:ByteArray} (h1:0<(xs.length:Int)):
  joinB ((xs.take ((0:Int)+1).toNat).map f) s=f (ix xs 0):=by
 rw [Zbo (by omega) h1]
 exact Zit _ _
theorem Zfb {α β:Type} [Inhabited α] {xs:List α} {f:α→β} {k:Int} (h0:0≤k) (h1:k<(xs.length:Int)):(xs.take (k+1).toNat).map f=(xs.take k.toNat).map f++[f (ix xs k)]:=by
 rw [Zbo h0 h1,List.map_append];rfl
theorem jsize {α:Type} {xs:List α} {f:α→ByteArray} {s:ByteArray} {m N:Nat} (hf:∀ x∈xs,(f x).size≤m) (hl:xs.length≤N) (i:Nat):(joinB ((xs.take i).map f) s).size≤(m+s.size)*N:=by
 refine Nat.le_trans (Zol (m:=m) fun y hy=>?_) (Nat.mul_le_mul_left _ ?_)
 ·obtain ⟨x,hx,rfl⟩:=List.mem_map.1 hy
  exact hf x (List.mem_of_mem_take hx)
 ·rw [List.length_map,List.length_take];omega
def InR (x:Int):Prop:=-999999999≤x∧x≤999999999
theorem ZeX {x:Int} (h:InR x):(itoaB x).size≤10:=ZpA 8 (by have:=h.1;omega) (by have:=h.2;omega)
noncomputable def tL (xs:List Int):ByteArray:=@ite _ (xs.length≤100∧∀ x∈xs,InR x) (Classical.propDecidable _) (if xs=[] then ⟨#[45]⟩ else joinB (xs.map itoaB) ⟨#[44]⟩) ⟨#[]⟩
theorem tL_t {xs:List Int} (h:xs.length≤100∧∀ x∈xs,InR x) (hn:xs≠[]):tL xs=joinB (xs.map itoaB) ⟨#[44]⟩:=by unfold tL;rw [if_pos h,if_neg hn]
theorem tL_n {xs:List Int} (hn:xs=[]):tL xs=⟨#[45]⟩:=by
 subst hn
 unfold tL
 rw [if_pos ⟨by decide,fun x hx=>by cases hx⟩,if_pos rfl]
theorem tL_f {xs:List Int} (h:¬ (xs.length≤100∧∀ x∈xs,InR x)):tL xs=⟨#[]⟩:=by unfold tL;rw [if_neg h]
theorem ZmX (xs:List Int):(tL xs).size≤1100:=by
 by_cases hn:xs=[]
 ·rw [tL_n hn];show 1≤_;omega
 ·by_cases h:xs.length≤100∧∀ x∈xs,InR x
  ·rw [tL_t h hn]
   have:=jsize (xs:=xs) (f:=itoaB) (s:=⟨#[44]⟩) (m:=10) (N:=100) (fun x hx=>ZeX (h.2 x hx)) h.1 xs.length
   rw [List.take_length] at this
   exact this
  ·rw [tL_f h];show 0≤_;omega
theorem ZjB {n:Int} (hn:0≤n) (P:Int→Prop):(∃ k,0≤k∧k<n∧P k∧∀ j,0≤j→j<k→¬ P j)∨∀ j,0≤j→j<n→¬ P j:=by
 rcases ZbI (σ:=Int) (ρ:=Unit) (B:=fun k=>some (.inl (k+1))) (fun k=>k) P hn (fun k _ _ _=>rfl) with ⟨k,h1,h2,h3,h4,_⟩|⟨h,_⟩
 ·exact .inl ⟨k,h1,h2,h3,h4⟩
 ·exact .inr h
theorem ZtM {xs:List Int} {n:Int} (hn:n≤(xs.length:Int)) (h:∀ j,0≤j→j<n→InR (ix xs j)):∀ x∈xs.take n.toNat,InR x:=by
 intro x hx
 obtain ⟨i,h0,h1,rfl⟩:=Z4 hx
 rw [List.length_take] at h1
 rw [Zdf h0 (by omega)]
 exact h i h0 (by omega)
theorem ZqN {xs:List Int} {n:Int} (h0:0≤n) (hn:n≤(xs.length:Int)) (hl:xs.length≤100) (h:∀ j,0≤j→j<n→InR (ix xs j)):
  loop (Zbj xs) (⟨#[]⟩,0)=loop (Zbj xs) (joinB ((xs.take n.toNat).map itoaB) ⟨#[44]⟩,n):=by
 refine ZA (fun k:Int=>(joinB ((xs.take k.toNat).map itoaB) ⟨#[44]⟩,k)) h0 fun k k0 k1=>?_
 have hk:=h k k0 k1
 have hd:=ZiY (n:=ix xs k) (by have:=hk.1;omega) (by have:=hk.2;omega)
 have hz:=ZeX hk
 have hlk:(xs.take k.toNat).length≤100:=by rw [List.length_take];omega
 have hj:=Zol (l:=(xs.take k.toNat).map itoaB) (s:=⟨#[44]⟩) (m:=10) fun y hy=>by
  obtain ⟨x,hx,rfl⟩:=List.mem_map.1 hy
  exact ZeX (ZtM (n:=k) (by omega) (fun j a b=>h j a (by omega)) x hx)
 rw [List.length_map] at hj
 have hj2:(joinB ((xs.take k.toNat).map itoaB) ⟨#[44]⟩).size≤1100:=Nat.le_trans hj (Nat.mul_le_mul_left 11 hlk)
 have hi:ZE (ix xs k) (-999999999) 999999999=some true:=by
  have:=hk.1;have:=hk.2
  simp (disch:=omega) only [pz,ZE]
 by_cases hz0:k=0
 ·subst hz0
  rw [ZqX (by omega)]
  have f2:gFit ⟨#[]⟩ (itoaB (ix xs 0))=some ():=gFitW (by show 0+_≤_;omega)
  have e0:joinB ((xs.take (0:Int).toNat).map itoaB) ⟨#[44]⟩=⟨#[]⟩:=rfl
  rw [e0]
  simp (disch:=omega) only [pz,Zbj,ZeJ,hi,hd,f2,Zyi]
 ·rw [Zpg (by omega) (by omega)]
  generalize joinB ((xs.take k.toNat).map itoaB) ⟨#[44]⟩=out at hj2
  have f1:gFit out ⟨#[44]⟩=some ():=gFitW (by show out.size+1≤_;omega)
  have f2:gFit (out++⟨#[44]⟩) (itoaB (ix xs k))=some ():=gFitW (by rw [ZaL];show out.size+1+_≤_;omega)
  simp (disch:=omega) only [pz,Zbj,ZeJ,hi,hd,f1,f2]
theorem ZqC {xs:List Int}:(∀ x∈xs,InR x)↔∀ j,0≤j→j<(xs.length:Int)→InR (ix xs j):=
 ⟨fun h j a b=>h _ (ZK a b),fun h x hx=>by obtain ⟨i,a,b,rfl⟩:=Z4 hx;exact h i a b⟩
theorem Zt1 (xs:List Int):Zhk xs=some (tL xs):=by
 unfold Zhk
 by_cases hl:xs.length≤100
 ·by_cases hn:xs=[]
  ·rw [tL_n hn];subst hn;simp (disch:=omega) only [pz,List.length_nil]
  ·have hp:0<(xs.length:Int):=by
    cases xs with
    | nil=>exact absurd rfl hn
    | cons a t=>simp
   rcases ZjB (n:=xs.length) (by omega) (fun k=>¬ InR (ix xs k)) with ⟨k,k0,k1,hk,hb⟩|hb
   ·rw [tL_f fun h=>hk (ZqC.1 h.2 k k0 k1)]
    have e:=ZqN (xs:=xs) (n:=k) k0 (by omega) hl fun j a b=>Classical.not_not.1 (hb j a b)
    have hi:ZE (ix xs k) (-999999999) 999999999=some false:=by
     by_cases h1:-999999999≤ix xs k
     ·have:¬ ix xs k≤999999999:=fun h2=>hk ⟨h1,h2⟩
      simp (disch:=omega) only [pz,ZE]
     ·simp (disch:=omega) only [pz,ZE]
    have e2:loop (Zbj xs) (⟨#[]⟩,0)=some ⟨#[]⟩:=by
     rw [e]
     exact Zc (by simp (disch:=omega) only [pz,Zbj,hi])
    simp (disch:=omega) only [pz,e2]
   ·have ha:∀ j,0≤j→j<(xs.length:Int)→InR (ix xs j):=fun j a b=>Classical.not_not.1 (hb j a b)
    rw [tL_t ⟨hl,ZqC.2 ha⟩ hn]
    have e:=ZqN (xs:=xs) (n:=xs.length) (by omega) (by omega) hl ha
    rw [Int.toNat_natCast,List.take_length] at e
    have e2:loop (Zbj xs) (⟨#[]⟩,0)=some (joinB (xs.map itoaB) ⟨#[44]⟩):=by
     rw [e]
     exact Zc (by simp (disch:=omega) only [pz,Zbj])
    simp (disch:=omega) only [pz,e2]
 ·rw [tL_f fun h=>hl h.1]
  simp (disch:=omega) only [pz,]
theorem Zow (xs:List Int):ZeL xs=some (tL xs):=by
 unfold ZeL
 by_cases hl:xs.length≤100
 ·have hc:=containsL (s:=xs) (fn:=fun y0=>Zdc y0) (q:=fun x=>¬ InR x) (by omega) fun x hx=>by
   by_cases h1:-999999999≤x
   ·by_cases h2:x≤999999999
    ·simp (disch:=omega) only [pz,Zdc,ZG]
     exact IsQ.f fun h=>h ⟨h1,h2⟩
    ·simp (disch:=omega) only [pz,Zdc,ZG]
     exact IsQ.t fun h=>h2 h.2
   ·simp (disch:=omega) only [pz,Zdc,ZG]
    exact IsQ.t fun h=>h1 h.1
  by_cases ha:∀ x∈xs,InR x
  ·have hc2:=hc.ne fun ⟨x,hx,h⟩=>h (ha x hx)
   by_cases hn:xs=[]
   ·rw [tL_n hn];subst hn;simp (disch:=omega) only [pz,hc2,Zg2,List.length_nil]
   ·rw [tL_t ⟨hl,ha⟩ hn]
    have hp:0<(xs.length:Int):=by
     cases xs with
     | nil=>exact absurd rfl hn
     | cons a t=>simp
    have e:loop (ZdN xs) ([],0)=some (joinB (xs.map itoaB) ⟨#[44]⟩):=by
     have e1:=ZA (B:=ZdN xs) (fun k:Int=>((xs.take k.toNat).map itoaB,k)) (i:=0) (n:=xs.length) (by omega) fun k k0 k1=>by
      have hk:=ha _ (ZK k0 k1)
      have hd:=ZeF (n:=ix xs k) (by have:=hk.1;omega) (by have:=hk.2;omega)
      have hlk:((xs.take k.toNat).map itoaB).length≤100:=by rw [List.length_map,List.length_take];omega
      rw [Zfb k0 k1]
      have hg:gApp 16 ((xs.take k.toNat).map itoaB) [itoaB (ix xs k)]=some ((xs.take k.toNat).map itoaB++[itoaB (ix xs k)]):=gApp1 (by omega) (by omega)
      simp (disch:=omega) only [pz,ZdN,hd,hg]
     rw [Int.toNat_natCast,List.take_length] at e1
     refine e1.trans (Zc ?_)
     have hj:=jsize (xs:=xs) (f:=itoaB) (s:=⟨#[44]⟩) (m:=10) (N:=100) (fun x hx=>ZeX (ha x hx)) hl xs.length
     rw [List.take_length] at hj
     have hq:=ZqM (l:=xs.map itoaB) (s:=⟨#[44]⟩) (by rw [List.length_map];omega) (Nat.le_trans hj (by decide))
     simp (disch:=omega) only [pz,ZdN,hq]
    simp (disch:=omega) only [pz,hc2,Zg2,e]
  ·have hc2:=hc.eq (by
    refine Classical.byContradiction fun h=>ha fun x hx=>Classical.not_not.1 fun hh=>h ⟨x,hx,hh⟩)
   rw [tL_f fun h=>ha h.2]
   simp (disch:=omega) only [pz,hc2]
 ·rw [tL_f fun h=>hl h.1]
  simp (disch:=omega) only [pz,]
theorem Zv2 {k:Int} (h1:1≤k) (h7:k≤7):∃ l s,ZdV=some l∧gIdx l k=some s∧Zf4 k=some s∧s.size≤10∧32∉s.data.toList:=by
 have hk:k=1∨k=2∨k=3∨k=4∨k=5∨k=6∨k=7:=by omega
 have w:IntKind.i64.wrap (k-1)=k-1:=Zak (by omega) (by omega)
 have hw:ZG k 1 7=some true:=by simp (disch:=omega) only [pz,ZG]
 have hi:ZgP k=some true:=by simp (disch:=omega) only [pz,ZgP,hw]
 unfold Zf4 ZdV ZeQ
 rw [hi,w]
 rcases hk with rfl|rfl|rfl|rfl|rfl|rfl|rfl<;>exact ⟨_,_,rfl,rfl,rfl,by decide,by decide⟩
theorem ZsI {o:Zf} (h:ZaF o=some true):1≤o.Kind∧o.Kind≤7:=by
 refine Classical.byContradiction fun hn=>?_
 have:ZaF o=some false:=by
  unfold ZaF
  by_cases h1:o.Kind<1
  ·simp (disch:=omega) only [pz,]
  ·simp (disch:=omega) only [pz,]
 rw [this] at h
 cases h
noncomputable def tR (rows:List (List Int)):ByteArray:=if rows=[] then ⟨#[110,111,110,101]⟩ else joinB (rows.map tL) ⟨#[47]⟩
theorem ZvK {rows:List (List Int)} (h:rows.length≤1048576):(tR rows).size≤1154482176:=by
 unfold tR
 split
 ·show 4≤_;omega
 ·have:=jsize (xs:=rows) (f:=tL) (s:=⟨#[47]⟩) (m:=1100) (N:=1048576) (fun x _=>ZmX x) h rows.length
  rw [List.take_length] at this
  exact this
theorem Zu6 {o:Zf} {pre:ByteArray} (hp:pre.size≤100) (h:o.Rows.length≤1048576) (hne:o.Rows≠[]):
  loop (Za4 o) (pre,0)=some (pre++tR o.Rows):=by
 have e:tR o.Rows=joinB (o.Rows.map tL) ⟨#[47]⟩:=by unfold tR;rw [if_neg hne]
 rw [e]
 have e1:=ZA (B:=Za4 o) (fun k:Int=>(pre++joinB ((o.Rows.take k.toNat).map tL) ⟨#[47]⟩,k)) (i:=0) (n:=o.Rows.length) (by omega) fun k k0 k1=>by
  have hj:=jsize (xs:=o.Rows) (f:=tL) (s:=⟨#[47]⟩) (m:=1100) (N:=1048576) (fun x _=>ZmX x) h k.toNat
  have hs:=ZmX (ix o.Rows k)
  have hl:=Zt1 (ix o.Rows k)
  have hj2:(joinB ((o.Rows.take k.toNat).map tL) ⟨#[47]⟩).size≤1154482176:=hj
  by_cases hz0:k=0
  ·subst hz0
   rw [ZqX (by omega)]
   have e0:joinB ((o.Rows.take (0:Int).toNat).map tL) ⟨#[47]⟩=⟨#[]⟩:=rfl
   have e00:pre++(⟨#[]⟩:ByteArray)=pre:=by
    have:=Za7 pre.data.toList []
    rw [Zaa,List.append_nil,Zaa] at this
    exact this
   rw [e0,e00]
   have f2:gFit pre (tL (ix o.Rows 0))=some ():=gFitW (by omega)
   simp (disch:=omega) only [pz,Za4,Zcm,hl,f2]
  ·rw [Zpg (by omega) (by omega)]
   generalize joinB ((o.Rows.take k.toNat).map tL) ⟨#[47]⟩=out at hj2
   have f1:gFit (pre++out) ⟨#[47]⟩=some ():=gFitW (by rw [ZaL];show _+1≤_;omega)
   have f2:gFit ((pre++out)++⟨#[47]⟩) (tL (ix o.Rows k))=some ():=gFitW (by rw [ZaL,ZaL];show _+1+_≤_;omega)
   have e3:pre++(out++⟨#[47]⟩++tL (ix o.Rows k))=pre++out++⟨#[47]⟩++tL (ix o.Rows k):=by rw [ZkQ,ZkQ,ZkQ]
   rw [e3]
   simp (disch:=omega) only [pz,Za4,Zcm,hl,f1,f2]
 have e0:pre++joinB ((o.Rows.take (0:Int).toNat).map tL) ⟨#[47]⟩=pre:=by
  have:=Za7 pre.data.toList []
  rw [Zaa,List.append_nil,Zaa] at this
  exact this
 rw [Int.toNat_natCast,List.take_length] at e1
 have e1':loop (Za4 o) (pre,0)=loop (Za4 o) (pre++joinB (o.Rows.map tL) ⟨#[47]⟩,(o.Rows.length:Int)):=by
  have e2:loop (Za4 o) (pre++joinB ((o.Rows.take (0:Int).toNat).map tL) ⟨#[47]⟩,0)=_:=e1
  rwa [e0] at e2
 rw [e1']
 exact Zc (by simp (disch:=omega) only [pz,Za4])
theorem Zwt {o:Zf} (h1:1≤o.Kind) (h7:o.Kind≤7) (hs:-9223372036854775808≤o.Size∧o.Size≤9223372036854775807) (h:o.Rows.length≤1048576):
  ∃ t,Zhi o=some t∧(ZaF o=some true→ZhH o=some t)∧t.size≤1154482300∧∃ s:ByteArray,32∉s.data.toList∧t=(((s++⟨#[32]⟩)++itoaB o.Size)++⟨#[32]⟩)++tR o.Rows:=by
 obtain ⟨l,s,n1,n2,n3,n4,n5⟩:=Zv2 h1 h7
 have d1:=ZiY hs.1 hs.2
 have d2:=ZeF hs.1 hs.2
 have dz:=ZpA (n:=o.Size) 18 (by omega) (by omega)
 have z32:(⟨#[32]⟩:ByteArray).size=1:=rfl
 have f1:gFit s ⟨#[32]⟩=some ():=gFitW (by omega)
 have f2:gFit (s++⟨#[32]⟩) (itoaB o.Size)=some ():=gFitW (by rw [ZaL];omega)
 have f3:gFit ((s++⟨#[32]⟩)++itoaB o.Size) ⟨#[32]⟩=some ():=gFitW (by rw [ZaL,ZaL];omega)
 have hz:=ZvK h
 have hp:(((s++⟨#[32]⟩)++itoaB o.Size)++⟨#[32]⟩).size≤100:=by rw [ZaL,ZaL,ZaL];omega
 have f4:gFit (((s++⟨#[32]⟩)++itoaB o.Size)++⟨#[32]⟩) (tR o.Rows)=some ():=gFitW (by omega)
 have k1:Ze0 o (tR o.Rows)=some ((((s++⟨#[32]⟩)++itoaB o.Size)++⟨#[32]⟩)++tR o.Rows):=by
  unfold Ze0
  simp (disch:=omega) only [pz,n3,d2,f1,f2,f3,f4]
 have e:Zf.mk o.Kind o.Size o.Rows=o:=rfl
 refine ⟨(((s++⟨#[32]⟩)++itoaB o.Size)++⟨#[32]⟩)++tR o.Rows,?_,fun hv=>?_,by rw [ZaL];omega,s,n5,rfl⟩
 ·unfold Zhi
  by_cases hn:o.Rows=[]
  ·have er:tR o.Rows=⟨#[110,111,110,101]⟩:=by unfold tR;rw [if_pos hn]
   rw [er] at f4 ⊢
   have hl0:(o.Rows.length:Int)=0:=by rw [hn];rfl
   simp (disch:=omega) only [pz,n1,n2,d1,f1,f2,f3,f4]
  ·have hl0:¬ (o.Rows.length:Int)=0:=by
    intro h0
    exact hn (List.eq_nil_of_length_eq_zero (by omega))
   have hr:=Zu6 (o:=o) hp h hn
   simp (disch:=omega) only [pz,n1,n2,d1,f1,f2,f3,hr]
 ·unfold ZhH
  by_cases hn:o.Rows=[]
  ·have er:tR o.Rows=⟨#[110,111,110,101]⟩:=by unfold tR;rw [if_pos hn]
   rw [er] at k1 ⊢
   have hl0:(o.Rows.length:Int)=0:=by rw [hn];rfl
   simp (disch:=omega) only [pz,e,hv,k1]
  ·have hl0:0<(o.Rows.length:Int):=by
    have:o.Rows.length≠0:=fun h0=>hn (List.eq_nil_of_length_eq_zero h0)
    omega
   have er:tR o.Rows=joinB (o.Rows.map tL) ⟨#[47]⟩:=by unfold tR;rw [if_neg hn]
   have e1:=ZA (B:=Zdu o) (fun k:Int=>((o.Rows.take k.toNat).map tL,k)) (i:=0) (n:=o.Rows.length) (by omega) fun k a b=>by
    have hlt:=Zow (ix o.Rows k)
    have hlk:((o.Rows.take k.toNat).map tL).length≤1048576:=by rw [List.length_map,List.length_take];omega
    rw [Zfb a b]
    have hg:gApp 16 ((o.Rows.take k.toNat).map tL) [tL (ix o.Rows k)]=some ((o.Rows.take k.toNat).map tL++[tL (ix o.Rows k)]):=gApp1 (by omega) (by omega)
    simp (disch:=omega) only [pz,Zdu,hlt,hg]
   rw [Int.toNat_natCast,List.take_length] at e1
   have hq:=ZqM (l:=o.Rows.map tL) (s:=⟨#[47]⟩) (by rw [List.length_map];omega) (by rw [←er];omega)
   rw [er] at k1
   have e2:loop (Zdu o) ([],0)=some ((((s++⟨#[32]⟩)++itoaB o.Size)++⟨#[32]⟩)++joinB (o.Rows.map tL) ⟨#[47]⟩):=by
    refine Eq.trans e1 (Zc ?_)
    simp (disch:=omega) only [pz,Zdu,hq,k1]
   rw [er]
   simp (disch:=omega) only [pz,e,hv,e2]
end Go.Proofs.YtmmbnjijjdakmaaGreatDoor
namespace Go.Proofs.YtmmbnjijjdakmaaGreatDoor
set_option linter.unusedVariables false
open Go Go.Vc
set_option linter.unusedSimpArgs false
theorem Zcq (s:ByteArray):(byts s).length=s.size:=by
 unfold byts
 rw [List.length_map,Array.length_toList];rfl
theorem ZiC {s:ByteArray} {i:Int} (h0:0≤i) (h1:i<(s.size:Int)):∃ c:UInt8,gSt s i=some c∧(c.toNat:Int)=ix (byts s) i:=by
 have hl:i.toNat<s.size:=by omega
 refine ⟨s[i.toNat],?_,?_⟩
 ·unfold gSt
  rw [if_pos h0]
  exact getElem?_pos s i.toNat hl
 ·have hl2:i.toNat<(byts s).length:=by rw [Zcq];exact hl
  have:(byts s)[i.toNat]?=some ((s[i.toNat]).toNat:Int):=by
   rw [List.getElem?_eq_getElem hl2]
   simp [byts]
   rfl
  have h3:=Zap (xs:=byts s) h0 (by rw [Zcq];exact h1)
  rw [this] at h3
  exact Option.some.inj h3
structure Nam (s:ByteArray):Prop where
 s1:1≤(s.size:Int)
 s2:(s.size:Int)≤10
 fst:97≤ix (byts s) 0∧ix (byts s) 0≤122
 all:∀ i,0≤i→i<(s.size:Int)→(97≤ix (byts s) i∧ix (byts s) i≤122)∨(48≤ix (byts s) i∧ix (byts s) i≤57)
theorem Ztb (s:ByteArray):IsQ (Zeh s) (Nam s):=by
 unfold Zeh ZjN
 by_cases h0:(s.size:Int)=0
 ·have e:s=⟨#[]⟩:=by
   have:s.data=#[]:=Array.eq_empty_of_size_eq_zero (by have:s.size=s.data.size:=rfl;omega)
   cases s;simp at this;rw [this]
  rw [(ZY s ⟨#[]⟩).2 e]
  exact IsQ.f fun h=>by have:=h.s1;omega
 ·have ne:(s.toList==(⟨#[]⟩:ByteArray).toList)=false:=by
   cases hb:s.toList==(⟨#[]⟩:ByteArray).toList with
   | false=>rfl
   | true=>
    have:=(ZY s ⟨#[]⟩).1 hb
    rw [this] at h0
    exact absurd rfl h0
  rw [ne]
  by_cases h10:(s.size:Int)≤10
  ·obtain ⟨c,hc,he⟩:=ZiC (s:=s) (i:=0) (by omega) (by omega)
   by_cases hf:97≤ix (byts s) 0∧ix (byts s) 0≤122
   ·simp (disch:=omega) only [pz,hc,ZaN,he]
    refine (Zaj (P:=fun i=>(97≤ix (byts s) i∧ix (byts s) i≤122)∨(48≤ix (byts s) i∧ix (byts s) i≤57)) (n:=s.size) (Q:=True) (by omega) ?_ ?_ fun _=>?_).congr ⟨fun g=>⟨by omega,h10,hf,g.1⟩,fun g=>⟨g.all,trivial⟩⟩
    ·intro i g0 g1 g2
     obtain ⟨c,hc,he⟩:=ZiC (s:=s) g0 g1
     by_cases hl:97≤ix (byts s) i
     ·by_cases hl2:ix (byts s) i≤122
      ·simp (disch:=omega) only [pz,ZcL,hc,ZaN,ZaB,he]
      ·omega
     ·simp (disch:=omega) only [pz,ZcL,hc,ZaN,ZaB,he]
    ·intro i g0 g1 g2
     obtain ⟨c,hc,he⟩:=ZiC (s:=s) g0 g1
     by_cases hl:97≤ix (byts s) i
     ·simp (disch:=omega) only [pz,ZcL,hc,ZaN,ZaB,he]
     ·by_cases hd:48≤ix (byts s) i
      ·simp (disch:=omega) only [pz,ZcL,hc,ZaN,ZaB,he]
      ·simp (disch:=omega) only [pz,ZcL,hc,ZaN,ZaB,he]
    ·rw [Zc (r:=true) (by simp (disch:=omega) only [pz,ZcL])];exact IsQ.t trivial
   ·have hn:IsQ (some false) (Nam s):=IsQ.f fun h=>hf h.fst
    by_cases hl:97≤ix (byts s) 0
    ·simp (disch:=omega) only [pz,hc,ZaN,he];exact hn
    ·simp (disch:=omega) only [pz,hc,ZaN,he];exact hn
  ·simp (disch:=omega) only [pz,]
   exact IsQ.f fun h=>h10 h.s2
theorem ZsD (s:ByteArray):IsQ (Zed s) (Nam s):=by
 have hbl:=Zcq s
 unfold Zed ZjD
 by_cases h0:(s.size:Int)<1
 ·simp (disch:=omega) only [pz,]
  exact IsQ.f fun h=>by have:=h.s1;omega
 ·by_cases h10:(s.size:Int)≤10
  ·simp (disch:=omega) only [pz,]
   refine (Zaj (P:=fun i=>(97≤ix (byts s) i∧ix (byts s) i≤122)∨(¬ i=0∧48≤ix (byts s) i∧ix (byts s) i≤57)) (n:=s.size) (Q:=True) (by omega) ?_ ?_ fun _=>?_).congr ⟨fun g=>⟨by omega,h10,?_,fun i a b=>?_⟩,fun g=>⟨fun i a b=>?_,trivial⟩⟩
   ·intro i g0 g1 g2
    by_cases hl:97≤ix (byts s) i
    ·by_cases hl2:ix (byts s) i≤122
     ·simp (disch:=omega) only [pz,ZaY,ZaQ,ZaM]
     ·omega
    ·simp (disch:=omega) only [pz,ZaY,ZaQ,ZaM]
   ·intro i g0 g1 g2
    by_cases hl:97≤ix (byts s) i
    ·by_cases hz:i=0
     ·simp (disch:=omega) only [pz,ZaY,ZaQ,ZaM]
     ·simp (disch:=omega) only [pz,ZaY,ZaQ,ZaM]
    ·by_cases hz:i=0
     ·by_cases hd:48≤ix (byts s) i
      ·simp (disch:=omega) only [pz,ZaY,ZaQ,ZaM]
      ·simp (disch:=omega) only [pz,ZaY,ZaQ,ZaM]
     ·by_cases hd:48≤ix (byts s) i
      ·simp (disch:=omega) only [pz,ZaY,ZaQ,ZaM]
      ·simp (disch:=omega) only [pz,ZaY,ZaQ,ZaM]
   ·rw [Zc (r:=true) (by simp (disch:=omega) only [pz,ZaY])];exact IsQ.t trivial
   ·have:=g.1 0 (by omega) (by omega);omega
   ·have:=g.1 i a b;omega
   ·have h1:=g.all i a b
    have h2:=g.fst
    by_cases hz:i=0
    ·subst hz;exact .inl h2
    ·omega
  ·simp (disch:=omega) only [pz,]
   exact IsQ.f fun h=>h10 h.s2
end Go.Proofs.YtmmbnjijjdakmaaGreatDoor
namespace Go.Proofs.YtmmbnjijjdakmaaGreatDoor
set_option linter.unusedVariables false
open Go Go.Vc
set_option linter.unusedSimpArgs false
def cs (x:Nat):Nat:=if 32768≤x then (2*x%65536)^^^4129 else 2*x
def csn:Nat→Nat→Nat
 | 0,x=>x
 | n+1,x=>cs (csn n x)
def crN (l:List Int):Nat:=l.foldl (fun x c=>csn 8 (x^^^(c.toNat*256))) 65535
theorem cs_lt {x:Nat} (h:x<65536):cs x<65536:=by
 unfold cs
 split
 ·exact Nat.xor_lt_two_pow (n:=16) (by omega) (by decide)
 ·omega
theorem ZjF:∀ (n:Nat) {x:Nat},x<65536→csn n x<65536
 | 0,_,h=>h
 | n+1,_,h=>cs_lt (ZjF n h)
theorem ofI {n:Nat} (h:n<9223372036854775808):(BitVec.ofInt 64 (n:Int)).toNat=n:=by
 rw [BitVec.toNat_ofInt]
 omega
theorem band {a b:Nat} (ha:a<9223372036854775808) (hb:b<9223372036854775808) {x y:Int} (hx:x=a) (hy:y=b):IntKind.i64.wrap ((BitVec.ofInt IntKind.i64.bits x&&&BitVec.ofInt IntKind.i64.bits y).toNat:Int)=((a&&&b:Nat):Int):=by
 subst hx hy
 show IntKind.i64.wrap (((BitVec.ofInt 64 (a:Int)&&&BitVec.ofInt 64 (b:Int)).toNat:Nat):Int)=_
 rw [BitVec.toNat_and,ofI ha,ofI hb]
 have:=Nat.and_le_left (n:=a) (m:=b)
 exact Zak (by omega) (by omega)
theorem bxor {a b:Nat} (ha:a<9223372036854775808) (hb:b<9223372036854775808) {x y:Int} (hx:x=a) (hy:y=b):IntKind.i64.wrap ((BitVec.ofInt IntKind.i64.bits x^^^BitVec.ofInt IntKind.i64.bits y).toNat:Int)=((a^^^b:Nat):Int):=by
 subst hx hy
 show IntKind.i64.wrap (((BitVec.ofInt 64 (a:Int)^^^BitVec.ofInt 64 (b:Int)).toNat:Nat):Int)=_
 rw [BitVec.toNat_xor,ofI ha,ofI hb]
 have:=Nat.xor_lt_two_pow (x:=a) (y:=b) (n:=63) ha hb
 exact Zak (by omega) (by omega)
theorem dbl {x:Nat} (h:x<1000000):IntKind.i64.wrap ((x:Int)*2^min (1:Int).toNat IntKind.i64.bits)=((2*x:Nat):Int):=by
 have e:(2:Int)^min (1:Int).toNat IntKind.i64.bits=2:=rfl
 rw [e]
 have:=Zak (n:=(x:Int)*2) (by omega) (by omega)
 rw [this];omega
theorem ZiD {b:Int} (h:0≤b):gNn b=some ():=by unfold gNn;rw [if_pos h]
theorem and16 (x:Nat):x&&&65535=x%65536:=Nat.and_two_pow_sub_one_eq_mod x 16
theorem Zxc {x:Nat} (h:x<65536) (i5 k6:Int) (h0:0≤k6) (h1:k6<8):ZcU i5 ((x:Int),k6)=some (.inl (((cs x:Nat):Int),k6+1)):=by
 have d:=dbl (x:=x) (by omega)
 have a:=band (a:=2*x) (b:=65535) (by omega) (by omega) (x:=((2*x:Nat):Int)) (y:=65535) rfl rfl
 rw [and16] at a
 have g:=ZiD (b:=1) (by omega)
 by_cases hx:32768≤x
 ·have b:=bxor (a:=2*x%65536) (b:=4129) (by omega) (by omega) (x:=((2*x%65536:Nat):Int)) (y:=4129) rfl rfl
  have e:cs x=(2*x%65536)^^^4129:=by unfold cs;rw [if_pos hx]
  simp (disch:=omega) only [pz,ZcU,g,d,a,b,e]
 ·have e:cs x=2*x:=by unfold cs;rw [if_neg hx]
  have e2:2*x%65536=2*x:=by omega
  rw [e2] at a
  simp (disch:=omega) only [pz,ZcU,g,d,a,e]
theorem ZAf {x:Nat} (h:x<65536) (i5 k6:Int) (h0:0≤k6) (h1:k6<8):ZcA i5 ((x:Int),k6)=some (.inl (((cs x:Nat):Int),k6+1)):=by
 have d:=dbl (x:=x) (by omega)
 have g:=ZiD (b:=1) (by omega)
 by_cases hx:32768≤x
 ·have b:=bxor (a:=2*x) (b:=4129) (by omega) (by omega) (x:=((2*x:Nat):Int)) (y:=4129) rfl rfl
  have hb:2*x^^^4129<9223372036854775808:=Nat.xor_lt_two_pow (n:=63) (by omega) (by decide)
  have a:=band (a:=2*x^^^4129) (b:=65535) hb (by omega) (x:=((2*x^^^4129:Nat):Int)) (y:=65535) rfl rfl
  have e:cs x=(2*x%65536)^^^4129:=by unfold cs;rw [if_pos hx]
  have e3:(2*x^^^4129)&&&65535=(2*x%65536)^^^4129:=by
   rw [Nat.and_xor_distrib_right,and16,and16]
  rw [e3] at a
  simp (disch:=omega) only [pz,ZcA,g,d,b,a,e]
 ·have e:cs x=2*x:=by unfold cs;rw [if_neg hx]
  simp (disch:=omega) only [pz,ZcA,g,d,e]
theorem ZA6 {x:Nat} (h:x<65536) {i5:Int} (h0:0≤i5) (h1:i5<9223372036854775807):loop (ZcU i5) ((x:Int),0)=some (.inl (((csn 8 x:Nat):Int),i5+1)):=by
 have e:=ZA (B:=ZcU i5) (fun k:Int=>(((csn k.toNat x:Nat):Int),k)) (i:=0) (n:=8) (by omega) fun k a b=>by
  rw [show (k+1).toNat=k.toNat+1 by omega]
  exact Zxc (ZjF _ h) i5 k a b
 refine Eq.trans e (Zc ?_)
 simp (disch:=omega) only [pz,ZcU]
 rfl
theorem Ztz {x:Nat} (h:x<65536) {i5:Int} (h0:0≤i5) (h1:i5<9223372036854775807):loop (ZcA i5) ((x:Int),0)=some (.inl (((csn 8 x:Nat):Int),i5+1)):=by
 have e:=ZA (B:=ZcA i5) (fun k:Int=>(((csn k.toNat x:Nat):Int),k)) (i:=0) (n:=8) (by omega) fun k a b=>by
  rw [show (k+1).toNat=k.toNat+1 by omega]
  exact ZAf (ZjF _ h) i5 k a b
 refine Eq.trans e (Zc ?_)
 simp (disch:=omega) only [pz,ZcA]
 rfl
def Bys (l:List Int):Prop:=∀ x∈l,0≤x∧x≤255
theorem Zn2 (s:ByteArray):Bys (byts s):=by
 intro x hx
 obtain ⟨b,_,rfl⟩:=List.mem_map.1 hx
 have:=b.toNat_lt
 omega
theorem Zxf (f:Nat→Int→Nat) (hf:∀ x c,x<65536→0≤c∧c≤255→f x c<65536) (l:List Int):∀ x:Nat,Bys l→x<65536→l.foldl f x<65536:=by
 induction l with
 | nil=>intro x _ h;exact h
 | cons c l ih=>
  intro x hl h
  rw [List.foldl_cons]
  exact ih _ (fun y hy=>hl y (List.mem_cons_of_mem _ hy)) (hf x c h (hl c (List.mem_cons_self ..)))
theorem Zm8 {l:List Int} (h:Bys l):crN l<65536:=by
 unfold crN
 exact Zxf _ (fun x c hx hc=>ZjF 8 (Nat.xor_lt_two_pow (n:=16) hx (by omega))) l _ h (by omega)
theorem Zrb {l:List Int} {k:Int} (h0:0≤k) (h1:k<(l.length:Int)):crN (l.take (k+1).toNat)=csn 8 (crN (l.take k.toNat)^^^((ix l k).toNat*256)):=by
 unfold crN
 rw [Zbo h0 h1,List.foldl_append,List.foldl_cons,List.foldl_nil]
theorem shl8 {c:Int} (h0:0≤c) (h1:c≤255):IntKind.i64.wrap (c*2^min (8:Int).toNat IntKind.i64.bits)=((c.toNat*256:Nat):Int):=by
 have e:(2:Int)^min (8:Int).toNat IntKind.i64.bits=256:=rfl
 rw [e,Zak (n:=c*256) (by omega) (by omega)]
 omega
theorem Zos {l:List Int} (h:Bys l) (n:Nat):Bys (l.take n):=fun x hx=>h x (List.mem_of_mem_take hx)
theorem ZBb {s:ByteArray} (hs:s.size≤9000000000000000000):ZhB s 65535=some ((crN (byts s):Nat):Int):=by
 have hb:=Zn2 s
 have hl:=Zcq s
 unfold ZhB
 have e:=ZA (B:=Zhd s) (fun k:Int=>(((crN ((byts s).take k.toNat):Nat):Int),k)) (i:=0) (n:=s.size) (by omega) fun k a b=>by
  obtain ⟨c,hc,he⟩:=ZiC (s:=s) a b
  have hx:=hb _ (ZK (xs:=byts s) a (by omega))
  have hk:=Zm8 (Zos hb k.toNat)
  have g:=ZiD (b:=8) (by omega)
  have sh:=shl8 hx.1 hx.2
  rw [Zrb a (by omega)]
  generalize crN ((byts s).take k.toNat)=x at hk
  have hq:(ix (byts s) k).toNat*256<65536:=by omega
  have xr:=bxor (a:=x) (b:=(ix (byts s) k).toNat*256) (by omega) (by omega) (x:=(x:Int)) (y:=(((ix (byts s) k).toNat*256:Nat):Int)) rfl rfl
  have e8:=ZA6 (x:=x^^^((ix (byts s) k).toNat*256)) (Nat.xor_lt_two_pow (n:=16) hk hq) (i5:=k) a (by omega)
  simp (disch:=omega) only [pz,Zhd,hc,he,g,sh,xr,e8]
 refine Eq.trans e (Zc ?_)
 rw [Int.toNat_natCast,←hl,List.take_length,hl]
 simp (disch:=omega) only [pz,Zhd]
theorem ZsW {s:ByteArray} (hs:s.size≤9000000000000000000):ZgN s 65535=some ((crN (byts s):Nat):Int):=by
 have hb:=Zn2 s
 have hl:=Zcq s
 have hw:ZG 65535 0 65535=some true:=by simp (disch:=omega) only [pz,ZG]
 unfold ZgN
 simp (disch:=omega) only [pz,hw]
 have e:=ZA (B:=Zgu s) (fun k:Int=>(((crN ((byts s).take k.toNat):Nat):Int),k)) (i:=0) (n:=s.size) (by omega) fun k a b=>by
  have hx:=hb _ (ZK (xs:=byts s) a (by omega))
  have hk:=Zm8 (Zos hb k.toNat)
  have g:=ZiD (b:=8) (by omega)
  have sh:=shl8 hx.1 hx.2
  rw [Zrb a (by omega)]
  generalize crN ((byts s).take k.toNat)=x at hk
  have hq:(ix (byts s) k).toNat*256<65536:=by omega
  have xr:=bxor (a:=x) (b:=(ix (byts s) k).toNat*256) (by omega) (by omega) (x:=(x:Int)) (y:=(((ix (byts s) k).toNat*256:Nat):Int)) rfl rfl
  have e8:=Ztz (x:=x^^^((ix (byts s) k).toNat*256)) (Nat.xor_lt_two_pow (n:=16) hk hq) (i5:=k) a (by omega)
  simp (disch:=omega) only [pz,Zgu,g,sh,xr,e8]
 refine Eq.trans e (Zc ?_)
 rw [Int.toNat_natCast,←hl,List.take_length,hl]
 simp (disch:=omega) only [pz,Zgu]
end Go.Proofs.YtmmbnjijjdakmaaGreatDoor
namespace Go.Proofs.YtmmbnjijjdakmaaGreatDoor
set_option linter.unusedVariables false
open Go Go.Vc Go.Lib
set_option linter.unusedSimpArgs false
def spl (b:UInt8):List UInt8→List (List UInt8)
 | []=>[[]]
 | c::l=>if c=b then []::spl b l else (c::(spl b l).headD [])::(spl b l).tail
theorem ZfT (b:UInt8) (l:List UInt8):spl b l≠[]:=by
 cases l with
 | nil=>simp [spl]
 | cons c l=>unfold spl;split<;>simp
theorem Zie {b:UInt8} {l:List UInt8}:∃ h t,spl b l=h::t:=by
 cases e:spl b l with
 | nil=>exact absurd e (ZfT b l)
 | cons h t=>exact ⟨h,t,rfl⟩
theorem Zkp (x y:List UInt8) (r:List (List UInt8)) (s:List UInt8):join (x::y::r) s=x++s++join (y::r) s:=by
 rw [join_cons,join_cons]
 simp [joinTail]
theorem Zp4 (b:UInt8):∀ l:List UInt8,join (spl b l) [b]=l
 | []=>by simp [spl,join_one]
 | c::l=>by
  have ih:=Zp4 b l
  obtain ⟨h,t,e⟩:=Zie (b:=b) (l:=l)
  unfold spl
  split
  ·rename_i hc
   rw [e] at ih ⊢
   rw [Zkp,ih,hc];rfl
  ·rw [e] at ih ⊢
   rw [join_cons] at ih ⊢
   show c::h++joinTail [b] t=c::l
   rw [←ih];rfl
theorem Zq4 {b:UInt8}:∀ {x:List UInt8},b∉x→spl b x=[x]
 | [],_=>rfl
 | c::x,h=>by
  have ih:=Zq4 (x:=x) fun hh=>h (List.mem_cons_of_mem _ hh)
  unfold spl
  rw [if_neg (fun e=>h (by rw [e];exact List.mem_cons_self ..)),ih]
  rfl
theorem ZrP {b:UInt8}:∀ {x:List UInt8} (l:List UInt8),b∉x→spl b (x++b::l)=x::spl b l
 | [],l,_=>by simp [spl]
 | c::x,l,h=>by
  have ih:=ZrP (x:=x) l fun hh=>h (List.mem_cons_of_mem _ hh)
  rw [List.cons_append]
  conv=>lhs;unfold spl
  rw [if_neg (fun e=>h (by rw [e];exact List.mem_cons_self ..)),ih]
  rfl
theorem Zpl {b:UInt8}:∀ {xs:List (List UInt8)},xs≠[]→(∀ x∈xs,b∉x)→spl b (join xs [b])=xs
 | [],h,_=>absurd rfl h
 | [x],_,h=>by rw [join_one];exact Zq4 (h x (List.mem_cons_self ..))
 | x::y::r,_,h=>by
  have ih:=Zpl (b:=b) (xs:=y::r) (by simp) fun z hz=>h z (List.mem_cons_of_mem _ hz)
  rw [Zkp,List.append_assoc]
  show spl b (x++b::join (y::r) [b])=_
  rw [ZrP _ (h x (List.mem_cons_self ..)),ih]
theorem Zjz {b:UInt8}:∀ (l:List UInt8) (c:UInt8) {os:List (List UInt8)} {u:List UInt8},spl b l=os++[u]→spl b (l++[c])=if c=b then os++[u]++[[]] else os++[u++[c]]
 | [],c,os,u,h=>by
  have h':[[]]=os++[u]:=h
  cases os with
  | nil=>
   obtain rfl:[]=u:=by simpa using h'
   simp [spl]
  | cons a t=>simp at h'
 | d::l,c,os,u,h=>by
  obtain ⟨h1,t1,e⟩:=Zie (b:=b) (l:=l)
  have ih:∀ {os:List (List UInt8)} {u:List UInt8},spl b l=os++[u]→spl b (l++[c])=if c=b then os++[u]++[[]] else os++[u++[c]]:=fun h=>Zjz (b:=b) l c h
  rw [List.cons_append]
  unfold spl at h ⊢
  by_cases hd:d=b
  ·rw [if_pos hd] at h ⊢
   cases os with
   | nil=>
    exfalso
    rw [e] at h
    simp at h
   | cons a t=>
    rw [List.cons_append,List.cons.injEq] at h
    obtain ⟨rfl,h⟩:=h
    rw [ih h]
    split<;>simp
  ·rw [if_neg hd] at h ⊢
   cases os with
   | nil=>
    rw [e] at h
    simp only [List.headD_cons,List.tail_cons,List.nil_append,List.cons.injEq] at h
    obtain ⟨rfl,rfl⟩:=h
    rw [ih (os:=[]) (u:=h1) (by rw [e];rfl)]
    split<;>simp
   | cons a t=>
    rw [List.cons_append,List.cons.injEq,e] at h
    obtain ⟨rfl,h⟩:=h
    have h:t1=t++[u]:=h
    rw [ih (os:=h1::t) (u:=u) (by rw [e,h];rfl)]
    split<;>simp
theorem ZiV (b:UInt8):∀ l:List UInt8,(spl b l).length≤l.length+1
 | []=>by simp [spl]
 | c::l=>by
  have ih:=ZiV b l
  obtain ⟨h,t,e⟩:=Zie (b:=b) (l:=l)
  unfold spl
  rw [e] at ih ⊢
  split
  ·simp at ih ⊢;omega
  ·simp at ih ⊢;omega
theorem ZqQ (b:UInt8):∀ l:List UInt8,∀ x∈spl b l,x.length≤l.length
 | [],x,hx=>by simp [spl] at hx;rw [hx];simp
 | c::l,x,hx=>by
  have ih:=ZqQ b l
  obtain ⟨h,t,e⟩:=Zie (b:=b) (l:=l)
  unfold spl at hx
  rw [e] at ih hx
  split at hx
  ·rcases List.mem_cons.1 hx with rfl|hx
   ·simp
   ·have:=ih x hx;simp;omega
  ·rcases List.mem_cons.1 hx with rfl|hx
   ·have:=ih h (List.mem_cons_self ..);simp;omega
   ·have:=ih x (List.mem_cons_of_mem _ hx);simp;omega
end Go.Proofs.YtmmbnjijjdakmaaGreatDoor
namespace Go.Proofs.YtmmbnjijjdakmaaGreatDoor
set_option linter.unusedVariables false
open Go Go.Vc Go.Lib
set_option linter.unusedSimpArgs false
def Dg (c:UInt8):Prop:=48≤c.toNat∧c.toNat≤57
def vl (l:List UInt8):Nat:=l.foldl (fun n c=>10*n+(c.toNat-48)) 0
theorem Zk8 (l:List UInt8) (c:UInt8):vl (l++[c])=10*vl l+(c.toNat-48):=by
 unfold vl
 rw [List.foldl_append,List.foldl_cons,List.foldl_nil]
theorem dch {d:Nat} (h:d<10):(UInt8.ofNat (48+d)).toNat=48+d:=by
 rw [UInt8.toNat_ofNat'];omega
theorem ZjV {P:List UInt8→Nat→Prop} (h1:∀ u,u<10→P [UInt8.ofNat (48+u)] u) (h2:∀ u,10≤u→P (decDigits (u/10)) (u/10)→P (decDigits (u/10)++[UInt8.ofNat (48+u%10)]) u):∀ (n u:Nat),u<n→P (decDigits u) u:=by
 intro n
 induction n with
 | zero=>intro u h;omega
 | succ n ih=>
  intro u h
  by_cases hu:u<10
  ·rw [decDigits,dif_pos hu];exact h1 u hu
  ·rw [decDigits,dif_neg hu];exact h2 u (by omega) (ih _ (by omega))
theorem Zgp (u:Nat):vl (decDigits u)=u:=by
 refine ZjV (P:=fun l u=>vl l=u) (fun u h=>?_) (fun u h ih=>?_) (u+1) u (by omega)
 ·show 10*0+((UInt8.ofNat (48+u)).toNat-48)=u
  rw [dch h];omega
 ·rw [Zk8,ih,dch (Nat.mod_lt _ (by omega))];omega
theorem ZeZ (u:Nat):∀ c∈decDigits u,Dg c:=by
 refine ZjV (P:=fun l u=>∀ c∈l,Dg c) (fun u h c hc=>?_) (fun u h ih c hc=>?_) (u+1) u (by omega)
 ·obtain rfl:=List.mem_singleton.1 hc
  unfold Dg;rw [dch h];omega
 ·rcases List.mem_append.1 hc with hc|hc
  ·exact ih c hc
  ·obtain rfl:=List.mem_singleton.1 hc
   have:=Nat.mod_lt u (show 0<10 by omega)
   unfold Dg;rw [dch this];omega
theorem ZwX (u:Nat):u<10^(decDigits u).length:=by
 refine ZjV (P:=fun l u=>u<10^l.length) (fun u h=>?_) (fun u h ih=>?_) (u+1) u (by omega)
 ·simpa using h
 ·have ih:u/10<10^(decDigits (u/10)).length:=ih
  rw [List.length_append,List.length_singleton,Nat.pow_succ]
  omega
theorem vl_lt:∀ (m:Nat) (l:List UInt8),l.length=m→(∀ c∈l,Dg c)→vl l<10^m:=by
 intro m
 induction m with
 | zero=>intro l h _;rw [List.eq_nil_of_length_eq_zero h];show 0<1;omega
 | succ m ih=>
  intro l h hd
  have hne:l≠[]:=fun e=>by rw [e] at h;simp at h
  rw [←List.dropLast_concat_getLast hne] at hd ⊢
  have h1:=ih l.dropLast (by simp;omega) fun c hc=>hd c (List.mem_append_left _ hc)
  have h2:=hd (l.getLast hne) (by simp)
  rw [Zk8,Nat.pow_succ]
  unfold Dg at h2
  omega
noncomputable def numOf (s:ByteArray):Int×Bool:=
 @dite _ (∃ n:Int,(-1000000000000000000<n∧n<1000000000000000000)∧itoaB n=s) (Classical.propDecidable _) (fun h=>(Classical.choose h,true)) (fun _=>(0,false))
theorem ZcM (n:Int):(itoaB n).data.toList=itoa n:=by unfold itoaB;simp
theorem Zy6 {n m:Int} (h:itoaB n=itoaB m):n=m:=by
 have h2:=congrArg (fun s:ByteArray=>s.data.toList) h
 simp only [ZcM] at h2
 have hd:∀ (u v:Nat) ,decDigits u≠45::decDigits v:=fun u v e=>by
  have:=ZeZ u 45 (by rw [e];exact List.mem_cons_self ..)
  unfold Dg at this
  have e2:(45:UInt8).toNat=45:=rfl
  omega
 unfold itoa at h2
 split at h2
 ·split at h2
  ·have h3:=(List.cons.inj h2).2
   have h4:=congrArg vl h3
   rw [Zgp,Zgp] at h4
   omega
  ·exact absurd h2.symm (hd _ _)
 ·split at h2
  ·exact absurd h2 (hd _ _)
  ·have h4:=congrArg vl h2
   rw [Zgp,Zgp] at h4
   omega
theorem Zhz {n:Int} {s:ByteArray} (h1:-1000000000000000000<n∧n<1000000000000000000) (h:itoaB n=s):numOf s=(n,true):=by
 have hx:∃ n:Int,(-1000000000000000000<n∧n<1000000000000000000)∧itoaB n=s:=⟨n,h1,h⟩
 unfold numOf
 rw [dif_pos hx]
 have:=Classical.choose_spec hx
 rw [Zy6 (this.2.trans h.symm)]
theorem ZdQ {s:ByteArray} (h:∀ n:Int,(-1000000000000000000<n∧n<1000000000000000000)→itoaB n≠s):numOf s=(0,false):=by
 unfold numOf
 rw [dif_neg fun ⟨n,h1,h2⟩=>h n h1 h2]
theorem Zmb {s:ByteArray} {n:Int} (h:numOf s=(n,true)):(-1000000000000000000<n∧n<1000000000000000000)∧itoaB n=s:=by
 by_cases hx:∃ n:Int,(-1000000000000000000<n∧n<1000000000000000000)∧itoaB n=s
 ·obtain ⟨m,h1,h2⟩:=hx
  rw [Zhz h1 h2] at h
  obtain rfl:=(Prod.mk.inj h).1
  exact ⟨h1,h2⟩
 ·rw [ZdQ fun n h1 h2=>hx ⟨n,h1,h2⟩] at h
  exact absurd (Prod.mk.inj h).2 (by simp)
theorem Zlf (M:Nat):∀ (l:List UInt8) (a n:Nat) (c:UInt8),parseUintM M a l=.ok n→Dg c→n<1844674407370955162→n*10+(c.toNat-48)≤M→parseUintM M a (l++[c])=.ok (n*10+(c.toNat-48))
 | [],a,n,c,h,hc,h1,h2=>by
  have h:NumEnd.ok a=NumEnd.ok n:=h
  cases h
  rw [List.nil_append]
  unfold parseUintM
  have hc:48≤c.toNat∧c.toNat≤57:=hc
  rw [if_pos hc,if_neg (by omega),if_neg (by omega)]
  rfl
 | d::l,a,n,c,h,hc,h1,h2=>by
  rw [List.cons_append]
  unfold parseUintM at h ⊢
  split at h
  ·rename_i hd
   rw [if_pos hd]
   split at h
   ·cases h
   ·rename_i ha
    rw [if_neg ha]
    split at h
    ·cases h
    ·rename_i hm
     rw [if_neg hm]
     exact Zlf M l _ n c h hc h1 h2
  ·cases h
theorem ZpJ (u:Nat) (hu:u<1000000000000000000):parseUintM 18446744073709551615 0 (decDigits u)=.ok u:=by
 refine ZjV (P:=fun l u=>u<1000000000000000000→parseUintM 18446744073709551615 0 l=.ok u) (fun u h _=>?_) (fun u h ih hu=>?_) (u+1) u (by omega) hu
 ·have hd:Dg (UInt8.ofNat (48+u)):=by unfold Dg;rw [dch h];omega
  have:=Zlf 18446744073709551615 [] 0 0 _ rfl hd (by omega) (by rw [dch h];omega)
  rw [List.nil_append] at this
  rw [this,dch h]
  congr 1;omega
 ·have hm:=Nat.mod_lt u (show 0<10 by omega)
  have hd:Dg (UInt8.ofNat (48+u%10)):=by unfold Dg;rw [dch hm];omega
  rw [Zlf _ _ 0 (u/10) _ (ih (by omega)) hd (by omega) (by rw [dch hm];omega),dch hm]
  congr 1;omega
theorem ZrC {n:Int} (h:-1000000000000000000<n∧n<1000000000000000000):parseIntB 64 (itoaB n).data.toList=.ok n:=by
 rw [ZcM]
 have e45:(45:UInt8).toNat=45:=rfl
 unfold itoa
 split
 ·have hp:=ZpJ n.natAbs (by omega)
  have hne:decDigits n.natAbs≠[]:=fun e=>by have:=dgn n.natAbs;rw [e] at this;simp at this
  unfold parseIntB parseUintB
  simp only [e45,or_true,if_true]
  rw [if_neg hne,show (2:Nat)^64-1=18446744073709551615 from rfl,hp]
  simp only [not_true,false_and,if_false,true_and]
  rw [if_neg (by rw [show (2:Nat)^(64-1)=9223372036854775808 from rfl];omega)]
  congr 1;omega
 ·have hp:=ZpJ n.toNat (by omega)
  have hall:=ZeZ n.toNat
  cases hl:decDigits n.toNat with
  | nil=>have:=dgn n.toNat;rw [hl] at this;simp at this
  | cons c r=>
   rw [hl] at hp hall
   have hc:=hall c (List.mem_cons_self ..)
   unfold Dg at hc
   have n43:¬ c.toNat=43:=by omega
   have n45:¬ c.toNat=45:=by omega
   unfold parseIntB parseUintB
   simp only [n43,n45,or_false,if_false,reduceCtorEq]
   rw [show (2:Nat)^64-1=18446744073709551615 from rfl,hp]
   simp only [not_false_eq_true,true_and,false_and,if_false]
   rw [if_neg (by rw [show (2:Nat)^(64-1)=9223372036854775808 from rfl];omega)]
   congr 1;omega
end Go.Proofs.YtmmbnjijjdakmaaGreatDoor
namespace Go.Proofs.YtmmbnjijjdakmaaGreatDoor
set_option linter.unusedVariables false
open Go Go.Vc Go.Lib
set_option linter.unusedSimpArgs false
def tl (l:List UInt8):List UInt8:=match l with
 | []=>[]
 | c::r=>if c=45 then r else l
theorem Zif {n:Int} {l:List UInt8} (h:itoa n=l):tl l=decDigits n.natAbs∧(n<0↔(tl l).length<l.length):=by
 subst h
 unfold itoa
 split
 ·refine ⟨by simp [tl],?_⟩
  simp [tl];omega
 ·rename_i hn
  have e:n.toNat=n.natAbs:=by omega
  rw [e]
  have h1:tl (decDigits n.natAbs)=decDigits n.natAbs:=by
   cases hl:decDigits n.natAbs with
   | nil=>rfl
   | cons c r=>
    have:=ZeZ n.natAbs c (by rw [hl];exact List.mem_cons_self ..)
    unfold Dg at this
    have h45:¬ c=45:=fun e=>by rw [e] at this;have e2:(45:UInt8).toNat=45:=rfl;omega
    simp [tl,h45]
  rw [h1]
  exact ⟨rfl,by omega⟩
theorem Zz8 {l:List UInt8} {v:Int} (h:parseIntB 64 l=.ok v):-9223372036854775808≤v∧v≤9223372036854775807:=by
 unfold parseIntB at h
 split at h
 ·cases h
 ·rename_i c r
  dsimp only at h
  split at h
  ·cases h
  ·cases h
  ·rename_i u hu
   rw [show (2:Nat)^(64-1)=9223372036854775808 from rfl] at h
   split at h
   ·cases h
   ·split at h
    ·cases h
    ·rename_i h1 h2
     cases h
     by_cases hc:c.toNat=45
     ·rw [if_pos hc];omega
     ·rw [if_neg hc];omega
theorem Zgw {s:ByteArray} (h:(tl s.data.toList).length<1∨18<(tl s.data.toList).length):numOf s=(0,false):=by
 refine ZdQ fun n hn e=>?_
 have e2:=congrArg (fun s:ByteArray=>s.data.toList) e
 simp only [ZcM] at e2
 have:=(Zif e2).1
 rw [this] at h
 have h1:=dgn n.natAbs
 have h2:=dgl 17 n.natAbs (by omega)
 omega
theorem ZyM {s:ByteArray} (h:∃ c∈tl s.data.toList,¬ Dg c):numOf s=(0,false):=by
 refine ZdQ fun n hn e=>?_
 have e2:=congrArg (fun s:ByteArray=>s.data.toList) e
 simp only [ZcM] at e2
 have:=(Zif e2).1
 rw [this] at h
 obtain ⟨c,h1,h2⟩:=h
 exact h2 (ZeZ _ c h1)
theorem Zzg {s:ByteArray} (hd:∀ c∈tl s.data.toList,Dg c) (hl:(tl s.data.toList).length≤18) {n:Int} (hn:n=if (tl s.data.toList).length<s.data.toList.length then -((vl (tl s.data.toList):Nat):Int) else ((vl (tl s.data.toList):Nat):Int)):
  numOf s=if itoaB n=s then (n,true) else (0,false):=by
 have hv:=vl_lt _ (tl s.data.toList) rfl hd
 have hv2:vl (tl s.data.toList)<10^18:=Nat.lt_of_lt_of_le hv (Nat.pow_le_pow_right (by omega) hl)
 have hr:-1000000000000000000<n∧n<1000000000000000000:=by
  rw [hn];split<;>omega
 by_cases e:itoaB n=s
 ·rw [if_pos e];exact Zhz hr e
 ·rw [if_neg e]
  refine ZdQ fun m hm e2=>e ?_
  have e3:=congrArg (fun s:ByteArray=>s.data.toList) e2
  simp only [ZcM] at e3
  obtain ⟨t1,t2⟩:=Zif e3
  have hmn:m=n:=by
   rw [hn,t1,Zgp]
   rw [t1] at t2
   split
   ·rename_i h;have:=t2.2 h;omega
   ·rename_i h;have:¬ m<0:=fun h2=>h (t2.1 h2);omega
  rw [←hmn];exact e2
theorem ZBh {s:ByteArray} (hl:(tl s.data.toList).length≤18) {n:Int} (hp:parseIntB 64 s.data.toList=.ok n):numOf s=if itoaB n=s then (n,true) else (0,false):=by
 by_cases e:itoaB n=s
 ·rw [if_pos e]
  refine Zhz ?_ e
  have e2:=congrArg (fun s:ByteArray=>s.data.toList) e
  simp only [ZcM] at e2
  rw [(Zif e2).1] at hl
  have:=ZwX n.natAbs
  have:=Nat.lt_of_lt_of_le this (Nat.pow_le_pow_right (show 1≤10 by omega) hl)
  omega
 ·rw [if_neg e]
  refine ZdQ fun m hm e2=>e ?_
  have:=ZrC hm
  rw [e2,hp] at this
  cases this
  exact e2
theorem ZsO {s:ByteArray} (hp:∀ n,parseIntB 64 s.data.toList≠.ok n):numOf s=(0,false):=
 ZdQ fun m hm e2=>hp m (by rw [←e2];exact ZrC hm)
end Go.Proofs.YtmmbnjijjdakmaaGreatDoor
namespace Go.Proofs.YtmmbnjijjdakmaaGreatDoor
set_option linter.unusedVariables false
open Go Go.Vc Go.Lib
set_option linter.unusedSimpArgs false
theorem Zaw (s:ByteArray):s.data.toList.length=s.size:=by rw [Array.length_toList];rfl
theorem ZdU {s:ByteArray} {i:Int} (h0:0≤i) {c:UInt8} (h:s.data.toList[i.toNat]?=some c):gSt s i=some c:=by
 have hl:i.toNat<s.size:=by
  rw [←Zaw]
  rcases Nat.lt_or_ge i.toNat s.data.toList.length with k|k
  ·exact k
  ·rw [List.getElem?_eq_none k] at h;cases h
 unfold gSt
 rw [if_pos h0,getElem?_pos s i.toNat hl]
 rw [List.getElem?_eq_getElem (by rw [Zaw];exact hl)] at h
 rw [←Option.some.inj h]
 rfl
theorem Zbw {s:ByteArray} {lo hi:Int} (h0:0≤lo) (h1:lo≤hi) (h2:hi≤(s.size:Int)):gStSl s lo hi=some (bl ((s.data.toList.take hi.toNat).drop lo.toNat)):=by
 unfold gStSl
 rw [if_pos ⟨h0,h1,h2⟩]
 congr 1
 apply ByteArray.ext
 rw [ByteArray.data_extract]
 apply Array.ext'
 rw [Array.toList_extract]
 simp [bl,List.extract_eq_take_drop,List.drop_take]
theorem bl_ne {s:ByteArray} {c:UInt8} {r:List UInt8} (h:s.data.toList=c::r):(s.toList==(⟨#[]⟩:ByteArray).toList)=false:=by
 cases hb:s.toList==(⟨#[]⟩:ByteArray).toList with
 | false=>rfl
 | true=>
  have:=(ZY s ⟨#[]⟩).1 hb
  rw [this] at h
  cases h
theorem ZxN {L:List UInt8} {k:Nat} {c:UInt8} (h:L[k]?=some c):vl (L.take (k+1))=10*vl (L.take k)+(c.toNat-48):=by
 rw [List.take_add_one,h]
 exact Zk8 _ _
theorem ZpN (s:ByteArray) (hs:s.size≤1000) {n:Int} (h1:-9223372036854775808≤n) (h2:n≤9223372036854775807):Zd6 s n=some (.inr (if itoaB n=s then (n,true) else (0,false))):=by
 unfold Zd6
 have hd:=ZiY h1 h2
 by_cases e:itoaB n=s
 ·have:=(ZY (itoaB n) s).2 e
  rw [if_pos e]
  simp (disch:=omega) only [pz,hd,this]
 ·have:((itoaB n).toList==s.toList)=false:=by
   cases hb:(itoaB n).toList==s.toList with
   | false=>rfl
   | true=>exact absurd ((ZY _ _).1 hb) e
  rw [if_neg e]
  simp (disch:=omega) only [pz,hd,this]
theorem ZBg {s:ByteArray} (hs:s.size≤1000) (hl1:1≤(tl s.data.toList).length) (hl:(tl s.data.toList).length≤18):ZgX s (bl (tl s.data.toList))=some (numOf s):=by
 unfold ZgX
 have hsz:(bl (tl s.data.toList)).size=(tl s.data.toList).length:=ZO _
 have hdl:(bl (tl s.data.toList)).data.toList=tl s.data.toList:=rfl
 have hle:∀ k:Int,(∀ j,0≤j→j<k→∃ c,(tl s.data.toList)[j.toNat]?=some c∧Dg c)→0≤k→k≤((tl s.data.toList).length:Int) →
   loop (Zck s (bl (tl s.data.toList))) (0,0)=loop (Zck s (bl (tl s.data.toList))) (((vl ((tl s.data.toList).take k.toNat):Nat):Int),k):=by
  intro k hk h0 hkl
  refine ZA (fun k:Int=>(((vl ((tl s.data.toList).take k.toNat):Nat):Int),k)) h0 fun j j0 j1=>?_
  obtain ⟨c,hc,hd⟩:=hk j j0 j1
  have hg:gSt (bl (tl s.data.toList)) j=some c:=ZdU j0 (by rw [hdl];exact hc)
  have hv:=vl_lt _ ((tl s.data.toList).take j.toNat) rfl fun x hx=>by
   obtain ⟨i,a,b,rfl⟩:=Z4 hx
   rw [List.length_take] at b
   obtain ⟨c',hc',hd'⟩:=hk i a (by omega)
   rw [Zdf a (by omega)]
   have:=ZQ (k:=i.toNat) hc'
   rw [show ((i.toNat:Nat):Int)=i by omega] at this
   rw [this];exact hd'
  have hv2:vl ((tl s.data.toList).take j.toNat)<10^18:=Nat.lt_of_lt_of_le hv (Nat.pow_le_pow_right (by omega) (by rw [List.length_take];omega))
  have hv3:vl ((tl s.data.toList).take j.toNat)<100000000000000000:=by
   refine Nat.lt_of_lt_of_le hv (Nat.le_trans (Nat.pow_le_pow_right (show 1≤10 by omega) (show _≤17 by rw [List.length_take];omega)) (by omega))
  rw [show (j+1).toNat=j.toNat+1 by omega,ZxN hc]
  generalize vl ((tl s.data.toList).take j.toNat)=n at hv3
  unfold Dg at hd
  have h1:ZaB (c.toNat:Int)=some true:=by simp (disch:=omega) only [pz,ZaB]
  have w1:IntKind.u8.wrap ((c.toNat:Int)-48)=(c.toNat:Int)-48:=u8_of (by omega) (by omega)
  simp (disch:=omega) only [pz,Zck,hsz,hg,h1,w1]
  congr 3
  omega
 rcases ZjB (n:=((tl s.data.toList).length:Int)) (by omega) (fun k=>¬ ∃ c,(tl s.data.toList)[k.toNat]?=some c∧Dg c) with ⟨k,k0,k1,hk,hb⟩|hb
 ·have e:=hle k (fun j a b=>Classical.not_not.1 (hb j a b)) k0 (by omega)
  obtain ⟨c,hc⟩:∃ c,(tl s.data.toList)[k.toNat]?=some c:=⟨_,List.getElem?_eq_getElem (by omega)⟩
  have hd:¬ Dg c:=fun h=>hk ⟨c,hc,h⟩
  have hg:gSt (bl (tl s.data.toList)) k=some c:=ZdU k0 (by rw [hdl];exact hc)
  have h1:ZaB (c.toNat:Int)=some false:=by
   unfold Dg at hd
   by_cases h48:48≤(c.toNat:Int)
   ·simp (disch:=omega) only [pz,ZaB]
   ·simp (disch:=omega) only [pz,ZaB]
  rw [e,ZyM ⟨c,List.mem_of_getElem? hc,hd⟩]
  exact Zc (by simp (disch:=omega) only [pz,Zck,hsz,hg,h1])
 ·have hall:∀ j,0≤j→j<((tl s.data.toList).length:Int)→∃ c,(tl s.data.toList)[j.toNat]?=some c∧Dg c:=fun j a b=>Classical.not_not.1 (hb j a b)
  have e:=hle _ hall (by omega) (Int.le_refl _)
  rw [Int.toNat_natCast,List.take_length] at e
  have hdig:∀ c∈tl s.data.toList,Dg c:=fun c hc=>by
   obtain ⟨i,hi⟩:=List.getElem?_of_mem hc
   have hlt:=Z5 hi
   obtain ⟨c',h1,h2⟩:=hall i (by omega) (by omega)
   rw [Int.toNat_natCast,hi] at h1
   rw [Option.some.inj h1];exact h2
  have hv:=vl_lt _ (tl s.data.toList) rfl hdig
  have hv2:vl (tl s.data.toList)<10^18:=Nat.lt_of_lt_of_le hv (Nat.pow_le_pow_right (by omega) hl)
  rw [e,Zzg hdig hl rfl]
  refine Zc ?_
  by_cases hlt:(tl s.data.toList).length<s.data.toList.length
  ·have hlt2:(((tl s.data.toList).length:Nat):Int)<(s.size:Int):=by rw [Zaw] at hlt;omega
   rw [if_pos hlt]
   have k:=ZpN s hs (n:=-((vl (tl s.data.toList):Nat):Int)) (by omega) (by omega)
   have w0:(0:Int)-((vl (tl s.data.toList):Nat):Int)=-((vl (tl s.data.toList):Nat):Int):=by omega
   simp (disch:=omega) only [pz,Zck,hsz,w0,k]
  ·have hlt2:¬ (((tl s.data.toList).length:Nat):Int)<(s.size:Int):=by rw [Zaw] at hlt;omega
   rw [if_neg hlt]
   have k:=ZpN s hs (n:=((vl (tl s.data.toList):Nat):Int)) (by omega) (by omega)
   simp (disch:=omega) only [pz,Zck,hsz,k]
theorem tl_le (l:List UInt8):(tl l).length≤l.length∧l.length≤(tl l).length+1:=by
 cases l with
 | nil=>exact ⟨Nat.le_refl _,Nat.le_succ _⟩
 | cons c r=>
  by_cases hc:c=45
  ·simp [tl,hc]
  ·simp [tl,hc]
theorem ZfF (s:ByteArray):ZdD s=some (numOf s):=by
 have k1:ZcX s (bl (tl s.data.toList))=some (numOf s):=by
  unfold ZcX
  have hsz:(bl (tl s.data.toList)).size=(tl s.data.toList).length:=ZO _
  by_cases h1:(tl s.data.toList).length<1
  ·rw [Zgw (.inl h1)]
   simp (disch:=omega) only [pz,hsz]
  ·by_cases h2:18<(tl s.data.toList).length
   ·rw [Zgw (.inr h2)]
    simp (disch:=omega) only [pz,hsz]
   ·have:=tl_le s.data.toList
    rw [Zaw] at this
    have k:=ZBg (s:=s) (by omega) (by omega) (by omega)
    simp (disch:=omega) only [pz,hsz,k]
 unfold ZdD
 cases hl:s.data.toList with
 | nil=>
  have e:s=⟨#[]⟩:=by
   apply ByteArray.ext
   apply Array.ext'
   rw [hl]
  have hb:=(ZY s ⟨#[]⟩).2 e
  have et:bl (tl s.data.toList)=s:=by rw [hl,e];rfl
  rw [et] at k1
  simp (disch:=omega) only [pz,hb,k1]
 | cons c r=>
  have hb:=bl_ne hl
  have hg:gSt s 0=some c:=ZdU (by omega) (by rw [hl];rfl)
  have hsl:s.size=r.length+1:=by rw [←Zaw,hl];rfl
  by_cases hc:c=45
  ·have et:bl (tl s.data.toList)=bl r:=by rw [hl];simp [tl,hc]
   have hs:=Zbw (s:=s) (lo:=1) (hi:=s.size) (by omega) (by omega) (by omega)
   have es:bl ((s.data.toList.take ((s.size:Int)).toNat).drop (1:Int).toNat)=bl r:=by
    rw [Int.toNat_natCast,←Zaw,List.take_length,hl];rfl
   rw [es] at hs
   rw [et] at k1
   have hc2:((c.toNat:Nat):Int)=45:=by rw [hc];rfl
   simp (disch:=omega) only [pz,hb,hg,hc2,hs,k1]
  ·have et:bl (tl s.data.toList)=s:=by
    rw [←Zaa s]
    show bl (tl s.data.toList)=bl s.data.toList
    rw [hl];simp [tl,hc]
   rw [et] at k1
   have hc2:¬ ((c.toNat:Nat):Int)=45:=fun h=>hc (by
    apply UInt8.toNat_inj.1
    have:(45:UInt8).toNat=45:=rfl
    omega)
   simp (disch:=omega) only [pz,hb,hg,hc2,k1]
theorem ZvW (s:ByteArray) (hs:s.size≤4000000000):ZbP s ⟨#[45]⟩=some (bl (tl s.data.toList)):=by
 unfold ZbP ZfL ZhW
 have z1:((⟨#[45]⟩:ByteArray).size:Int)=1:=rfl
 cases hl:s.data.toList with
 | nil=>
  have e:s=⟨#[]⟩:=by
   apply ByteArray.ext
   apply Array.ext'
   rw [hl]
  subst e
  have z0:((⟨#[]⟩:ByteArray).size:Int)=0:=rfl
  simp (disch:=omega) only [pz,z1,z0]
  rfl
 | cons c r=>
  have hsl:s.size=r.length+1:=by rw [←Zaw,hl];rfl
  have hs1:=Zbw (s:=s) (lo:=0) (hi:=1) (by omega) (by omega) (by omega)
  have es1:bl ((s.data.toList.take (1:Int).toNat).drop (0:Int).toNat)=bl [c]:=by rw [hl];rfl
  rw [es1] at hs1
  have hs2:=Zbw (s:=s) (lo:=1) (hi:=s.size) (by omega) (by omega) (by omega)
  have es2:bl ((s.data.toList.take ((s.size:Int)).toNat).drop (1:Int).toNat)=bl r:=by
   rw [Int.toNat_natCast,←Zaw,List.take_length,hl];rfl
  rw [es2] at hs2
  by_cases hc:c=45
  ·have hq:((bl [c]).toList==(⟨#[45]⟩:ByteArray).toList)=true:=(ZY _ _).2 (by rw [hc];rfl)
   simp (disch:=omega) only [pz,z1,hs1,hq,hs2]
   simp [tl,hc]
  ·have hq:((bl [c]).toList==(⟨#[45]⟩:ByteArray).toList)=false:=by
    cases hb:(bl [c]).toList==(⟨#[45]⟩:ByteArray).toList with
    | false=>rfl
    | true=>
     have:=congrArg (fun s:ByteArray=>s.data.toList) ((ZY _ _).1 hb)
     have h2:[c]=[45]:=this
     exact absurd (List.cons.inj h2).1 hc
   simp (disch:=omega) only [pz,z1,hs1,hq]
   have et:bl (tl (c::r))=s:=by
    rw [←Zaa s,hl];simp [tl,hc]
   rw [et]
theorem ZkK (s:ByteArray) (hs:s.size≤4000000000):ZcW s=some (numOf s):=by
 unfold ZcW
 have ht:=ZvW s hs
 have hsz:(bl (tl s.data.toList)).size=(tl s.data.toList).length:=ZO _
 by_cases h1:(tl s.data.toList).length<1
 ·rw [Zgw (.inl h1)]
  simp (disch:=omega) only [pz,ht,hsz]
 ·by_cases h2:18<(tl s.data.toList).length
  ·rw [Zgw (.inr h2)]
   simp (disch:=omega) only [pz,ht,hsz]
  ·have hle:=tl_le s.data.toList
   rw [Zaw] at hle
   have hg:gPars s=some (parsO s.data.toList):=by unfold gPars;rw [if_pos (by omega)]
   by_cases hp:∃ n,parseIntB 64 s.data.toList=.ok n
   ·obtain ⟨n,hp⟩:=hp
    have hr:=Zz8 hp
    have hd:=ZeF hr.1 hr.2
    have ho:=Zro hp
    rw [ZBh (by omega) hp]
    have hk:Zdd s (some n)=some (if itoaB n=s then (n,true) else (0,false)):=by
     unfold Zdd
     by_cases e:itoaB n=s
     ·have:=(ZY (itoaB n) s).2 e
      rw [if_pos e]
      simp (disch:=omega) only [pz,hd,this]
     ·have:((itoaB n).toList==s.toList)=false:=by
       cases hb:(itoaB n).toList==s.toList with
       | false=>rfl
       | true=>exact absurd ((ZY _ _).1 hb) e
      rw [if_neg e]
      simp (disch:=omega) only [pz,hd,this]
    simp (disch:=omega) only [pz,ht,hsz,hg,ho,hk]
   ·have hno:∀ n,parseIntB 64 s.data.toList≠.ok n:=fun n h=>hp ⟨n,h⟩
    have ho:=Zqt hno
    rw [ZsO hno]
    have hk:Zdd s none=some (0,false):=rfl
    simp (disch:=omega) only [pz,ht,hsz,hg,ho,hk]
end Go.Proofs.YtmmbnjijjdakmaaGreatDoor
