import Derived.Test.YtghbgeaammnkcaaGreatDoorPuJg
import Derived.Test.YtghbgeaammnkcaaGreatDoorPuFam
import Derived.Test.YtghbgeaammnkcaaGreatDoorPuJk
namespace Go.Proofs.YtghbgeaammnkcaaGreatDoor
open Go Go.Vc
set_option linter.unusedSimpArgs false
set_option linter.unusedVariables false
structure Nam (s:ByteArray):Prop where
 s1:1≤(s.size:Int)
 s2:(s.size:Int)≤10
 fst:97≤ix (byts s) 0∧ix (byts s) 0≤122
 all:∀ i,0≤i→i<(s.size:Int)→(97≤ix (byts s) i∧ix (byts s) i≤122)∨(48≤ix (byts s) i∧ix (byts s) i≤57)
end Go.Proofs.YtghbgeaammnkcaaGreatDoor
namespace Go.Proofs.YtghbgeaammnkcaaGreatDoor
set_option linter.unusedVariables false
open Go Go.Vc
set_option linter.unusedSimpArgs false
end Go.Proofs.YtghbgeaammnkcaaGreatDoor
namespace Go.Proofs.YtghbgeaammnkcaaGreatDoor
set_option linter.unusedVariables false
open Go Go.Vc
set_option linter.unusedSimpArgs false
end Go.Proofs.YtghbgeaammnkcaaGreatDoor
namespace Go.Proofs.YtghbgeaammnkcaaGreatDoor
set_option linter.unusedVariables false
open Go Go.Vc
set_option linter.unusedSimpArgs false
def marks (k:Int) (n:Nat):List Int:=(List.range n).map fun (j:Nat)=>k+(j:Int)
theorem ZfC (k:Int) (n:Nat):(marks k n).length=n:=by unfold marks;simp
theorem ZzR {xs:List Int} {k:Int} (h:xs.length≤4194304) (m:0≤k) (o:k≤9100000000000000000):ZhQ xs k=some (k+(xs.length:Int),marks k xs.length):=by
 unfold ZhQ
 let f:Nat→Int×Int×List Int:=fun j=>(k+(j:Int),(j:Int),marks k j++xs.drop j)
 have b:f 0=(k,0,xs):=by simp [f,marks]
 have c:f xs.length=(k+(xs.length:Int),(xs.length:Int),marks k xs.length):=by simp only [f];rw [List.drop_length,List.append_nil]
 rw [←b,Ziq f xs.length fun j hj=>?_,c]
 ·refine Zc ?_
  rw [Zip]
  have:decide ((xs.length:Int)<((marks k xs.length).length:Int))=false:=by rw [ZfC];simp
  rw [this];rfl
 ·obtain ⟨x,a⟩:=ZcD (xs:=xs) (k:=j) hj
  have hl:(marks k j++xs.drop j).length=xs.length:=by rw [List.length_append,ZfC,List.length_drop];omega
  have e:(marks k j++xs.drop j)[j]?=some x:=by
   rw [List.getElem?_append_right (by rw [ZfC];omega),ZfC,Nat.sub_self,List.getElem?_drop];simpa using a
  simp only [f]
  rw [Zip]
  have:decide ((j:Int)<((marks k j++xs.drop j).length:Int))=true:=by rw [hl];simpa using hj
  rw [this,Za5 e]
  simp only [cond_true,Option.bind_some]
  rw [wrapN hj (by unfold M63;omega),Za4 (by omega) (by omega),Int.toNat_natCast]
  have hs:(marks k j++xs.drop j).set j (k+(j:Int))=marks k (j+1)++xs.drop (j+1):=by
   rw [List.set_append,if_neg (by rw [ZfC];omega),ZfC,Nat.sub_self]
   have g:xs.drop j=x::xs.drop (j+1):=by
    rw [List.drop_eq_getElem_cons hj]
    congr 1
    have:=List.getElem?_eq_getElem (l:=xs) (i:=j) hj
    rw [a] at this;exact (Option.some.inj this).symm
   rw [g]
   unfold marks
   rw [List.range_succ,List.map_append];simp
  rw [hs,show k+(j:Int)+1=k+((j+1:Nat):Int) by omega]
def marksR:Int→List (List Int)→List (List Int)
 | _,[]=>[]
 | k,r::rs=>marks k r.length::marksR (k+r.length) rs
def total:List (List Int)→Nat
 | []=>0
 | r::rs=>r.length+total rs
theorem Zuk:∀ (xs:List (List Int)),(∀ r∈xs,r.length≤4194304)→total xs≤xs.length*4194304
 | [],_=>by simp [total]
 | r::rs,h=>by
  have b:=h r (List.mem_cons_self ..)
  have c:=Zuk rs fun x a=>h x (List.mem_cons_of_mem _ a)
  simp only [total,List.length_cons];omega
theorem Zj5:∀ (k:Int) (xs:List (List Int)),(marksR k xs).length=xs.length
 | _,[]=>rfl
 | k,r::rs=>by simp [marksR,Zj5]
theorem Zvl {xs:List (List Int)} {j:Nat} {r:List Int} (h:xs[j]?=some r):total (xs.take (j+1))=total (xs.take j)+r.length:=by
 induction xs generalizing j with
 | nil=>simp at h
 | cons x xs ih=>
  cases j with
  | zero=>simp at h;subst h;simp [total]
  | succ j=>simp only [List.take_succ_cons,total];rw [ih (by simpa using h)];omega
theorem ZzH {xs:List (List Int)} {j:Nat} {r:List Int} (h:xs[j]?=some r):∀ k:Int,(marksR k xs)[j]?=some (marks (k+(total (xs.take j):Int)) r.length):=by
 induction xs generalizing j with
 | nil=>simp at h
 | cons x xs ih=>
  intro k
  cases j with
  | zero=>simp at h;subst h;simp [marksR,total]
  | succ j=>
   simp only [marksR,List.getElem?_cons_succ,List.take_succ_cons,total]
   rw [ih (by simpa using h)]
   congr 2;omega
theorem Zyr (xs:List (List Int)) (j:Nat):total (xs.take j)≤total xs:=by
 induction xs generalizing j with
 | nil=>simp [total]
 | cons x xs ih=>
  cases j with
  | zero=>simp [total]
  | succ j=>simp only [List.take_succ_cons,total];have:=ih j;omega
theorem Zy6 {xs:List (List Int)} {k:Int} (h:xs.length≤4194304) (hr:∀ r∈xs,r.length≤4194304) (m:0≤k) (o:k≤9000000000000000000):Zja xs k=some (k+(total xs:Int),marksR k xs):=by
 have htot:=Zuk xs hr
 have htb:total xs≤17592186044416:=Nat.le_trans htot (by omega)
 unfold Zja
 let f:Nat→Int×Int×List (List Int):=fun j=>(k+(total (xs.take j):Int),(j:Int),(marksR k xs).take j++xs.drop j)
 have b:f 0=(k,0,xs):=by simp [f,total]
 have c:f xs.length=(k+(total xs:Int),(xs.length:Int),marksR k xs):=by
  simp only [f];rw [List.take_length,List.drop_length,List.append_nil,List.take_of_length_le (by rw [Zj5];omega)]
 rw [←b,Ziq f xs.length fun j hj=>?_,c]
 ·refine Zc ?_
  rw [Zh5]
  have:decide ((xs.length:Int)<((marksR k xs).length:Int))=false:=by rw [Zj5];simp
  rw [this];rfl
 ·obtain ⟨r,a⟩:=ZcD (xs:=xs) (k:=j) hj
  have htl:((marksR k xs).take j).length=j:=by rw [List.length_take,Zj5];omega
  have hl:((marksR k xs).take j++xs.drop j).length=xs.length:=by rw [List.length_append,htl,List.length_drop];omega
  have e:((marksR k xs).take j++xs.drop j)[j]?=some r:=by
   rw [List.getElem?_append_right (by omega),htl,Nat.sub_self,List.getElem?_drop];simpa using a
  have htm:=Zyr xs j
  simp only [f]
  rw [Zh5]
  have:decide ((j:Int)<(((marksR k xs).take j++xs.drop j).length:Int))=true:=by rw [hl];simpa using hj
  rw [this,Za5 e]
  simp only [cond_true,Option.bind_some]
  rw [ZzR (hr r (List.mem_of_getElem? a)) (by omega) (by omega)]
  simp only [Option.bind_some]
  rw [wrapN hj (by unfold M63;omega),Int.toNat_natCast]
  have hs:((marksR k xs).take j++xs.drop j).set j (marks (k+(total (xs.take j):Int)) r.length)=(marksR k xs).take (j+1)++xs.drop (j+1):=by
   rw [List.set_append,if_neg (by omega),htl,Nat.sub_self,List.take_add_one,ZzH a]
   have g:xs.drop j=r::xs.drop (j+1):=by
    rw [List.drop_eq_getElem_cons hj]
    congr 1
    have:=List.getElem?_eq_getElem (l:=xs) (i:=j) hj
    rw [a] at this;exact (Option.some.inj this).symm
   rw [g];simp
  rw [hs,Zvl a,show k+(total (xs.take j):Int)+(r.length:Int)=k+((total (xs.take j)+r.length:Nat):Int) by omega]
end Go.Proofs.YtghbgeaammnkcaaGreatDoor
namespace Go.Proofs.YtghbgeaammnkcaaGreatDoor
set_option linter.unusedVariables false
open Go Go.Vc
set_option linter.unusedSimpArgs false
end Go.Proofs.YtghbgeaammnkcaaGreatDoor
namespace Go.Proofs.YtghbgeaammnkcaaGreatDoor
set_option linter.unusedVariables false
open Go Go.Vc
set_option linter.unusedSimpArgs false
theorem Zq0 {a b:ByteArray} (h:a.size+b.size≤1000):gFit a b=some ():=by
 unfold gFit
 rw [if_pos]
 have:IntKind.i64.max=9223372036854775807:=rfl
 omega
theorem gByt1 {x:Int} (a:0≤x) (b:x≤255):gByt [x]=some (bstr [x]):=by
 unfold gByt
 rw [if_pos]
 intro y hy
 simp at hy
 omega
theorem bstr1 (x:Int):(bstr [x]).size=1:=rfl
theorem ZxK (a b:ByteArray):(a++b).size=a.size+b.size:=by simp
theorem ZE7:∀ (n:Nat) (k:Int) (out:ByteArray),0≤k→k<10^n→k≤9223372036854775807→out.size+n≤100→∃ t,loop Zgu (k,out)=some t:=by
 have hend:∀ out:ByteArray,out.size≤100→loop Zgu (0,out)=some ((⟨#[109]⟩:ByteArray)++out):=fun out h=>by
  have hf:gFit ⟨#[109]⟩ out=some ():=Zq0 (by show 1+out.size≤1000;omega)
  refine Zc ?_
  simp (disch:=omega) only [pz,Zgu,hf]
 intro n
 induction n with
 | zero=>
  intro k out a b _ c
  have:k=0:=by simp at b;omega
  subst this
  exact ⟨_,hend out (by omega)⟩
 | succ n ih=>
  intro k out a b i c
  by_cases hk:k=0
  ·subst hk;exact ⟨_,hend out (by omega)⟩
  ·have hm:Int.tmod k 10=k%10:=Int.tmod_eq_emod_of_nonneg a
   have f:Int.tdiv k 10=k/10:=Int.tdiv_eq_ediv_of_nonneg a
   have w1:IntKind.i64.wrap (48+k%10)=48+k%10:=Za4 (by omega) (by omega)
   have w2:IntKind.u8.wrap (48+k%10)=48+k%10:=u8_of (by omega) (by omega)
   have g:=gByt1 (x:=48+k%10) (by omega) (by omega)
   have hf:gFit (bstr [48+k%10]) out=some ():=Zq0 (by rw [bstr1];omega)
   have hp:k/10<10^n:=by
    have e:(10:Int)^(n+1)=10^n*10:=Int.pow_succ ..
    omega
   obtain ⟨t,ht⟩:=ih (k/10) (bstr [48+k%10]++out) (by omega) hp (by omega) (by rw [ZxK,bstr1];omega)
   refine ⟨t,?_⟩
   rw [←ht]
   refine ZL ?_
   simp (disch:=omega) only [pz,Zgu,hm,f,w1,w2,g,hf]
theorem mtext {k:Int} (a:k≤9223372036854775807):∃ t,ZcZ k=some t:=by
 unfold ZcZ
 by_cases h:k≤0
 ·exact ⟨⟨#[109,48]⟩,by simp (disch:=omega) only [pz,]⟩
 ·obtain ⟨t,ht⟩:=ZE7 19 k ⟨#[]⟩ (by omega) (by omega) a (by decide)
  exact ⟨t,by simp (disch:=omega) only [pz,ht]⟩
noncomputable def mtx (k:Int):ByteArray:=(ZcZ k).getD ⟨#[]⟩
theorem Zuq {k:Int} (a:k≤9223372036854775807):ZcZ k=some (mtx k):=by
 obtain ⟨t,ht⟩:=mtext a
 unfold mtx
 rw [ht];rfl
end Go.Proofs.YtghbgeaammnkcaaGreatDoor
namespace Go.Proofs.YtghbgeaammnkcaaGreatDoor
set_option linter.unusedVariables false
open Go Go.Vc
set_option linter.unusedSimpArgs false
noncomputable def marksT (k:Int) (n:Int):List ByteArray:=tabl n fun i=>mtx (k+i)
theorem Zrr (k n:Int):(marksT k n).length=n.toNat:=Zk
instance :Inhabited ByteArray:=⟨⟨#[]⟩⟩
theorem ZFV {xs:List ByteArray} {k:Int} (h:(xs.length:Int)≤4194304) (m:0≤k) (o:k≤9100000000000000000):Zjz xs k=some (k+(xs.length:Int),marksT k xs.length):=by
 unfold Zjz
 have hgo:=Zj (B:=Zfs) (fun j=>(k+j,j,tabl xs.length fun i=>if i<j then mtx (k+i) else ix xs i)) (i:=0) (n:=xs.length) (by omega) fun j c f=>by
  have hl:(tabl xs.length fun i=>if i<j then mtx (k+i) else ix xs i).length=xs.length:=by rw [Zk];omega
  have hs:(tabl xs.length fun i=>if i<j then mtx (k+i) else ix xs i).set j.toNat (mtx (k+j))=tabl xs.length fun i=>if i<j+1 then mtx (k+i) else ix xs i:=by
   apply Zav c f
   ·intro i b a p
    by_cases hi:i<j
    ·rw [if_pos hi,if_pos (show i<j+1 by omega)]
    ·rw [if_neg hi,if_neg (show ¬ i<j+1 by omega)]
   ·rw [if_pos (by omega)]
  generalize (tabl xs.length fun i=>if i<j then mtx (k+i) else ix xs i)=A at hl hs ⊢
  have ht:=Zuq (k:=k+j) (by omega)
  have e:k+(j+1)=k+j+1:=by omega
  simp (disch:=omega) only [pz,Zfs,ht,hs,e]
 have g:(k,(0:Int),xs)=(fun j:Int=>(k+j,j,tabl xs.length fun i=>if i<j then mtx (k+i) else ix xs i)) 0:=by
  show _=(k+0,(0:Int),_)
  congr 1
  ·omega
  ·congr 1
   refine (Zbp xs).symm.trans (ZN fun i b a=>?_)
   rw [if_neg (by omega)]
 rw [g,hgo]
 refine Zc ?_
 have l:(tabl xs.length fun i=>if i<(xs.length:Int) then mtx (k+i) else ix xs i)=marksT k xs.length:=ZN fun i b a=>by rw [if_pos a]
 have hl:=Zrr k xs.length
 simp only [l]
 simp (disch:=omega) only [pz,Zfs,hl]
theorem Zzh {n k:Int} (a:0≤n) (h:n≤4194304) (m:0≤k) (o:k≤9100000000000000000):Zgj (marksT k n) k=some (k+n):=by
 unfold Zgj
 have hl:=Zrr k n
 have hgo:=Zj (B:=ZiL (marksT k n)) (fun j=>(k+j,j)) (i:=0) (n:=n) a fun j b c=>by
  have f:ix (marksT k n) j=mtx (k+j):=Zq b c
  have e:k+(j+1)=k+j+1:=by omega
  have ht:=Zuq (k:=k+j) (by omega)
  have g:((mtx (k+j)).toList==(mtx (k+j)).toList)=true:=by simp
  simp (disch:=omega) only [pz,ZiL,ht,f,g,e]
 have l:(k,(0:Int))=(fun j:Int=>(k+j,j)) 0:=by simp
 rw [l,hgo]
 refine Zc ?_
 simp (disch:=omega) only [pz,ZiL]
end Go.Proofs.YtghbgeaammnkcaaGreatDoor
namespace Go.Proofs.YtghbgeaammnkcaaGreatDoor
set_option linter.unusedVariables false
open Go Go.Vc
set_option linter.unusedSimpArgs false
theorem ZyT {a:Zag} (h:Zoq a):Sz2 (Zb3 a).Rows:=by
 have e:(Zb3 a).Rows=a.Rows:=by simp [Zb3]
 rw [e]
 exact ⟨by have:=h.1;omega,fun b c=>by have:=(h.2 b c).1;omega⟩
theorem ZCx {a:Zag} (ha:ZpR a):ZjW a=some true:=by
 unfold ZjW
 obtain ⟨r,hr,c⟩:=ZEg a 1048576 ha (by omega) (by omega)
 have e:Zag.mk a.Kind a.Size a.Rows=a:=rfl
 rcases c with rfl|⟨s,t,sa⟩
 ·simp (disch:=omega) only [pz,e,hr]
 ·have hz:=ZyT sa
  have ht:=ZET sa
  have hs:(Zb3 a).Size=a.Size:=by simp [Zb3]
  have f:-9223372036854775808≤(Zb3 a).Size∧(Zb3 a).Size≤9223372036854775807:=by rw [hs];exact ha.2.1
  generalize Zb3 a=x at hz ht f
  have i:Zl.mk x.Kind x.Size x.Rows=x:=rfl
  obtain ⟨⟨g,c⟩,m,j,o⟩:=ZyN hz f
  dsimp only at o
  have h:=(Zxt (a:=g) (b:=g) ⟨by unfold M63;omega,fun _ _=>trivial⟩).eq rfl
  have l:=(ZEf (a:=x) (b:=x) ⟨by unfold M63;have:=hz.1;omega,fun y hy=>⟨by unfold M63;have:=hz.2 y hy;omega,fun _ _=>trivial⟩⟩).eq rfl
  have u:=hz.1
  have hm:ZhW x 1=some (1+(total x.Rows:Int),⟨x.Kind,x.Size,marksR 1 x.Rows⟩):=by
   have:=Zy6 (xs:=x.Rows) (k:=1) (by omega) (fun r hr=>by have:=hz.2 r hr;omega) (by omega) (by omega)
   unfold ZhW
   simp (disch:=omega) only [pz,this]
  have n0:¬ (1+(total x.Rows:Int)<0):=by omega
  have hg:=ZFV (xs:=g) (k:=1) (by omega) (by omega) (by omega)
  have hh:=Zzh (n:=g.length) (k:=1) (by omega) (by omega) (by omega) (by omega)
  have k3:ZiV (1+(g.length:Int),marksT 1 g.length)=some true:=by
   unfold ZiV
   simp (disch:=omega) only [pz,hh]
  have p:Zg3 a (g,c) (g,c)=some true:=by
   unfold Zg3
   simp (disch:=omega) only [pz,hg,hh,e,ht,j,h,k3]
  have k1:Zjx a (g,c) x (g,c)=some true:=by
   unfold Zjx
   simp (disch:=omega) only [pz,e,ht,i,l,hm,h,p]
  simp (disch:=omega) only [pz,e,hr,ht,m,i,j,h,k1]
end Go.Proofs.YtghbgeaammnkcaaGreatDoor
