import Derived.Test.YtcneolcmjjlmnaaGreatDoorPuJc
import Derived.Lib.SplitLaws
open ByteArray renaming ext->Y9,data_append->UV,data_extract->UX,append_empty->W1,append_assoc->W2
open List renaming map_cons->JG,map_nil->Y5,cons_append->J6,map_append->Xd,mem_cons_of_mem->JI,mem_cons_self->JA,length_cons->Jy,length_append->Jo,length_map->Ju,map_map->Xb,map_id->XR,map_congr_left->XQ,length_nil->Xn,append_nil->JL,append_assoc->Js,length->J3,length_take->Jt,take_length->Jx,eq_nil_of_length_eq_zero->X9,getElem?_eq_getElem->JF,mem_cons->Xc,mem_of_mem_take->Xq,getElem_mem->WX,append_cancel_left->Wa,foldl_append->WY,count->Y6,count_append->WZ,count_cons_self->W0,length_singleton->JM,length_drop->JO,length_filter_le->Xf,flatMap_append->XK,mem_flatMap->Yk,mem_filter->Xr,pairwise_flatMap->Yl,pairwise_map->Yz,length_replicate->JD,length_set->JC,replicate->Jn,flatMap_cons->Y7,mem_of_mem_drop->Ym,mem_singleton->Y8,getElem_of_mem->W5,length->Jk
open Nat renaming zero_le->J4,mul_succ->YB,le_refl->JB,mod_lt->XD,le_trans->JW,mul_le_mul_left->WV,add_comm->WW,xor_lt_two_pow->Xh
open Array renaming length_toList->Xl
open Int renaming tmod->Jq,tdiv->Jw,toNat_natCast->Jp,eq_ofNat_of_zero_le->Xz,lt_trichotomy->J7,add_assoc->W3,mul_le_mul->J0,mul_le_mul_of_nonneg_left->XZ,mul_nonneg->J8,mul_le_mul_of_nonneg_right->XJ,add_mul->Y2,one_mul->Y3,add_comm->Wb,add_zero->Wc,natCast_nonneg->W4,mul_comm->X6,tdiv_eq_ediv_of_nonneg->Xp,ediv_nonneg->XI,ediv_lt_of_lt_mul->YA,tmod_nonneg->XL,tmod_lt_of_pos->Xx
open Option renaming bind_some->Jr,some->Jg
open Bool renaming true->Ji,false->Jj
open Go.IntKind renaming i64->Y
namespace Go.Proofs.YtcneolcmjjlmnaaGreatDoor
open Go Go.Vc Go.Lib
set_option linter.unusedSimpArgs false
set_option linter.unusedVariables false
theorem gFitW {a b:Jd} (h:a.size+b.size<=4000000000000000000):gFit a b=Jg ():=by
 unfold gFit
 (simp_all;omega)
def bl (l:List UInt8):Jd:=⟨l.toArray⟩
theorem ZaA (b:Jd):bl b.data.toList=b:=by cases b;rfl
theorem Zae (l:List UInt8):(bl l).size=Jk l:=by show l.toArray.size=_;simp
theorem ZaB (l r:List UInt8):bl l++bl r=bl (l++r):=by
 apply Y9;rw [UV];show l.toArray++r.toArray=(l++r).toArray;simp
theorem Z6 (a b:Jd):(a++b).size=a.size+b.size:=by simp
theorem ZyT (x s:Jd):joinB [x] s=x:=by
 unfold joinB;rw [JG,Y5,join_one]
theorem ZpG (x:Jd) (r:List Jd) (s:Jd):joinB (x::r) s=bl (x.data.toList++joinTail s.data.toList (r.map (·.data.toList))):=by
 unfold joinB;rw [JG,join_cons];rfl
theorem ZqF {l:List Jd} (h:l≠[]) (x s:Jd):joinB (l++[x]) s=joinB l s++s++x:=by
 cases l with
 | nil=>exact absurd rfl h
 | cons a r=>
  rw [J6,ZpG,ZpG,Xd];grind [ZaA,ZaB,joinTail]
theorem ZDx {l:List Jd} {s:Jd} {m:Nat} (h:∀x∈l,x.size<=m):(joinB l s).size<=(m+s.size)*Jk l:=by
 cases l with
 | nil=>exact J4 _
 | cons a r=>
  have hl:∀(r:List Jd),(∀x∈r,x.size<=m)->lens (r.map (·.data.toList))<=m*Jk r:=by
   intro r;induction r with
   | nil=>intro _;exact J4 _
   | cons b t ih=>
    intro j;have h1:=ih λx i=>j x (JI _ i);have o:=j b (JA ..);have k:Jk b.data.toList=b.size:=by rw [Xl];rfl
    grind [lens,Jy,YB]
  have h1:=hl r λx i=>h x (JI _ i);have o:=h a (JA ..);have k:Jk a.data.toList=a.size:=by rw [Xl];rfl
  have u:Jk s.data.toList=s.size:=by rw [Xl];rfl
  rw [ZpG,Zae,Jo,joinTail_length,Ju,k,u,Jy,Nat.add_mul,YB,YB];omega
theorem dgl:∀(m u:Nat),u<10^(m+1)->(decDigits u).length<=m+1:=by
 intro m;induction m with
 | zero=>
  simp_all [decDigits,dif_pos,JB]
 | succ m j=>
  grind [decDigits]
theorem ZcG {n:Int} (m:Nat) (h1:-10^(m+1)<n) (i:n<10^(m+1)):(itoaB n).size<=m+2:=by
 have e:(10:Int)^(m+1)=((10^(m+1):Nat):Int):=by simp
 rw [e] at h1 i;show (itoa n).toArray.size<=_;unfold itoa;split
 .have:=dgl m n.natAbs Z;simp;omega
 .have:=dgl m n.toNat Z;simp;omega
theorem tq (k:Int):(0<=k->Jq k 10=((k.natAbs%10:Nat):Int)/\Jw k 10=((k.natAbs/10:Nat):Int))/\(k<0->Jq k 10=-((k.natAbs%10:Nat):Int)/\Jw k 10=-((k.natAbs/10:Nat):Int)):=by
 grind
def nums (l:List UInt8):Jb:=l.map λb=>(b.toNat:Int)
theorem ZC4 (l:List UInt8):gByt (nums l)=Jg (bl l):=by
 unfold gByt;rw [if_pos]
 .simp [bstr,nums,bl,Xb,XR,XQ]
 .intro x i;obtain ⟨b,_,rfl⟩:=List.mem_map.1 i;have:=b.toNat_lt;omega
theorem ZLp {n0 k:Int} {o:Jb} (u:¬k=0) (h1:-9223372036854775808<=k) (i:k<=9223372036854775807) (ho:Jk o<=100):
  ZbP n0 (o,k)=Jg (.inl (((48+k.natAbs%10:Nat):Int)::o,Jw k 10)):=by
 have hm:k.natAbs%10<10:=XD _ Z;have k1:∀d:Int,d=((k.natAbs%10:Nat):Int)->ZhH o k d=Jg (.inl (((48+k.natAbs%10:Nat):Int)::o,Jw k 10)):=by
  intro d hd;have w1:Y.wrap (48+d)=48+d:=Zap Z Z;have w2:IntKind.u8.wrap (48+d)=48+d:=u8_of Z Z;have j:Y.wrap (Jw k 10)=Jw k 10:=by
   by_cases hp:0<=k
   .grind [tq,Zap]
   .have:=((tq k).2 Z).2;grind [Zap]
  have g:gApp 1 [48+d] o=Jg ([48+d]++o):=ZaE (by simp;omega) (by simp;omega);grind [ZhH,pz]
 by_cases hp:0<=k
 .have hd:=((tq k).1 hp).1;have l:¬Jq k 10<0:=Z;simp (disch:=omega) only [pz,ZbP,k1 _ hd]
 .have hd:=((tq k).2 Z).1;by_cases hz:Jq k 10<0
  .have w:Y.wrap (0-Jq k 10)=0-Jq k 10:=Zap Z Z;simp (disch:=omega) only [pz,ZbP,w,k1 (0-Jq k 10) Z]
  .simp (disch:=omega) only [pz,ZbP,k1 (Jq k 10) Z]
theorem ZHm (n0:Int):∀(m:Nat) (k:Int) (u:Jb),¬k=0->k.natAbs<10^m->-9223372036854775808<=k->k<=9223372036854775807->Jk u+m<=100 ->
  loop (ZbP n0) (u,k)=loop (ZbP n0) (nums (decDigits k.natAbs)++u,0):=by
 intro m;induction m with
 | zero=>intro k u hk h;exact absurd (by simp at h;omega) hk
 | succ m ih=>
  intro k u hk h h1 i ho;rw [ZJ (ZLp hk h1 i Z)];have hm:k.natAbs%10<10:=XD _ Z;have hu:(Jw k 10).natAbs=k.natAbs/10:=by
   grind
  have o:((UInt8.ofNat (48+k.natAbs%10)).toNat:Int)=((48+k.natAbs%10:Nat):Int):=by
   (simp_all;omega)
  by_cases hz:k.natAbs<10
  .have j:Jw k 10=0:=Z;have l:k.natAbs%10=k.natAbs:=Z;rw [j,decDigits,dif_pos hz];grind [nums]
  .have e:10^(m+1)=10^m*10:=Nat.pow_succ ..;rw [ih (Jw k 10) _ Z (by rw [hu];omega) (by
    omega) (by
    by_cases hp:0<=k
    .have:=((tq k).1 hp).2;omega
    .have:=((tq k).2 Z).2;omega) (by rw [Jy];omega),hu]
   conv=>rhs;rw [decDigits,dif_neg hz]
   unfold nums;grind
theorem dgn (u:Nat):0<(decDigits u).length:=by
 grind [decDigits]
theorem Zgd {n:Int} (h1:-9223372036854775808<=n) (j:n<=9223372036854775807):Zck n=Jg (itoaB n):=by
 unfold Zck;by_cases i:n=0
 .subst i;rw [Ze (r:=⟨#[48]⟩) (by simp (disch:=omega) only [pz,ZbP,Xn])];simp [itoaB,itoa,if_neg,decDigits,dif_pos]
 .rw [ZHm n 19 n [] i Z h1 j (by decide),JL];have hl:=dgn n.natAbs;have k:(nums (decDigits n.natAbs)).length=(decDigits n.natAbs).length:=Ju ..;have hs:=ZC4 (decDigits n.natAbs);have hd:=dgl 19 n.natAbs Z;have hz:¬((nums (decDigits n.natAbs)).length:Int)=0:=Z;by_cases hp:n<0
  .have l:gFit ⟨#[45]⟩ (bl (decDigits n.natAbs))=Jg ():=gFitW (by rw [Zae];show 1+_<=_;omega);rw [Ze (r:=(⟨#[45]⟩:Jd)++bl (decDigits n.natAbs)) (by simp (disch:=omega) only [pz,ZbP,hs,l])];congr 1;unfold itoaB itoa;rw [if_pos hp];rfl
  .rw [Ze (r:=bl (decDigits n.natAbs)) (by simp (disch:=omega) only [pz,ZbP,hs])];congr 1;unfold itoaB itoa;rw [if_neg hp,show n.natAbs=n.toNat by omega];rfl
theorem Zcx {n:Int} (h1:-9223372036854775808<=n) (i:n<=9223372036854775807):ZbE n=Jg (itoaB n):=by
 unfold ZbE Zke;grind
open Go Go.Vc Go.Lib
theorem ZKd (b:Jd):(⟨#[]⟩:Jd)++b=b:=by
 rfl
theorem Zow (a b c:Jd):(a++b)++c=a++(b++c):=by
 rw [<-ZaA a,<-ZaA b,<-ZaA c,ZaB,ZaB,ZaB,ZaB,Js]
theorem Zkw {l:List Jd} {s:Jd} (h1:Jk l<=140737488355328) (i:(joinB l s).size<=140737488355328):Zeu l s=Jg (joinB l s):=by
 unfold Zeu;grind
theorem ZsX {α:Type} [Inhabited α] {xs:List α} {f:α->Jd} {s:Jd} {k:Int} (i:0<k) (h1:k<(Jk xs:Int)):
  joinB ((xs.take (k+1).toNat).map f) s=joinB ((xs.take k.toNat).map f) s++s++f (ix xs k):=by
 rw [Zai Z h1,Xd,JG,Y5,ZqF];intro e;have:=congrArg J3 e;rw [Ju,Jt,Xn] at this;omega
theorem Ztm {α:Type} [Inhabited α] {xs:List α} {f:α->Jd} {s:Jd} (h1:0<(Jk xs:Int)):
  joinB ((xs.take ((0:Int)+1).toNat).map f) s=f (ix xs 0):=by
 rw [Zai Z h1];exact ZyT _ _
theorem ZkH {α j:Type} [Inhabited α] {xs:List α} {f:α->j} {k:Int} (i:0<=k) (h1:k<(Jk xs:Int)):(xs.take (k+1).toNat).map f=(xs.take k.toNat).map f++[f (ix xs k)]:=by
 grind [Zai]
theorem jsize {α:Type} {xs:List α} {f:α->Jd} {s:Jd} {m N:Nat} (j:∀x∈xs,(f x).size<=m) (hl:Jk xs<=N) (i:Nat):(joinB ((xs.take i).map f) s).size<=(m+s.size)*N:=by
 refine JW (ZDx (m:=m) λy k=>?_) (WV _ ?_)
 .grind
 .grind
def InR (x:Int):Prop:=-999999999<=x/\x<=999999999
theorem Zbt {x:Int} (h:InR x):(itoaB x).size<=10:=ZcG 8 (by have:=h.1;omega) (by have:=h.2;omega)
noncomputable def tL (xs:Jb):Jd:=@ite _ (Jk xs<=100/\∀x∈xs,InR x) (Classical.propDecidable _) (if xs=[] then ⟨#[45]⟩ else joinB (xs.map itoaB) ⟨#[44]⟩) ⟨#[]⟩
theorem tL_t {xs:Jb} (h:Jk xs<=100/\∀x∈xs,InR x) (i:xs≠[]):tL xs=joinB (xs.map itoaB) ⟨#[44]⟩:=by unfold tL;rw [if_pos h,if_neg i]
theorem tL_n {xs:Jb} (i:xs=[]):tL xs=⟨#[45]⟩:=by
 subst i;unfold tL;simp
theorem tL_f {xs:Jb} (h:¬(Jk xs<=100/\∀x∈xs,InR x)):tL xs=⟨#[]⟩:=by unfold tL;rw [if_neg h]
theorem ZdI (xs:Jb):(tL xs).size<=1100:=by
 by_cases i:xs=[]
 .rw [tL_n i];show 1<=_;omega
 .by_cases h:Jk xs<=100/\∀x∈xs,InR x
  .rw [tL_t h i];have:=jsize (xs:=xs) (f:=itoaB) (s:=⟨#[44]⟩) (m:=10) (N:=100) (λx j=>Zbt (h.2 x j)) h.1 (Jk xs);rw [Jx] at this;exact this
  .rw [tL_f h];show 0<=_;omega
theorem ZHj {n:Int} (i:0<=n) (P:Int->Prop):(∃k,0<=k/\k<n/\P k/\∀j,0<=j->j<k->¬P j)\/∀j,0<=j->j<n->¬P j:=by
 rcases Zbn (σ:=Int) (ρ:=Unit) (B:=λk=>Jg (.inl (k+1))) (λk=>k) P i (λk _ _ _=>rfl) with ⟨k,h1,l,o,u,_⟩|⟨h,_⟩
 .grind
 .exact .inr h
theorem ZKF {xs:Jb} {n:Int} (l:n<=(Jk xs:Int)) (h:∀j,0<=j->j<n->InR (ix xs j)):∀x∈xs.take n.toNat,InR x:=by
 intro x k;obtain ⟨i,o,h1,rfl⟩:=ZU k;grind [Jt,Zdo]
theorem ZyI {xs:Jb} {n:Int} (h0:0<=n) (hn:n<=(Jk xs:Int)) (hl:Jk xs<=100) (h:∀j,0<=j->j<n->InR (ix xs j)):
  loop (ZdU xs) (⟨#[]⟩,0)=loop (ZdU xs) (joinB ((xs.take n.toNat).map itoaB) ⟨#[44]⟩,n):=by
 refine Zj (λk:Int=>(joinB ((xs.take k.toNat).map itoaB) ⟨#[44]⟩,k)) h0 λk k0 k1=>?_;have hk:=h k k0 k1;have hd:=Zgd (n:=ix xs k) (by have:=hk.1;omega) (by have:=hk.2;omega);have hz:=Zbt hk;have a4:(xs.take k.toNat).length<=100:=by rw [Jt];omega
 have hj:=ZDx (l:=(xs.take k.toNat).map itoaB) (s:=⟨#[44]⟩) (m:=10) λy hy=>by
  obtain ⟨x,hx,rfl⟩:=List.mem_map.1 hy;exact Zbt (ZKF (n:=k) Z (λj a b=>h j a Z) x hx)
 rw [Ju] at hj;have o:(joinB ((xs.take k.toNat).map itoaB) ⟨#[44]⟩).size<=1100:=JW hj (WV 11 a4);have hi:Zac (ix xs k) (-999999999) 999999999=Jg true:=by
  have:=hk.1;have:=hk.2;grind [pz,Zac]
 by_cases u:k=0
 .subst u;rw [Ztm Z];have i:gFit ⟨#[]⟩ (itoaB (ix xs 0))=Jg ():=gFitW (by show 0+_<=_;omega);have e0:joinB ((xs.take (0:Int).toNat).map itoaB) ⟨#[44]⟩=⟨#[]⟩:=rfl;rw [e0];simp (disch:=omega) only [pz,ZdU,ZhE,hi,hd,i,ZKd]
 .rw [ZsX Z Z];generalize joinB ((xs.take k.toNat).map itoaB) ⟨#[44]⟩=a2 at o;have f1:gFit a2 ⟨#[44]⟩=Jg ():=gFitW (by show a2.size+1<=_;omega);have i:gFit (a2++⟨#[44]⟩) (itoaB (ix xs k))=Jg ():=gFitW (by rw [Z6];show a2.size+1+_<=_;omega);simp (disch:=omega) only [pz,ZdU,ZhE,hi,hd,f1,i]
theorem Zvx {xs:Jb}:(∀x∈xs,InR x)↔∀j,0<=j->j<(Jk xs:Int)->InR (ix xs j):=
 ⟨λh j a b=>h _ (Zl a b),λh x k=>by obtain ⟨i,a,b,rfl⟩:=ZU k;exact h i a b⟩
theorem ZBx (xs:Jb):ZgR xs=Jg (tL xs):=by
 unfold ZgR;by_cases hl:Jk xs<=100
 .by_cases i:xs=[]
  .rw [tL_n i];grind
  .have hp:0<(Jk xs:Int):=by
    cases xs with
    | nil=>exact absurd rfl i
    | cons a t=>simp
   rcases ZHj (n:=xs.length) Z (λk=>¬InR (ix xs k)) with ⟨k,k0,k1,hk,l⟩|l
   .rw [tL_f λh=>hk (Zvx.1 h.2 k k0 k1)];have e:=ZyI (xs:=xs) (n:=k) k0 Z hl λj a b=>Classical.not_not.1 (l j a b);have hi:Zac (ix xs k) (-999999999) 999999999=Jg false:=by
     by_cases h1:-999999999<=ix xs k
     .have:¬ix xs k<=999999999:=λo=>hk ⟨h1,o⟩;grind [pz,Zac]
     .grind [pz,Zac]
    grind [loop,ZdU,Ze,pz]
   .have u:∀j,0<=j->j<(Jk xs:Int)->InR (ix xs j):=λj a b=>Classical.not_not.1 (l j a b);rw [tL_t ⟨hl,Zvx.2 u⟩ i];have e:=ZyI (xs:=xs) (n:=xs.length) Z Z hl u;rw [Jp,Jx] at e;grind [loop,ZdU,joinB,itoaB,Ze,pz]
 .grind [tL_f,pz]
theorem Zkg (xs:Jb):ZeN xs=Jg (tL xs):=by
 unfold ZeN;by_cases hl:Jk xs<=100
 .have o:=containsL (s:=xs) (fn:=λy0=>Zfd y0) (q:=λx=>¬InR x) Z λx j=>by
   by_cases h1:-999999999<=x
   .by_cases u:x<=999999999
    .simp (disch:=omega) only [pz,Zfd,ZV];exact IsQ.f λh=>h ⟨h1,u⟩
    .simp (disch:=omega) only [pz,Zfd,ZV];exact IsQ.t λh=>u h.2
   .simp (disch:=omega) only [pz,Zfd,ZV];exact IsQ.t λh=>h1 h.1
  by_cases ha:∀x∈xs,InR x
  .have y:=o.ne λ⟨x,j,h⟩=>h (ha x j);by_cases hn:xs=[]
   .grind [tL_n,pz,ZnT,Xn]
   .rw [tL_t ⟨hl,ha⟩ hn];have hp:0<(Jk xs:Int):=by
     cases xs with
     | nil=>exact absurd rfl hn
     | cons a t=>simp
    have e:loop (Zjy xs) ([],0)=Jg (joinB (xs.map itoaB) ⟨#[44]⟩):=by
     have e1:=Zj (B:=Zjy xs) (λk:Int=>((xs.take k.toNat).map itoaB,k)) (i:=0) (n:=xs.length) Z λk k0 k1=>by
      have hk:=ha _ (Zl k0 k1);have hd:=Zcx (n:=ix xs k) (by have:=hk.1;omega) (by have:=hk.2;omega);have a8:((xs.take k.toNat).map itoaB).length<=100:=by rw [Ju,Jt];omega
      rw [ZkH k0 k1];grind [gApp,itoaB,ix,gApp1,pz,Zjy]
     rw [Jp,Jx] at e1;refine e1.trans (Ze ?_);have hj:=jsize (xs:=xs) (f:=itoaB) (s:=⟨#[44]⟩) (m:=10) (N:=100) (λx j=>Zbt (ha x j)) hl (Jk xs);rw [Jx] at hj;have hq:=Zkw (l:=xs.map itoaB) (s:=⟨#[44]⟩) (by rw [Ju];omega) (JW hj (by decide));simp_all [pz,Zjy]
    grind [pz,ZnT]
  .have y:=o.eq (by
    grind)
   grind [tL_f,pz]
 .grind [tL_f,pz]
theorem ZJo {k:Int} (h1:1<=k) (i:k<=7):∃l s,Zlk=Jg l/\gIdx l k=Jg s/\ZdO k=Jg s/\s.size<=10/\32∉s.data.toList:=by
 have j:k=1\/k=2\/k=3\/k=4\/k=5\/k=6\/k=7:=Z;have w:Y.wrap (k-1)=k-1:=Zap Z Z;have o:ZV k 1 7=Jg true:=by simp (disch:=omega) only [pz,ZV]
 have hi:Zfm k=Jg true:=by simp (disch:=omega) only [pz,Zfm,o]
 unfold ZdO Zlk Zih;rw [hi,w];rcases j with rfl|rfl|rfl|rfl|rfl|rfl|rfl<;>exact ⟨_,_,rfl,rfl,rfl,by decide,by decide⟩
theorem ZCV {o:Zf} (h:Zar o=Jg Ji):1<=o.Kind/\o.Kind<=7:=by
 refine Classical.byContradiction λi=>?_;grind [Zar,pz]
noncomputable def tR (rows:Ja):Jd:=if rows=[] then ⟨#[110,111,110,101]⟩ else joinB (rows.map tL) ⟨#[47]⟩
theorem Zwh {rows:Ja} (h:Jk rows<=1048576):(tR rows).size<=1154482176:=by
 unfold tR;split
 .show 4<=_;omega
 .have:=jsize (xs:=rows) (f:=tL) (s:=⟨#[47]⟩) (m:=1100) (N:=1048576) (λx _=>ZdI x) h (Jk rows);rw [Jx] at this;exact this
theorem ZOI {o:Zf} {pre:Jd} (hp:pre.size<=100) (h:Jk o.Rows<=1048576) (a4:o.Rows≠[]):
  loop (Zc9 o) (pre,0)=Jg (pre++tR o.Rows):=by
 have e:tR o.Rows=joinB (o.Rows.map tL) ⟨#[47]⟩:=by unfold tR;rw [if_neg a4]
 rw [e];have e1:=Zj (B:=Zc9 o) (λk:Int=>(pre++joinB ((o.Rows.take k.toNat).map tL) ⟨#[47]⟩,k)) (i:=0) (n:=o.Rows.length) Z λk k0 k1=>by
  have hj:=jsize (xs:=o.Rows) (f:=tL) (s:=⟨#[47]⟩) (m:=1100) (N:=1048576) (λx _=>ZdI x) h k.toNat;have hs:=ZdI (ix o.Rows k);have hl:=ZBx (ix o.Rows k);have j:(joinB ((o.Rows.take k.toNat).map tL) ⟨#[47]⟩).size<=1154482176:=hj;by_cases l:k=0
  .subst l;rw [Ztm Z];have u:joinB ((o.Rows.take (0:Int).toNat).map tL) ⟨#[47]⟩=⟨#[]⟩:=rfl;have y:pre++(⟨#[]⟩:Jd)=pre:=by
    have:=ZaB pre.data.toList [];rw [ZaA,JL,ZaA] at this;exact this
   rw [u,y];have f2:gFit pre (tL (ix o.Rows 0))=Jg ():=gFitW Z;simp_all [pz,Zc9,Zgg]
  .rw [ZsX Z Z];generalize joinB ((o.Rows.take k.toNat).map tL) ⟨#[47]⟩=a2 at j;have f1:gFit (pre++a2) ⟨#[47]⟩=Jg ():=gFitW (by rw [Z6];show _+1<=_;omega);have f2:gFit ((pre++a2)++⟨#[47]⟩) (tL (ix o.Rows k))=Jg ():=gFitW (by rw [Z6,Z6];show _+1+_<=_;omega);have e3:pre++(a2++⟨#[47]⟩++tL (ix o.Rows k))=pre++a2++⟨#[47]⟩++tL (ix o.Rows k):=by rw [Zow,Zow,Zow]
   rw [e3];simp (disch:=omega) only [pz,Zc9,Zgg,hl,f1,f2]
 have u:pre++joinB ((o.Rows.take (0:Int).toNat).map tL) ⟨#[47]⟩=pre:=by
  have:=ZaB pre.data.toList [];rw [ZaA,JL,ZaA] at this;exact this
 rw [Jp,Jx] at e1;have a3:loop (Zc9 o) (pre,0)=loop (Zc9 o) (pre++joinB (o.Rows.map tL) ⟨#[47]⟩,(Jk o.Rows:Int)):=by
  grind
 rw [a3];exact Ze (by simp (disch:=omega) only [pz,Zc9])
theorem ZH9 {o:Zf} (h1:1<=o.Kind) (h7:o.Kind<=7) (hs:-9223372036854775808<=o.Size/\o.Size<=9223372036854775807) (h:Jk o.Rows<=1048576):
  ∃t,Zj0 o=Jg t/\(Zar o=Jg Ji->Zc5 o=Jg t)/\t.size<=1154482300/\∃s:Jd,32∉s.data.toList/\t=(((s++⟨#[32]⟩)++itoaB o.Size)++⟨#[32]⟩)++tR o.Rows:=by
 obtain ⟨l,s,n1,n2,n3,n4,n5⟩:=ZJo h1 h7;have y:=Zgd hs.1 hs.2;have d2:=Zcx hs.1 hs.2;have dz:=ZcG (n:=o.Size) 18 Z Z;have ab:(⟨#[32]⟩:Jd).size=1:=rfl;have f1:gFit s ⟨#[32]⟩=Jg ():=gFitW Z;have f2:gFit (s++⟨#[32]⟩) (itoaB o.Size)=Jg ():=gFitW (by rw [Z6];omega);have f3:gFit ((s++⟨#[32]⟩)++itoaB o.Size) ⟨#[32]⟩=Jg ():=gFitW (by rw [Z6,Z6];omega);have hz:=Zwh h;have hp:(((s++⟨#[32]⟩)++itoaB o.Size)++⟨#[32]⟩).size<=100:=by rw [Z6,Z6,Z6];omega
 have f4:gFit (((s++⟨#[32]⟩)++itoaB o.Size)++⟨#[32]⟩) (tR o.Rows)=Jg ():=gFitW Z;have k1:ZdW o (tR o.Rows)=Jg ((((s++⟨#[32]⟩)++itoaB o.Size)++⟨#[32]⟩)++tR o.Rows):=by
  grind [ZdW,pz]
 have e:Zf.mk o.Kind o.Size o.Rows=o:=rfl;refine ⟨(((s++⟨#[32]⟩)++itoaB o.Size)++⟨#[32]⟩)++tR o.Rows,?_,λhv=>?_,by rw [Z6];omega,s,n5,rfl⟩
 .unfold Zj0;by_cases j:o.Rows=[]
  .have er:tR o.Rows=⟨#[110,111,110,101]⟩:=by unfold tR;rw [if_pos j]
   rw [er] at f4 ⊢;have u:(Jk o.Rows:Int)=0:=by rw [j];rfl
   simp (disch:=omega) only [pz,n1,n2,y,f1,f2,f3,f4]
  .have u:¬(Jk o.Rows:Int)=0:=by
    simp_all
   have hr:=ZOI (o:=o) hp h j;simp (disch:=omega) only [pz,n1,n2,y,f1,f2,f3,hr]
 .unfold Zc5;by_cases j:o.Rows=[]
  .have er:tR o.Rows=⟨#[110,111,110,101]⟩:=by unfold tR;rw [if_pos j]
   rw [er] at k1 ⊢;have u:(Jk o.Rows:Int)=0:=by rw [j];rfl
   simp (disch:=omega) only [pz,e,hv,k1]
  .have u:0<(Jk o.Rows:Int):=by
    have:Jk o.Rows≠0:=λh0=>j (X9 h0);omega
   have er:tR o.Rows=joinB (o.Rows.map tL) ⟨#[47]⟩:=by unfold tR;rw [if_neg j]
   have e1:=Zj (B:=Zb3 o) (λk:Int=>((o.Rows.take k.toNat).map tL,k)) (i:=0) (n:=o.Rows.length) Z λk a b=>by
    have ac:=Zkg (ix o.Rows k);have aa:((o.Rows.take k.toNat).map tL).length<=1048576:=by rw [Ju,Jt];omega
    rw [ZkH a b];have hg:gApp 16 ((o.Rows.take k.toNat).map tL) [tL (ix o.Rows k)]=Jg ((o.Rows.take k.toNat).map tL++[tL (ix o.Rows k)]):=gApp1 Z Z;grind [pz,Zb3]
   rw [Jp,Jx] at e1;have hq:=Zkw (l:=o.Rows.map tL) (s:=⟨#[47]⟩) (by rw [Ju];omega) (by rw [<-er];omega);rw [er] at k1;have e2:loop (Zb3 o) ([],0)=Jg ((((s++⟨#[32]⟩)++itoaB o.Size)++⟨#[32]⟩)++joinB (o.Rows.map tL) ⟨#[47]⟩):=by
    refine Eq.trans e1 (Ze ?_);grind [pz,Zb3]
   rw [er];simp (disch:=omega) only [pz,e,hv,e2]
open Go Go.Vc Go.Lib
def spl (b:UInt8):List UInt8->List (List UInt8)
 | []=>[[]]
 | c::l=>if c=b then []::spl b l else (c::(spl b l).headD [])::(spl b l).tail
theorem ZIJ (b:UInt8) (l:List UInt8):spl b l≠[]:=by
 cases l with
 | nil=>simp [spl]
 | cons c l=>unfold spl;split<;>simp
theorem Zgk {b:UInt8} {l:List UInt8}:∃h t,spl b l=h::t:=by
 cases e:spl b l with
 | nil=>exact absurd e (ZIJ b l)
 | cons h t=>exact ⟨h,t,rfl⟩
theorem Zmm (x y:List UInt8) (r:List (List UInt8)) (s:List UInt8):join (x::y::r) s=x++s++join (y::r) s:=by
 simp [join_cons,joinTail]
theorem Zzn (b:UInt8):∀l:List UInt8,join (spl b l) [b]=l
 | []=>by simp [spl,join_one]
 | c::l=>by
  have j:=Zzn b l;obtain ⟨h,t,e⟩:=Zgk (b:=b) (l:=l);unfold spl;split
  .grind [Zmm]
  .grind [join_cons,joinTail]
theorem ZCG (b:UInt8):∀(l:List UInt8),∀x∈spl b l,b∉x
 | [],x,i=>by
  grind [spl]
 | c::l,x,i=>by
  have j:=ZCG b l;obtain ⟨h,t,e⟩:=Zgk (b:=b) (l:=l);grind [spl]
theorem ZA2 {b:UInt8}:∀{x:List UInt8},b∉x->spl b x=[x]
 | [],_=>rfl
 | c::x,h=>by
  have k:=ZA2 (x:=x) λj=>h (JI _ j);unfold spl;grind
theorem Zn4 {b:UInt8}:∀{x:List UInt8} (l:List UInt8),b∉x->spl b (x++b::l)=x::spl b l
 | [],l,_=>by simp [spl]
 | c::x,l,h=>by
  have k:=Zn4 (x:=x) l λj=>h (JI _ j);rw [J6]
  conv=>lhs;unfold spl
  grind
theorem ZDK {b:UInt8}:∀{xs:List (List UInt8)},xs≠[]->(∀x∈xs,b∉x)->spl b (join xs [b])=xs
 | [],h,_=>absurd rfl h
 | [x],_,h=>by rw [join_one];exact ZA2 (h x (JA ..))
 | x::y::r,_,h=>by
  have j:=ZDK (b:=b) (xs:=y::r) (by simp) λz hz=>h z (JI _ hz);grind [Zmm,Js,spl,join,Zn4,JA]
theorem Zpz (b:UInt8):∀l:List UInt8,(spl b l).length<=Jk l+1
 | []=>by simp [spl]
 | c::l=>by
  have j:=Zpz b l;obtain ⟨h,t,e⟩:=Zgk (b:=b) (l:=l);grind [spl]
theorem ZoY (b:UInt8):∀l:List UInt8,∀x∈spl b l,Jk x<=Jk l
 | [],x,i=>by simp [spl] at i;rw [i];simp
 | c::l,x,i=>by
  have j:=ZoY b l;obtain ⟨h,t,e⟩:=Zgk (b:=b) (l:=l);grind [spl]
open Go Go.Vc Go.Lib
def Dg (c:UInt8):Prop:=48<=c.toNat/\c.toNat<=57
def vl (l:List UInt8):Nat:=l.foldl (λn c=>10*n+(c.toNat-48)) 0
theorem ZIq (l:List UInt8) (c:UInt8):vl (l++[c])=10*vl l+(c.toNat-48):=by
 unfold vl;simp
theorem dch {d:Nat} (h:d<10):(UInt8.ofNat (48+d)).toNat=48+d:=by
 (simp_all;omega)
theorem Znz {P:List UInt8->Nat->Prop} (h1:∀u,u<10->P [UInt8.ofNat (48+u)] u) (i:∀u,10<=u->P (decDigits (u/10)) (u/10)->P (decDigits (u/10)++[UInt8.ofNat (48+u%10)]) u):∀(n u:Nat),u<n->P (decDigits u) u:=by
 intro n;induction n with
 | zero=>intro u h;omega
 | succ n k=>
  intro u h;by_cases j:u<10
  .rw [decDigits,dif_pos j];grind
  .rw [decDigits,dif_neg j];grind
theorem ZtQ (u:Nat):vl (decDigits u)=u:=by
 refine Znz (P:=λl u=>vl l=u) (λu h=>?_) (λu h j=>?_) (u+1) u Z
 .show 10*0+((UInt8.ofNat (48+u)).toNat-48)=u;rw [dch h];omega
 .grind [ZIq,dch,XD]
theorem ZgH (u:Nat):∀c∈decDigits u,Dg c:=by
 refine Znz (P:=λl u=>∀c∈l,Dg c) (λu h c i=>?_) (λu h j c i=>?_) (u+1) u Z
 .obtain rfl:=List.mem_singleton.1 i;grind [Dg,dch]
 .rcases List.mem_append.1 i with i|i
  .exact j c i
  .obtain rfl:=List.mem_singleton.1 i;grind [XD,Dg,dch]
theorem ZGN (u:Nat):u<10^(decDigits u).length:=by
 refine Znz (P:=λl u=>u<10^(Jk l)) (λu h=>?_) (λu h j=>?_) (u+1) u Z
 .simpa using h
 .grind
noncomputable def numOf (s:Jd):Int×Bool:=
 @dite _ (∃n:Int,(-1000000000000000000<n/\n<1000000000000000000)/\itoaB n=s) (Classical.propDecidable _) (λh=>(Classical.choose h,Ji)) (λ_=>(0,Jj))
theorem ZeD (n:Int):(itoaB n).data.toList=itoa n:=by unfold itoaB;simp
theorem Zqb {n m:Int} (h:itoaB n=itoaB m):n=m:=by
 have i:=congrArg (λs:Jd=>s.data.toList) h;simp only [ZeD] at i;have hd:∀(u v:Nat) ,decDigits u≠45::decDigits v:=λu v e=>by
  have:=ZgH u 45 (by rw [e];exact JA ..);unfold Dg at this;grind
 unfold itoa at i;split at i
 .split at i
  .have j:=(List.cons.inj i).2;have k:=congrArg vl j;grind [ZtQ]
  .grind
 .split at i
  .grind
  .have k:=congrArg vl i;grind [ZtQ]
theorem Zyj {n:Int} {s:Jd} (h1:-1000000000000000000<n/\n<1000000000000000000) (h:itoaB n=s):numOf s=(n,Ji):=by
 have i:∃n:Int,(-1000000000000000000<n/\n<1000000000000000000)/\itoaB n=s:=⟨n,h1,h⟩
 unfold numOf;rw [dif_pos i];grind [Classical.choose_spec,Zqb,trans]
theorem Zqo {s:Jd} (h:∀n:Int,(-1000000000000000000<n/\n<1000000000000000000)->itoaB n≠s):numOf s=(0,Jj):=by
 unfold numOf;grind
theorem Ztd (M:Nat):∀(l:List UInt8) (a n:Nat) (c:UInt8),parseUintM M a l=.ok n->Dg c->n<1844674407370955162->n*10+(c.toNat-48)<=M->parseUintM M a (l++[c])=.ok (n*10+(c.toNat-48))
 | [],a,n,c,h,i,h1,j=>by
  have h:NumEnd.ok a=NumEnd.ok n:=h;cases h;rw [List.nil_append];unfold parseUintM;have i:48<=c.toNat/\c.toNat<=57:=i;rw [if_pos i,if_neg Z,if_neg Z];rfl
 | d::l,a,n,c,h,i,h1,j=>by
  rw [J6];unfold parseUintM at h ⊢;split at h
  .rename_i hd;rw [if_pos hd];split at h
   .cases h
   .rename_i k;rw [if_neg k];split at h
    .cases h
    .rename_i hm;rw [if_neg hm];exact Ztd M l _ n c h i h1 j
  .cases h
theorem ZDd (u:Nat) (j:u<1000000000000000000):parseUintM 18446744073709551615 0 (decDigits u)=.ok u:=by
 refine Znz (P:=λl u=>u<1000000000000000000->parseUintM 18446744073709551615 0 l=.ok u) (λu h _=>?_) (λu h k j=>?_) (u+1) u Z j
 .have hd:Dg (UInt8.ofNat (48+u)):=by unfold Dg;rw [dch h];omega
  have:=Ztd 18446744073709551615 [] 0 0 _ rfl hd Z (by rw [dch h];omega);grind [dch]
 .have hm:=XD u (show 0<10 by omega);have hd:Dg (UInt8.ofNat (48+u%10)):=by unfold Dg;rw [dch hm];omega
  rw [Ztd _ _ 0 (u/10) _ (k Z) hd Z (by rw [dch hm];omega),dch hm];grind
theorem Zzk {n:Int} (h:-1000000000000000000<n/\n<1000000000000000000):parseIntB 64 (itoaB n).data.toList=.ok n:=by
 rw [ZeD];have j:(45:UInt8).toNat=45:=rfl;unfold itoa;split
 .have hp:=ZDd n.natAbs Z;have u:decDigits n.natAbs≠[]:=λe=>by have:=dgn n.natAbs;rw [e] at this;simp at this
  unfold parseIntB parseUintB;grind
 .have hp:=ZDd n.toNat Z;have o:=ZgH n.toNat;cases hl:decDigits n.toNat with
  | nil=>have:=dgn n.toNat;rw [hl] at this;simp at this
  | cons c r=>
   rw [hl] at hp o;have i:=o c (JA ..);unfold Dg at i;have k:¬c.toNat=43:=Z;have l:¬c.toNat=45:=Z;unfold parseIntB parseUintB;grind
open Go Go.Vc Go.Lib
def tl (l:List UInt8):List UInt8:=match l with
 | []=>[]
 | c::r=>if c=45 then r else l
theorem ZAe {n:Int} {l:List UInt8} (h:itoa n=l):tl l=decDigits n.natAbs/\(n<0↔(tl l).length<Jk l):=by
 subst h;unfold itoa;split
 .grind [tl]
 .rename_i j;have e:n.toNat=n.natAbs:=Z;rw [e];have h1:tl (decDigits n.natAbs)=decDigits n.natAbs:=by
   cases hl:decDigits n.natAbs with
   | nil=>rfl
   | cons c r=>
    have:=ZgH n.natAbs c (by rw [hl];exact JA ..);unfold Dg at this;have i:¬c=45:=λe=>by rw [e] at this;have k:(45:UInt8).toNat=45:=rfl;omega
    simp [tl,i]
  grind
theorem ZEM {l:List UInt8} {v:Int} (h:parseIntB 64 l=.ok v):-9223372036854775808<=v/\v<=9223372036854775807:=by
 unfold parseIntB at h;grind
theorem ZoJ {s:Jd} (h:(tl s.data.toList).length<1\/18<(tl s.data.toList).length):numOf s=(0,Jj):=by
 refine Zqo λn j e=>?_;have i:=congrArg (λs:Jd=>s.data.toList) e;simp only [ZeD] at i;have:=(ZAe i).1;rw [this] at h;have h1:=dgn n.natAbs;have k:=dgl 17 n.natAbs Z;omega
theorem ZHC {s:Jd} (hl:(tl s.data.toList).length<=18) {n:Int} (hp:parseIntB 64 s.data.toList=.ok n):numOf s=if itoaB n=s then (n,Ji) else (0,Jj):=by
 by_cases e:itoaB n=s
 .rw [if_pos e];refine Zyj ?_ e;have i:=congrArg (λs:Jd=>s.data.toList) e;simp only [ZeD] at i;rw [(ZAe i).1] at hl;have:=ZGN n.natAbs;have:=Nat.lt_of_lt_of_le this (Nat.pow_le_pow_right (show 1<=10 by omega) hl);omega
 .rw [if_neg e];grind [Zqo,Zzk]
theorem ZK7 {s:Jd} (hp:∀n,parseIntB 64 s.data.toList≠.ok n):numOf s=(0,Jj):=
 Zqo λm hm i=>hp m (by rw [<-i];exact Zzk hm)
open Go Go.Vc Go.Lib
theorem ZfP (s:Jd):Jk s.data.toList=s.size:=by rw [Xl];rfl
theorem Zo3 {s:Jd} {i:Int} (j:0<=i) {c:UInt8} (h:s.data.toList[i.toNat]?=Jg c):gSt s i=Jg c:=by
 have hl:i.toNat<s.size:=by
  rw [<-ZfP];grind
 unfold gSt;rw [if_pos j,getElem?_pos s i.toNat hl];rw [JF (by rw [ZfP];exact hl)] at h;rw [<-Option.some.inj h];rfl
theorem Zdy {s:Jd} {lo hi:Int} (i:0<=lo) (h1:lo<=hi) (j:hi<=(s.size:Int)):gStSl s lo hi=Jg (bl ((s.data.toList.take hi.toNat).drop lo.toNat)):=by
 unfold gStSl;rw [if_pos ⟨i,h1,j⟩];congr 1;apply Y9;grind [UX,Array.ext',Array.toList_extract,bl,List.extract_eq_take_drop,List.drop_take]
theorem tl_le (l:List UInt8):(tl l).length<=Jk l/\(Jk l)<=(tl l).length+1:=by
 cases l with
 | nil=>exact ⟨JB _,Nat.le_succ _⟩
 | cons c r=>
  by_cases i:c=45
  .simp [tl,i]
  .simp [tl,i]
theorem ZEv (s:Jd) (hs:s.size<=4000000000):ZcB s ⟨#[45]⟩=Jg (bl (tl s.data.toList)):=by
 unfold ZcB ZnC ZnB;have z1:((⟨#[45]⟩:Jd).size:Int)=1:=rfl;cases hl:s.data.toList with
 | nil=>
  have e:s=⟨#[]⟩:=by
   apply Y9;grind
  subst e;rfl
 | cons c r=>
  have a2:s.size=Jk r+1:=by rw [<-ZfP,hl];rfl
  have i:=Zdy (s:=s) (lo:=0) (hi:=1) Z Z Z;have j:bl ((s.data.toList.take (1:Int).toNat).drop (0:Int).toNat)=bl [c]:=by rw [hl];rfl
  rw [j] at i;have k:=Zdy (s:=s) (lo:=1) (hi:=s.size) Z Z Z;have l:bl ((s.data.toList.take ((s.size:Int)).toNat).drop (1:Int).toNat)=bl r:=by
   simp_all
  rw [l] at k;by_cases u:c=45
  .grind [bl,Zay,pz,tl]
  .have y:((bl [c]).toList==(⟨#[45]⟩:Jd).toList)=false:=by
    cases o:(bl [c]).toList==(⟨#[45]⟩:Jd).toList with
    | false=>rfl
    | true=>
     have:=congrArg (λs:Jd=>s.data.toList) ((Zay _ _).1 o);have h2:[c]=[45]:=this;grind
   grind [pz,bl,tl,ZaA]
theorem Zsa (s:Jd) (hs:s.size<=4000000000):Zem s=Jg (numOf s):=by
 unfold Zem;have ht:=ZEv s hs;have a2:(bl (tl s.data.toList)).size=(tl s.data.toList).length:=Zae _;by_cases h1:(tl s.data.toList).length<1
 .grind [ZoJ,pz]
 .by_cases i:18<(tl s.data.toList).length
  .grind [ZoJ,pz]
  .have k:=tl_le s.data.toList;rw [ZfP] at k;have hg:gPars s=Jg (parsO s.data.toList):=by unfold gPars;rw [if_pos Z]
   by_cases hp:∃n,parseIntB 64 s.data.toList=.ok n
   .obtain ⟨n,hp⟩:=hp;have l:=ZEM hp;have hd:=Zcx l.1 l.2;have u:=ZvS hp;rw [ZHC Z hp];have o:Zer s (Jg n)=Jg (if itoaB n=s then (n,Ji) else (0,Jj)):=by
     unfold Zer;by_cases e:itoaB n=s
     .grind
     .have:((itoaB n).toList==s.toList)=false:=by
       grind [itoaB,absurd,Zay]
      grind
    grind
   .have j:∀n,parseIntB 64 s.data.toList≠.ok n:=λn h=>hp ⟨n,h⟩;have u:=ZEo j;rw [ZK7 j];have o:Zer s none=Jg (0,Jj):=rfl;grind
open Go Go.Vc Go.Lib
theorem ZuU (b:UInt8):∀l:List UInt8,splitK [b] 0 (count l [b]) l=spl b l
 | []=>by rw [count_one];rfl
 | c::l=>by
  have ih:=ZuU b l;unfold spl;by_cases i:c=b
  .subst i;rw [if_pos rfl,count_cons_eq,WW,<-ih];simp_all [index,splitK]
  .rw [if_neg i,count_cons_ne c b l i,<-ih];have hp:([b]:List UInt8).isPrefixOf (c::l)=false:=by simp [List.isPrefixOf,Ne.symm i]
   have u:index (c::l) [b]=if index l [b]==-1 then -1 else index l [b]+1:=by rw [index,hp];simp
   by_cases hm:index l [b]=-1
   .rw [count_miss hm];rfl
   .have a3:=index_ge l [b];obtain ⟨j,hj⟩:∃j:Nat,index l [b]=j:=⟨(index l [b]).toNat,by omega⟩
    have o:index (c::l) [b]=((j+1:Nat):Int):=by rw [u,if_neg (λe=>hm (beq_iff_eq.1 e)),hj];omega
    rw [count_hit (by simp) hj,WW 1];generalize count (l.drop (j+[b].length)) [b]=k;unfold splitK;rw [hj,o,if_neg (by rw [beq_iff_eq];omega),if_neg (by rw [beq_iff_eq];omega)];rfl
def splB (b:UInt8) (s:Jd):List Jd:=(spl b s.data.toList).map bl
theorem ZOj (b:UInt8) (s:Jd):splitB ⟨#[b]⟩ 0 (countB s ⟨#[b]⟩) s=splB b s:=by
 have h:=splitB_data ⟨#[b]⟩ 0 (countB s ⟨#[b]⟩) s;have i:splitK (⟨#[b]⟩:Jd).data.toList 0 (countB s ⟨#[b]⟩) s.data.toList=spl b s.data.toList:=ZuU b s.data.toList;rw [i] at h;unfold splB;rw [<-h,Xb];simp [XR,splitB,XQ,ZaA]
theorem ZiD {b:UInt8} {s:Jd} (hs:s.size<=4294967280):Zbb s ⟨#[b]⟩=Jg (splB b s):=by
 unfold Zbb;rw [if_pos ⟨by omega,JB _⟩,ZOj]
open Go Go.Vc Go.Lib
theorem ZoM {b:UInt8} {xs:List Jd} (h:xs≠[]) (i:∀x∈xs,b∉x.data.toList):splB b (joinB xs ⟨#[b]⟩)=xs:=by
 have e:(joinB xs ⟨#[b]⟩).data.toList=join (xs.map (·.data.toList)) [b]:=rfl;unfold splB;rw [e,ZDK (by simpa using h) (λx j=>by obtain ⟨y,k,rfl⟩:=List.mem_map.1 j;exact i y k),Xb]
 conv=>rhs;rw [<-XR xs]
 rfl
theorem ZKh (b:UInt8) (s:Jd):(splB b s).length<=s.size+1:=by
 grind [splB,Ju,ZfP,Zpz]
theorem ZEL {b:UInt8} {s x:Jd} (h:x∈splB b s):x.size<=s.size:=by
 obtain ⟨l,hl,rfl⟩:=List.mem_map.1 h;rw [Zae,<-ZfP];exact ZoY b _ l hl
noncomputable def nmsL (s:Jd):Jb:=(splB 44 s).map λp=>(numOf p).1
noncomputable def lst (s:Jd):Jb×Bool:=if s=⟨#[45]⟩ then ([],Ji) else if tL (nmsL s)=s then (nmsL s,Ji) else ([],Jj)
theorem ZoI {n:Int} (h:InR n):numOf (itoaB n)=(n,Ji):=Zyj (by have:=h.1;have:=h.2;omega) rfl
theorem dg_no {c:UInt8} {l:List UInt8} (j:¬Dg c) (i:c≠45) (n:Int):c∉(itoaB n).data.toList:=by
 rw [ZeD];intro h;unfold itoa at h;split at h
 .rcases List.mem_cons.1 h with h|h
  .exact i h
  .grind [ZgH]
 .grind [ZgH]
theorem Zei {a b:Jd} (h:¬a=b):(a.toList==b.toList)=false:=by
 grind [absurd,Zay]
theorem ZN5 {s:Jd} (hs:s.size<=1000000000):Zk0 s=Jg (lst s):=by
 unfold Zk0 lst;by_cases h:s=⟨#[45]⟩
 .grind
 .have o:=Zei h;have a4:=ZiD (b:=44) (s:=s) Z;have hl:=ZKh 44 s;rw [if_neg h];have j:=Zj (B:=ZfV s (splB 44 s)) (λk:Int=>(((splB 44 s).take k.toNat).map λp=>(numOf p).1,k)) (i:=0) (n:=(splB 44 s).length) Z λk a b=>by
   have hm:=Zl a b;have u:=Zsa (ix (splB 44 s) k) (by have:=ZEL hm;omega);have a3:(((splB 44 s).take k.toNat).map λp=>(numOf p).1).length<=1000000001:=by rw [Ju,Jt];omega
   rw [ZkH a b];have hg:gApp 8 (((splB 44 s).take k.toNat).map λp=>(numOf p).1) [(numOf (ix (splB 44 s) k)).1]=Jg (((splB 44 s).take k.toNat).map (λp=>(numOf p).1)++[(numOf (ix (splB 44 s) k)).1]):=gApp1 Z Z;grind [pz,ZfV]
  rw [Jp,Jx] at j;have y:loop (ZfV s (splB 44 s)) ([],0)=Jg (if tL (nmsL s)=s then (nmsL s,Ji) else ([],Jj)):=by
   refine Eq.trans j (Ze ?_);have ht:=Zkg (nmsL s);unfold nmsL at ht ⊢;by_cases l:tL ((splB 44 s).map λp=>(numOf p).1)=s
   .simp_all [Zay,if_pos,pz,ZfV]
   .have:=Zei l;rw [if_neg l];grind [pz,ZfV]
  grind
open Go Go.Vc Go.Lib
theorem ZpI {o:Zf} (hs:Sz2 o.Rows) (h:Zar o=Jg Ji):(Jk o.Rows:Int)<=720:=by
 refine Classical.byContradiction λk=>?_;have k:720<(Jk o.Rows:Int):=Z;have e:Zf.mk o.Kind o.Size o.Rows=o:=rfl;have hN:=hs.1;have hf:Zar o=Jg false:=by
  unfold Zar;by_cases h1:o.Kind=1
  .have q:=(ZeM hs).ne λv=>by have:=v.n2;omega
   by_cases hl:(Jk o.Rows:Int)=o.Size
   .grind [pz,Z0]
   .grind [pz,Z0]
  by_cases y:o.Kind=2
  .have q:=(Zoc (d:=⟨o.Size,o.Rows⟩) hs).ne λv=>by have:(Jk o.Rows:Int)<=128:=v.len;omega
   grind [pz,ZdS,ZaN]
  by_cases h3:o.Kind=3
  .have q:=(ZnV hs).ne λv=>by have:=v.n2;omega
   by_cases hl:(Jk o.Rows:Int)=o.Size
   .grind [pz,Z0]
   .grind [pz,Z0]
  by_cases h4:o.Kind=4
  .have q:=(ZqE (a:=⟨o.Size,(ix o.Rows 0).length,o.Rows⟩) hs).ne λv=>by have:(Jk o.Rows:Int)<=256:=v.len;omega
   grind [pz,Zhd,Z1,ZaN]
  by_cases h5:o.Kind=5
  .obtain ⟨cs,ci,b,l,j,u,i⟩:=Zoa hs;have hr:ci.Rows=o.Rows:=by
    have g:=j;unfold ZbN at g;rw [ZaN hs] at g;cases hm:ZbI o.Size with
    | none=>rw [hm] at g;cases g
    | some r=>rw [hm] at g;rw [<-Option.some.inj g]
   have hb:b=false:=by
    cases b with
    | false=>rfl
    | true=>
     exfalso;unfold Zb8 at i;cases hm:Zgr (Zd.mk ci.Field.Prime ci.Field.Degree ci.Field.Poly) ci.Rows with
     | none=>rw [hm] at i;cases i
     | some c=>
      grind
   simp_all
  by_cases h6:o.Kind=6
  .obtain ⟨r,l,j,_,u⟩:=ZkD hs;have hr:r.2=false:=by
    grind
   simp_all
  by_cases h7:o.Kind=7
  .have q:=(Zta (g:=⟨o.Size,o.Rows⟩) hs).ne λv=>by have:(Jk o.Rows:Int)<=720:=v.1.l1;omega
   grind [pz,ZhK,ZaN]
  .grind
 grind
theorem Zu8 {c:UInt8} {s:List UInt8}:∀{xs:List (List UInt8)},c∈join xs s->c∈s\/∃x∈xs,c∈x
 | [],h=>by cases h
 | [x],h=>.inr ⟨x,List.mem_singleton_self x,by rwa [join_one] at h⟩
 | x::y::r,h=>by
  rw [Zmm] at h;rcases List.mem_append.1 h with h|h
  .grind
  .rcases Zu8 h with h|⟨z,hz,h⟩
   .exact .inl h
   .grind
theorem Zlw {c:UInt8} {s:Jd} {xs:List Jd} (h1:c∉s.data.toList) (i:∀x∈xs,c∉x.data.toList):c∉(joinB xs s).data.toList:=by
 intro h;have h:c∈join (xs.map (·.data.toList)) s.data.toList:=h;grind [Zu8]
theorem tL_no {c:UInt8} (h1:¬Dg c) (j:c≠45) (k:c≠44) (xs:Jb):c∉(tL xs).data.toList:=by
 by_cases i:xs=[]
 .rw [tL_n i];grind
 .by_cases h:Jk xs<=100/\∀x∈xs,InR x
  .rw [tL_t h i];refine Zlw (λh=>k (List.mem_singleton.1 h)) λx o=>?_;obtain ⟨n,_,rfl⟩:=List.mem_map.1 o;exact dg_no (l:=[]) h1 j n
  .grind [tL_f]
theorem tR_no (rows:Ja):32∉(tR rows).data.toList:=by
 unfold tR;split
 .decide
 .refine Zlw (by decide) λx i=>?_;obtain ⟨r,_,rfl⟩:=List.mem_map.1 i;grind [tL_no,Dg]
theorem ZMj (a b c t:Jd):joinB [a,b,c] t=(((a++t)++b)++t)++c:=by
 have h1:=ZqF (l:=[a,b]) (by simp) c t;have i:=ZqF (l:=[a]) (by simp) b t;grind [joinB,ZyT]
theorem Zzm {s:Jd} (h:32∉s.data.toList) (n:Int) (rows:Ja):splB 32 ((((s++⟨#[32]⟩)++itoaB n)++⟨#[32]⟩)++tR rows)=[s,itoaB n,tR rows]:=by
 rw [<-ZMj];refine ZoM (by simp) λx i=>?_;simp only [Xc,List.not_mem_nil,or_false] at i;rcases i with rfl|rfl|rfl
 .exact h
 .exact dg_no (l:=[]) (by unfold Dg;decide) (by decide) n
 .exact tR_no rows
open Go Go.Vc
theorem ZbC (s:Jd):(byts s).length=s.size:=by
 unfold byts;simp
theorem Zm5 {s:Jd} {i:Int} (k:0<=i) (h1:i<(s.size:Int)):∃c:UInt8,gSt s i=Jg c/\(c.toNat:Int)=ix (byts s) i:=by
 have hl:i.toNat<s.size:=Z;refine ⟨s[i.toNat],?_,?_⟩
 .unfold gSt;grind
 .have j:i.toNat<(byts s).length:=by rw [ZbC];exact hl
  have:(byts s)[i.toNat]?=Jg ((s[i.toNat]).toNat:Int):=by
   rw [JF j];simp [byts];rfl
  grind [Z3,byts,ZbC,Option.some.inj]
structure Nam (s:Jd):Prop where
 s1:1<=(s.size:Int)
 s2:(s.size:Int)<=10
 fst:97<=ix (byts s) 0/\ix (byts s) 0<=122
 all:∀i,0<=i->i<(s.size:Int)->(97<=ix (byts s) i/\ix (byts s) i<=122)\/(48<=ix (byts s) i/\ix (byts s) i<=57)
theorem Zlt (s:Jd):IsQ (ZiW s) (Nam s):=by
 unfold ZiW Zrp;by_cases u:(s.size:Int)=0
 .have e:s=⟨#[]⟩:=by
   have:s.data=#[]:=Array.eq_empty_of_size_eq_zero (by have:s.size=s.data.size:=rfl;omega);cases s;grind
  rw [(Zay s ⟨#[]⟩).2 e];exact IsQ.f λh=>by have:=h.s1;omega
 .have ne:(s.toList==(⟨#[]⟩:Jd).toList)=false:=by
   cases y:s.toList==(⟨#[]⟩:Jd).toList with
   | false=>rfl
   | true=>
    have:=(Zay s ⟨#[]⟩).1 y;rw [this] at u;exact absurd rfl u
  rw [ne];by_cases j:(s.size:Int)<=10
  .obtain ⟨c,k,he⟩:=Zm5 (s:=s) (i:=0) Z Z;by_cases hf:97<=ix (byts s) 0/\ix (byts s) 0<=122
   .simp (disch:=omega) only [pz,k,Zbv,he];refine (Zaw (P:=λi=>(97<=ix (byts s) i/\ix (byts s) i<=122)\/(48<=ix (byts s) i/\ix (byts s) i<=57)) (n:=s.size) (Q:=True) Z ?_ ?_ λ_=>?_).congr ⟨λg=>⟨by omega,j,hf,g.1⟩,λg=>⟨g.all,trivial⟩⟩
    .intro i l o g2;obtain ⟨c,k,he⟩:=Zm5 (s:=s) l o;by_cases hl:97<=ix (byts s) i
     .by_cases a3:ix (byts s) i<=122
      .grind [pz,Zee,Zbv,Zea]
      .omega
     .grind [pz,Zee,Zbv,Zea]
    .intro i l o g2;obtain ⟨c,k,he⟩:=Zm5 (s:=s) l o;by_cases hl:97<=ix (byts s) i
     .grind [pz,Zee,Zbv,Zea]
     .by_cases hd:48<=ix (byts s) i
      .grind [pz,Zee,Zbv,Zea]
      .grind [pz,Zee,Zbv,Zea]
    .simp [Ze,pz,Zee,IsQ.t,trivial]
   .have hn:IsQ (Jg Jj) (Nam s):=IsQ.f λh=>hf h.fst;by_cases hl:97<=ix (byts s) 0
    .grind [pz,Zbv]
    .grind [pz,Zbv]
  .simp (disch:=omega) only [pz,];exact IsQ.f λh=>j h.s2
theorem ZN9 (s:Jd):IsQ (ZjW s) (Nam s):=by
 have a2:=ZbC s;unfold ZjW Zsz;by_cases y:(s.size:Int)<1
 .simp (disch:=omega) only [pz,];exact IsQ.f λh=>by have:=h.s1;omega
 .by_cases j:(s.size:Int)<=10
  .simp (disch:=omega) only [pz,];refine (Zaw (P:=λi=>(97<=ix (byts s) i/\ix (byts s) i<=122)\/(¬i=0/\48<=ix (byts s) i/\ix (byts s) i<=57)) (n:=s.size) (Q:=True) Z ?_ ?_ λ_=>?_).congr ⟨λg=>⟨by omega,j,?_,λi a b=>?_⟩,λg=>⟨λi a b=>?_,trivial⟩⟩
   .intro i k l o;by_cases hl:97<=ix (byts s) i
    .by_cases u:ix (byts s) i<=122
     .simp (disch:=omega) only [pz,ZbY,Zbx,Zbl]
     .omega
    .simp (disch:=omega) only [pz,ZbY,Zbx,Zbl]
   .intro i k l o;by_cases hl:97<=ix (byts s) i
    .by_cases hz:i=0
     .grind [pz,ZbY,Zbx,Zbl]
     .grind [pz,ZbY,Zbx,Zbl]
    .by_cases hz:i=0
     .by_cases hd:48<=ix (byts s) i
      .grind [pz,ZbY,Zbx,Zbl]
      .grind [pz,ZbY,Zbx,Zbl]
     .by_cases hd:48<=ix (byts s) i
      .grind [pz,ZbY,Zbx,Zbl]
      .grind [pz,ZbY,Zbx,Zbl]
   .simp_all [Ze,pz,ZbY,IsQ.t,trivial]
   .grind
   .grind
   .have h1:=g.all i a b;have h2:=g.fst;grind
  .simp (disch:=omega) only [pz,];exact IsQ.f λh=>j h.s2
def cs (x:Nat):Nat:=if 32768<=x then (2*x%65536)^^^4129 else 2*x
def csn:Nat->Nat->Nat
 | 0,x=>x
 | n+1,x=>cs (csn n x)
def crN (l:Jb):Nat:=l.foldl (λx c=>csn 8 (x^^^(c.toNat*256))) 65535
theorem cs_lt {x:Nat} (h:x<65536):cs x<65536:=by
 unfold cs;split
 .exact Xh (n:=16) Z (by decide)
 .omega
theorem Zdr:∀(n:Nat) {x:Nat},x<65536->csn n x<65536
 | 0,_,h=>h
 | n+1,_,h=>cs_lt (Zdr n h)
theorem ofI {n:Nat} (h:n<9223372036854775808):(BitVec.ofInt 64 (n:Int)).toNat=n:=by
 grind
theorem band {a b:Nat} (l:a<9223372036854775808) (j:b<9223372036854775808) {x y:Int} (i:x=a) (k:y=b):Y.wrap ((BitVec.ofInt IntKind.i64.bits x&&&BitVec.ofInt IntKind.i64.bits y).toNat:Int)=((a&&&b:Nat):Int):=by
 subst i k;show Y.wrap (((BitVec.ofInt 64 (a:Int)&&&BitVec.ofInt 64 (b:Int)).toNat:Nat):Int)=_;grind [BitVec.toNat_and,ofI,Nat.and_le_left,Zap]
theorem bxor {a b:Nat} (k:a<9223372036854775808) (i:b<9223372036854775808) {x y:Int} (j:x=a) (l:y=b):Y.wrap ((BitVec.ofInt IntKind.i64.bits x^^^BitVec.ofInt IntKind.i64.bits y).toNat:Int)=((a^^^b:Nat):Int):=by
 subst j l;show Y.wrap (((BitVec.ofInt 64 (a:Int)^^^BitVec.ofInt 64 (b:Int)).toNat:Nat):Int)=_;rw [BitVec.toNat_xor,ofI k,ofI i];have:=Xh (x:=a) (y:=b) (n:=63) k i;grind [Zap]
theorem dbl {x:Nat} (h:x<1000000):Y.wrap ((x:Int)*2^min (1:Int).toNat IntKind.i64.bits)=((2*x:Nat):Int):=by
 have e:(2:Int)^min (1:Int).toNat IntKind.i64.bits=2:=rfl;grind [Zap]
theorem Znm {b:Int} (h:0<=b):gNn b=Jg ():=by unfold gNn;rw [if_pos h]
theorem and16 (x:Nat):x&&&65535=x%65536:=Nat.and_two_pow_sub_one_eq_mod x 16
theorem ZFf {x:Nat} (h:x<65536) (i5 k6:Int) (k:0<=k6) (h1:k6<8):ZdP i5 ((x:Int),k6)=Jg (.inl (((cs x:Nat):Int),k6+1)):=by
 have d:=dbl (x:=x) Z;have a:=band (a:=2*x) (b:=65535) Z Z (x:=((2*x:Nat):Int)) (y:=65535) rfl rfl;rw [and16] at a;have g:=Znm (b:=1) Z;by_cases i:32768<=x
 .have b:=bxor (a:=2*x%65536) (b:=4129) Z Z (x:=((2*x%65536:Nat):Int)) (y:=4129) rfl rfl;have e:cs x=(2*x%65536)^^^4129:=by unfold cs;rw [if_pos i]
  grind [pz,ZdP]
 .have e:cs x=2*x:=by unfold cs;rw [if_neg i]
  have j:2*x%65536=2*x:=Z;rw [j] at a;grind [pz,ZdP]
theorem ZMr {x:Nat} (h:x<65536) (i5 k6:Int) (l:0<=k6) (h1:k6<8):ZdG i5 ((x:Int),k6)=Jg (.inl (((cs x:Nat):Int),k6+1)):=by
 have d:=dbl (x:=x) Z;have g:=Znm (b:=1) Z;by_cases i:32768<=x
 .have b:=bxor (a:=2*x) (b:=4129) Z Z (x:=((2*x:Nat):Int)) (y:=4129) rfl rfl;have j:2*x^^^4129<9223372036854775808:=Xh (n:=63) Z (by decide);have a:=band (a:=2*x^^^4129) (b:=65535) j Z (x:=((2*x^^^4129:Nat):Int)) (y:=65535) rfl rfl;have e:cs x=(2*x%65536)^^^4129:=by unfold cs;rw [if_pos i]
  have k:(2*x^^^4129)&&&65535=(2*x%65536)^^^4129:=by
   rw [Nat.and_xor_distrib_right,and16,and16]
  rw [k] at a;simp (disch:=omega) only [pz,ZdG,g,d,b,a,e]
 .have e:cs x=2*x:=by unfold cs;rw [if_neg i]
  grind [pz,ZdG]
theorem ZI1 {x:Nat} (h:x<65536) {i5:Int} (j:0<=i5) (h1:i5<9223372036854775807):loop (ZdP i5) ((x:Int),0)=Jg (.inl (((csn 8 x:Nat):Int),i5+1)):=by
 have e:=Zj (B:=ZdP i5) (λk:Int=>(((csn k.toNat x:Nat):Int),k)) (i:=0) (n:=8) Z λk a b=>by
  rw [show (k+1).toNat=k.toNat+1 by omega];exact ZFf (Zdr _ h) i5 k a b
 refine Eq.trans e (Ze ?_);grind [pz,ZdP]
theorem ZJI {x:Nat} (h:x<65536) {i5:Int} (j:0<=i5) (h1:i5<9223372036854775807):loop (ZdG i5) ((x:Int),0)=Jg (.inl (((csn 8 x:Nat):Int),i5+1)):=by
 have e:=Zj (B:=ZdG i5) (λk:Int=>(((csn k.toNat x:Nat):Int),k)) (i:=0) (n:=8) Z λk a b=>by
  rw [show (k+1).toNat=k.toNat+1 by omega];exact ZMr (Zdr _ h) i5 k a b
 refine Eq.trans e (Ze ?_);grind [pz,ZdG]
def Bys (l:Jb):Prop:=∀x∈l,0<=x/\x<=255
theorem ZrW (s:Jd):Bys (byts s):=by
 intro x i;obtain ⟨b,_,rfl⟩:=List.mem_map.1 i;have:=b.toNat_lt;omega
theorem ZI4 (f:Nat->Int->Nat) (k:∀x c,x<65536->0<=c/\c<=255->f x c<65536) (l:Jb):∀x:Nat,Bys l->x<65536->l.foldl f x<65536:=by
 induction l with
 | nil=>intro x _ h;exact h
 | cons c l j=>
  intro x hl h;rw [List.foldl_cons];exact j _ (λy o=>hl y (JI _ o)) (k x c h (hl c (JA ..)))
theorem ZrC {l:Jb} (h:Bys l):crN l<65536:=by
 unfold crN;exact ZI4 _ (λx c i j=>Zdr 8 (Xh (n:=16) i Z)) l _ h Z
theorem ZxA {l:Jb} {k:Int} (i:0<=k) (h1:k<(Jk l:Int)):crN (l.take (k+1).toNat)=csn 8 (crN (l.take k.toNat)^^^((ix l k).toNat*256)):=by
 grind [crN,Zai]
theorem shl8 {c:Int} (i:0<=c) (h1:c<=255):Y.wrap (c*2^min (8:Int).toNat IntKind.i64.bits)=((c.toNat*256:Nat):Int):=by
 have e:(2:Int)^min (8:Int).toNat IntKind.i64.bits=256:=rfl;grind [Zap]
theorem ZAc {l:Jb} (h:Bys l) (n:Nat):Bys (l.take n):=λx i=>h x (Xq i)
theorem ZF8 {s:Jd} (hs:s.size<=9000000000000000000):Zgs s 65535=Jg ((crN (byts s):Nat):Int):=by
 have j:=ZrW s;have hl:=ZbC s;unfold Zgs;have e:=Zj (B:=ZnG s) (λk:Int=>(((crN ((byts s).take k.toNat):Nat):Int),k)) (i:=0) (n:=s.size) Z λk a b=>by
  obtain ⟨c,u,he⟩:=Zm5 (s:=s) a b;have l:=j _ (Zl (xs:=byts s) a Z);have hk:=ZrC (ZAc j k.toNat);have g:=Znm (b:=8) Z;have sh:=shl8 l.1 l.2;rw [ZxA a Z];generalize crN ((byts s).take k.toNat)=x at hk;have o:(ix (byts s) k).toNat*256<65536:=Z;have xr:=bxor (a:=x) (b:=(ix (byts s) k).toNat*256) Z Z (x:=(x:Int)) (y:=(((ix (byts s) k).toNat*256:Nat):Int)) rfl rfl;have e8:=ZI1 (x:=x^^^((ix (byts s) k).toNat*256)) (Xh (n:=16) hk o) (i5:=k) a Z;grind [pz,ZnG]
 refine Eq.trans e (Ze ?_);grind [Jp,Jx,pz,ZnG]
theorem ZCt {s:Jd} (hs:s.size<=9000000000000000000):Ze1 s 65535=Jg ((crN (byts s):Nat):Int):=by
 have j:=ZrW s;have hl:=ZbC s;have hw:ZV 65535 0 65535=Jg true:=by simp (disch:=omega) only [pz,ZV]
 unfold Ze1;simp (disch:=omega) only [pz,hw];have e:=Zj (B:=Zon s) (λk:Int=>(((crN ((byts s).take k.toNat):Nat):Int),k)) (i:=0) (n:=s.size) Z λk a b=>by
  have l:=j _ (Zl (xs:=byts s) a Z);have hk:=ZrC (ZAc j k.toNat);have g:=Znm (b:=8) Z;have sh:=shl8 l.1 l.2;rw [ZxA a Z];generalize crN ((byts s).take k.toNat)=x at hk;have o:(ix (byts s) k).toNat*256<65536:=Z;have xr:=bxor (a:=x) (b:=(ix (byts s) k).toNat*256) Z Z (x:=(x:Int)) (y:=(((ix (byts s) k).toNat*256:Nat):Int)) rfl rfl;have u:=ZJI (x:=x^^^((ix (byts s) k).toNat*256)) (Xh (n:=16) hk o) (i5:=k) a Z;grind [pz,Zon]
 refine Eq.trans e (Ze ?_);grind [Jp,Jx,pz,Zon]
open Go Go.Vc Go.Lib
theorem ZhP (b:UInt8):∀l:List UInt8,b∉l\/∃x y,l=x++b::y/\b∉x
 | []=>.inl (by simp)
 | c::l=>by
  by_cases i:c=b
  .exact .inr ⟨[],l,by rw [i];rfl,by simp⟩
  .rcases ZhP b l with h|⟨x,y,rfl,j⟩
   .grind
   .grind
theorem ZnN (b:UInt8):∀l:List UInt8,b∉l\/∃x y,l=x++b::y/\b∉y
 | []=>.inl (by simp)
 | c::l=>by
  rcases ZnN b l with h|⟨x,y,rfl,j⟩
  .by_cases i:c=b
   .exact .inr ⟨[],l,by rw [i];rfl,h⟩
   .grind
  .grind
theorem ZCl {b:UInt8}:∀{l:List UInt8},b∉l->index l [b]=-1
 | [],_=>by rw [index];rfl
 | c::l,h=>by
  have k:=ZCl (l:=l) λj=>h (JI _ j);grind [JA,index]
theorem Zxj {b:UInt8} {y:List UInt8}:∀{x:List UInt8},b∉x->index (x++b::y) [b]=(Jk x:Int)
 | [],_=>by
  simp [index]
 | c::x,h=>by
  have k:=Zxj (y:=y) (x:=x) λj=>h (JI _ j);simp_all [JA,index,beq_iff_eq]
theorem ZF1 {l:List UInt8} (h:32∉l):cut3 (bl l) ⟨#[32]⟩=(bl l,⟨#[]⟩,Jj):=by
 have hi:index l [32]=-1:=ZCl h;have e:cut l [32]=(l,[],Jj):=by
  unfold cut;grind
 unfold cut3;show ((⟨(cut l [32]).1.toArray⟩:Jd),(⟨(cut l [32]).2.1.toArray⟩:Jd),(cut l [32]).2.2)=_;rw [e];rfl
theorem Zxs {x y:List UInt8} (h:32∉x):cut3 (bl (x++32::y)) ⟨#[32]⟩=(bl x,bl y,Ji):=by
 have hi:index (x++32::y) [32]=(Jk x:Int):=Zxj h;have e:cut (x++32::y) [32]=(x,y,Ji):=by
  simp_all [cut,if_pos]
 unfold cut3;show ((⟨(cut (x++32::y) [32]).1.toArray⟩:Jd),(⟨(cut (x++32::y) [32]).2.1.toArray⟩:Jd),(cut (x++32::y) [32]).2.2)=_;rw [e];rfl
theorem ch_ne {c:UInt8} (h:¬c=32):¬(c.toNat:Int)=32:=λe=>h (by
 apply UInt8.toNat_inj.1;grind)
theorem at_l {x y:List UInt8} {i:Int} (j:0<=i) (h1:i<(Jk x:Int)):∃c∈x,gSt (bl (x++y)) i=Jg c:=by
 have hl:i.toNat<Jk x:=Z;refine ⟨x[i.toNat],WX _,Zo3 j ?_⟩;show (x++y)[i.toNat]?=_;grind
theorem at_m {x y:List UInt8} {b:UInt8}:gSt (bl (x++b::y)) (Jk x:Int)=Jg b:=by
 refine Zo3 Z ?_;show (x++b::y)[(Jk x:Int).toNat]?=_;simp
theorem at_r {x y:List UInt8} {b:UInt8} {i:Int} (j:(Jk x:Int)<i) (h1:i<((x++b::y).length:Int)):∃c∈y,gSt (bl (x++b::y)) i=Jg c:=by
 rw [Jo,Jy] at h1;obtain ⟨k,hk⟩:∃k,i.toNat=Jk x+(k+1):=⟨i.toNat-Jk x-1,by omega⟩
 have hl:k<Jk y:=Z;refine ⟨y[k],WX _,Zo3 Z ?_⟩;show (x++b::y)[i.toNat]?=_;grind
theorem sl_l {x y:List UInt8}:gStSl (bl (x++y)) 0 (Jk x:Int)=Jg (bl x):=by
 rw [Zdy Z Z (by rw [Zae,Jo];omega)];congr 2;show ((x++y).take (Jk x:Int).toNat).drop 0=x;simp
theorem sl_r {x y:List UInt8} {b:UInt8}:gStSl (bl (x++b::y)) ((Jk x:Int)+1) ((bl (x++b::y)).size:Int)=Jg (bl y):=by
 rw [Zdy Z (by rw [Zae,Jo,Jy];omega) Z];congr 2;show (((x++b::y)).take ((bl (x++b::y)).size:Int).toNat).drop ((Jk x:Int)+1).toNat=y;rw [Jp,Zae,Jx,show ((x.length:Int)+1).toNat=x.length+1 by omega];simp
theorem ZB8 {σ ρ:Type} {B:σ->Jm (σ ⊕ ρ)} (f:Int->σ) {i m:Int} (hi:m<=i) (h:∀k,m<k->k<=i->B (f k)=Jg (.inl (f (k-1)))):loop B (f i)=loop B (f m):=by
 rcases Ztj (B:=B) f (λ_=>False) hi λk a b _=>h k a b with ⟨_,_,_,h,_⟩|⟨_,h⟩
 .exact h.elim
 .exact h
open Go Go.Vc Go.Lib
def D1 (l m:List UInt8):Prop:=∃p a b q,l=p++a::q/\m=p++b::q/\a≠b
theorem Zcm {c:UInt8} {x y u v:List UInt8} (i:c∉x) (j:c∉y) (h:x++c::u=y++c::v):x=y/\u=v:=by
 have e:=congrArg (spl c) h;rw [Zn4 _ i,Zn4 _ j] at e;simp_all
def J:List (List UInt8)->List UInt8
 | []=>[]
 | x::xs=>x++10::J xs
def NL (xs:List (List UInt8)):Prop:=∀x∈xs,10∉x
theorem NL.hd {x:List UInt8} {xs:List (List UInt8)} (h:NL (x::xs)):10∉x:=h x (JA ..)
theorem NL.tl {x:List UInt8} {xs:List (List UInt8)} (h:NL (x::xs)):NL xs:=λy j=>h y (JI _ j)
theorem NL.cons {x:List UInt8} {xs:List (List UInt8)} (h:10∉x) (k:NL xs):NL (x::xs):=λy j=>by
 rcases List.mem_cons.1 j with rfl|j
 .exact h
 .exact k y j
theorem J_inj:∀{xs k:List (List UInt8)},NL xs->NL k->J xs=J k->xs=k
 | [],[],_,_,_=>rfl
 | [],y::k,_,_,h=>by simp [J] at h
 | x::xs,[],_,_,h=>by simp [J] at h
 | x::xs,y::k,i,hy,h=>by
  obtain ⟨e,j⟩:=Zcm i.hd hy.hd h;rw [e,J_inj i.tl hy.tl j]
theorem mrg {x y:List UInt8} {xs u:List (List UInt8)} {b:UInt8} (i:NL (x::xs)) (hy:NL (y::u)) (o:b≠10) (h:y++10::J u=x++b::J xs):∃z,y=x++b::z/\xs=z::u:=by
 rcases ZhP 10 (J xs) with g|⟨z,w,g,hz⟩
 .have h1:(10:UInt8)∈x++b::J xs:=by rw [<-h];simp
  rcases List.mem_append.1 h1 with h1|h1
  .exact absurd h1 i.hd
  .grind
 .rw [g,show x++b::(z++10::w)=(x++b::z)++10::w by simp] at h;have j:(10:UInt8)∉x++b::z:=λh1=>by
   rcases List.mem_append.1 h1 with h1|h1
   .exact i.hd h1
   .grind
  obtain ⟨k,l⟩:=Zcm hy.hd j h;exact ⟨z,k,J_inj i.tl (NL.cons hz hy.tl) (by rw [g,<-l];rfl)⟩
theorem Zpm {a:UInt8} {p z:List UInt8} (hp:10∉p) (j:a≠10) (hz:10∉z):(10:UInt8)∉p++a::z:=λh=>by
 grind
def Chg (xs j:List (List UInt8)):Prop:=
 (∃A l m B,xs=A++l::B/\j=A++m::B/\D1 l m)\/(∃A l c m B,xs=A++(l++c::m)::B/\j=A++l::m::B)\/∃A l c m B,j=A++(l++c::m)::B/\xs=A++l::m::B
theorem J_d1:∀{xs ys:List (List UInt8)} {p q:List UInt8} {a b:UInt8},NL xs->NL ys->a≠b->J xs=p++a::q->J ys=p++b::q->Chg xs ys
 | [],ys,p,q,a,b,_,_,_,h,_=>by simp [J] at h
 | x::xs,[],p,q,a,b,_,_,_,_,h=>by simp [J] at h
 | x::xs,y::ys,p,q,a,b,i,hy,hab,h,h'=>by
  have h:x++10::J xs=p++a::q:=h;have h':y++10::J ys=p++b::q:=h';rcases ZhP 10 p with hp|⟨p1,p2,rfl,hp⟩
  .by_cases ha:a=10
   .subst ha;obtain ⟨rfl,rfl⟩:=Zcm i.hd hp h;obtain ⟨z,rfl,rfl⟩:=mrg i hy (λe=>hab e.symm) h';exact .inr (.inr ⟨[],x,b,z,ys,rfl,rfl⟩)
   .by_cases o:b=10
    .subst o;obtain ⟨rfl,rfl⟩:=Zcm hy.hd hp h';obtain ⟨z,rfl,rfl⟩:=mrg hy i ha h;exact .inr (.inl ⟨[],y,a,z,xs,rfl,rfl⟩)
    .rcases ZhP 10 q with g|⟨z,w,rfl,hz⟩
     .grind [absurd,Zpm]
     .rw [show p++a::(z++10::w)=(p++a::z)++10::w by simp] at h;rw [show p++b::(z++10::w)=(p++b::z)++10::w by simp] at h';obtain ⟨j,k⟩:=Zcm i.hd (Zpm hp ha hz) h;obtain ⟨u,f2⟩:=Zcm hy.hd (Zpm hp o hz) h';have:=J_inj i.tl hy.tl (k.trans f2.symm);exact .inl ⟨[],x,y,ys,by rw [this];rfl,rfl,p,a,b,z,j,u,hab⟩
  .rw [Js,J6] at h h';obtain ⟨j,h2⟩:=Zcm i.hd hp h;obtain ⟨k,a5⟩:=Zcm hy.hd hp h';subst j;subst k;rcases J_d1 i.tl hy.tl hab h2 a5 with ⟨A,l,m,B,rfl,rfl,hd⟩|⟨A,l,c,m,B,rfl,rfl⟩|⟨A,l,c,m,B,rfl,rfl⟩
   .exact .inl ⟨y::A,l,m,B,rfl,rfl,hd⟩
   .exact .inr (.inl ⟨y::A,l,c,m,B,rfl,rfl⟩)
   .exact .inr (.inr ⟨y::A,l,c,m,B,rfl,rfl⟩)
def hdr (n:Nat):List UInt8:=[99,97,116,97,108,111,103,32]++itoa n
theorem ZJY {n:Nat} (h:n<=24):(hdr n).length=if n<10 then 9 else 10:=by
 unfold hdr itoa;rw [if_neg Z,Jp,Jo];have i:∀u:Nat,u<10->(decDigits u).length=1:=λu j=>by
  simp_all [decDigits,dif_pos]
 split
 .simp_all
 .rw [decDigits,dif_neg (by simp;omega),Jo,i _ Z];rfl
theorem ZEd (n m:Nat) (i:n<=24) (hm:m<=24) (h:n<=m):(hdr n).length<=(hdr m).length:=by
 grind [ZJY]
theorem ZCf {n m:Nat} (h:hdr n=hdr m):n=m:=by
 have h:=Wa h;have:=@Zqb (n:Int) (m:Int) (by unfold itoaB;rw [h]);omega
theorem ZEz {xs ys:List (List UInt8)} (o:NL (hdr (Jk xs)::xs)) (hy:NL (hdr (Jk ys)::ys)) (nx:Jk xs<=24) (ny:Jk ys<=24) (h:D1 (J (hdr (Jk xs)::xs)) (J (hdr (Jk ys)::ys))):∃A l m B,xs=A++l::B/\ys=A++m::B/\D1 l m:=by
 obtain ⟨p,a,b,q,h1,k,a4⟩:=h;rcases J_d1 o hy a4 h1 k with ⟨A,l,m,B,i,j,hd⟩|⟨A,l,c,m,B,i,j⟩|⟨A,l,c,m,B,i,j⟩
 .cases A with
  | nil=>
   grind [List.cons.inj,absurd,Wa]
  | cons x A=>exact ⟨A,l,m,B,(List.cons.inj i).2,(List.cons.inj j).2,hd⟩
 .have n1:Jk xs+1=Jk ys:=by
   have h1:=congrArg J3 i;have k:=congrArg J3 j;grind
  cases A with
  | nil=>
   have u:=(List.cons.inj i).1;have y:=(List.cons.inj j).1;have:=ZEd _ _ nx ny Z;grind
  | cons x A=>
   grind [ZCf,List.cons.inj,trans]
 .have n1:Jk ys+1=Jk xs:=by
   have h1:=congrArg J3 i;have k:=congrArg J3 j;grind
  cases A with
  | nil=>
   have u:=(List.cons.inj i).1;have y:=(List.cons.inj j).1;have:=ZEd _ _ ny nx Z;grind
  | cons x A=>
   grind [ZCf,List.cons.inj,trans]
theorem ZF6 {x y:Nat} (i:x<65536) (j:y<65536) (h:cs x=cs y):x=y:=by
 have o:∀z,((2*z%65536)^^^4129)%2=1:=λz=>by
  simp
 have k:=o x;have l:=o y;unfold cs at h;split at h<;>split at h
 .have:=congrArg (·^^^4129) h;grind
 .omega
 .omega
 .omega
theorem ZDs:∀(n:Nat) {x y:Nat},x<65536->y<65536->csn n x=csn n y->x=y
 | 0,_,_,_,_,h=>h
 | n+1,_,_,i,hy,h=>ZDs n i hy (ZF6 (Zdr n i) (Zdr n hy) h)
def crF (x:Nat) (c:Int):Nat:=csn 8 (x^^^(c.toNat*256))
theorem ZPw {x:Nat} {c:UInt8} (i:x<65536):crF x (c.toNat:Int)<65536:=by
 have:=c.toNat_lt;exact Zdr 8 (Xh (n:=16) i Z)
theorem ZyC {x y:Nat} {c d:UInt8} (i:x<65536) (k:y<65536) (h:crF x (c.toNat:Int)=crF y (d.toNat:Int)):x^^^(c.toNat*256)=y^^^(d.toNat*256):=by
 have h1:=c.toNat_lt;have j:=d.toNat_lt;exact ZDs 8 (Xh (n:=16) i Z) (Xh (n:=16) k Z) h
theorem ZDP {x y z:Nat} (h:x^^^z=y^^^z):x=y:=by
 have:=congrArg (·^^^z) h;grind
theorem ZDa {f:Nat->Int->Nat} (lt:∀(x:Nat) (c:UInt8),x<65536->f x (c.toNat:Int)<65536):∀(l:List UInt8) {x:Nat},x<65536->(l.map λb=>(b.toNat:Int)).foldl f x<65536
 | [],_,h=>h
 | c::l,x,i=>ZDa lt l (lt x c i)
theorem Zzt {f:Nat->Int->Nat} (lt:∀(x:Nat) (c:UInt8),x<65536->f x (c.toNat:Int)<65536) (j:∀(x y:Nat) (c:UInt8),x<65536->y<65536->f x (c.toNat:Int)=f y (c.toNat:Int)->x=y):∀(l:List UInt8) {x y:Nat},x<65536->y<65536->(l.map λb=>(b.toNat:Int)).foldl f x=(l.map λb=>(b.toNat:Int)).foldl f y->x=y
 | [],_,_,_,_,h=>h
 | c::l,x,y,i,hy,h=>j x y c i hy (Zzt lt j l (lt x c i) (lt y c hy) h)
theorem ZKE {f:Nat->Int->Nat} (lt:∀(x:Nat) (c:UInt8),x<65536->f x (c.toNat:Int)<65536) (k:∀(x y:Nat) (c:UInt8),x<65536->y<65536->f x (c.toNat:Int)=f y (c.toNat:Int)->x=y)
  (i:∀(x:Nat) (c d:UInt8),x<65536->f x (c.toNat:Int)=f x (d.toNat:Int)->c=d) {p q:List UInt8} {a b:UInt8} (l:a≠b) {x:Nat} (j:x<65536):((p++a::q).map λb=>(b.toNat:Int)).foldl f x≠((p++b::q).map λb=>(b.toNat:Int)).foldl f x:=by
 intro h;rw [Xd,Xd,WY,WY] at h;have hp:=ZDa lt p j;generalize (p.map λb=>(b.toNat:Int)).foldl f x=z at h hp;exact l (i z a b hp (Zzt lt k q (lt z a hp) (lt z b hp) h))
def crc (l:List UInt8):Nat:=crN (byts (bl l))
theorem ZpU (l:List UInt8):crc l<65536:=ZrC (ZrW _)
theorem ZOM {l m:List UInt8} (h:D1 l m):crc l≠crc m:=by
 obtain ⟨p,a,b,q,rfl,rfl,k⟩:=h;exact ZKE (f:=crF) (λx c i=>ZPw i) (λx y c i o h=>ZDP (ZyC i o h)) (λx c d i h=>by
  have j:=ZyC i i h;grind [ZDP,UInt8.toNat_inj]) k Z
theorem Zwr (c:UInt8):∀l:List UInt8,(spl c l).length=l.count c+1
 | []=>rfl
 | d::l=>by
  have j:=Zwr c l;obtain ⟨h,t,e⟩:=Zgk (b:=c) (l:=l);grind [Jy,spl]
theorem ZrD {c:UInt8} {x y u v:List UInt8} (l:c∉y) (hv:c∉v) (h:x++c::y=u++c::v):x=u/\y=v:=by
 have i:=congrArg List.reverse h;simp only [List.reverse_append,List.reverse_cons,Js,List.singleton_append] at i;obtain ⟨j,k⟩:=Zcm (c:=c) (by simpa using l) (by simpa using hv) i;simp_all
def lin (u v:List UInt8):List UInt8:=(u++32::v)++32::itoa (crc (u++32::v))
theorem ZEG {u v m:List UInt8} (hu:32∉u) (hv:(spl 32 v).length=3) (hm:D1 (lin u v) m) {x y:List UInt8} (e:m=x++32::y) (hy:32∉y) (j:y=itoa (crc x)) {u' v':List UInt8} (o:x=u'++32::v') (a6:32∉u'):(spl 32 v').length≠3:=by
 intro a4;obtain ⟨p,a,b,q,h1,i,a7⟩:=hm;have k:(32:UInt8)∉itoa (crc (u++32::v)):=by
  have:=dg_no (l:=[]) (c:=32) (by unfold Dg;decide) (by decide) (crc (u++32::v));assumption
 rw [Zwr] at hv a4;have c1:=congrArg (Y6 32) h1;have c2:=congrArg (Y6 32) (i.symm.trans e);unfold lin at c1 h1;rw [o] at c2;simp only [WZ,W0,List.count_eq_zero.2 hu,List.count_eq_zero.2 k] at c1;simp only [WZ,W0,List.count_eq_zero.2 a6,List.count_eq_zero.2 hy] at c2;have ha:a≠32:=λea=>by
  grind
 have hb:b≠32:=λeb=>by
  grind
 rcases ZnN 32 q with g|⟨z,w,rfl,hw⟩
 .rcases ZnN 32 p with g2|⟨s,t,rfl,ht⟩
  .grind
  .have n1:(32:UInt8)∉t++a::q:=λh3=>by
    grind
   have n2:(32:UInt8)∉t++b::q:=λh3=>by
    grind
   grind [ZrD,List.cons.inj,Wa]
 .rw [show p++a::(z++32::w)=(p++a::z)++32::w by simp] at h1;rw [show p++b::(z++32::w)=(p++b::z)++32::w by simp] at i;obtain ⟨e1,e2⟩:=ZrD k hw h1;obtain ⟨e3,e4⟩:=ZrD hy hw (e.symm.trans i);have hd:=ZOM ⟨p,a,b,z,e1,e3,a7⟩;rw [e4,<-e2] at j;have:=@Zqb (crc (u++32::v):Int) (crc x:Int) (by unfold itoaB;rw [j]);omega
open Go Go.Vc Go.Lib
set_option maxHeartbeats 4000000
def RowsT (rows:Ja):Prop:=∀b∈rows,(Jk b:Int)<=100/\∀x∈b,InR x
theorem rowsT {rows:Ja} (h:∀i,0<=i->i<(Jk rows:Int)->((ix rows i).length:Int)<=100/\∀k,0<=k->k<((ix rows i).length:Int)->-64<=ix (ix rows i) k/\ix (ix rows i) k<=64):RowsT rows:=λb j=>by
 obtain ⟨i,l,o,rfl⟩:=ZU j;obtain ⟨h1,u⟩:=h i l o;refine ⟨h1,λx y=>?_⟩;obtain ⟨k,k0,k1,rfl⟩:=ZU y;have:=u k k0 k1;exact ⟨by omega,by omega⟩
theorem ZC3 {p:Jb} (h:IsP p) {k:Int} (k0:0<=k) (k1:k<(Jk p:Int)):0<=ix p k/\ix p k<(Jk p:Int):=h.2.rng _ (Zl k0 k1)
theorem ZvX {b:Jb} {m:Int} (h:Rising b 0 m):∀n:Nat,(n:Int)<(Jk b:Int)->(n:Int)<=ix b n
 | 0,h1=>by have:=(h 0 Z h1).1;exact this.1
 | n+1,h1=>by
  have a:=ZvX h n Z;have c:=(h ((n+1:Nat):Int) Z h1).2 Z;grind
theorem ZJT {b:Jb} {m:Int} (h:Rising b 0 m) (hm:0<=m):(Jk b:Int)<=m+1:=by
 by_cases e:Jk b=0
 .omega
 .have a:=ZvX h (Jk b-1) Z;have c:=(h ((Jk b-1:Nat):Int) Z Z).1.2;omega
theorem Zo2 {o:Zf} (hs:Sz2 o.Rows) (h:Zar o=Jg Ji):(-64<=o.Size/\o.Size<=64)/\RowsT o.Rows:=by
 refine Classical.byContradiction λy=>?_;have e:Zf.mk o.Kind o.Size o.Rows=o:=rfl;have hN:=hs.1;have hf:Zar o=Jg false:=by
  unfold Zar;by_cases h1:o.Kind=1
  .by_cases hl:(Jk o.Rows:Int)=o.Size
   .have q:=(ZeM hs).ne λv=>y ⟨by have:=v.n1;have:=v.n2;omega,rowsT λi j u=>by
     have r:=v.row _ (Zl j u);have:=v.n2;exact ⟨by omega,λk k0 k1=>by have:=ZC3 r.2 k0 k1;omega⟩⟩
    grind [pz,Z0]
   .grind [ZeM,pz,Z0]
  by_cases h2:o.Kind=2
  .have q:=(Zoc (d:=⟨o.Size,o.Rows⟩) hs).ne λv=>y ⟨by have:=v.p1;have:=v.p2;dsimp only at *;omega,rowsT λi j u=>by
    have r:=v.blk i j u;have p2:=v.p2;have p1:=v.p1;dsimp only at r p1 p2;have:=ZJT r.2 Z;exact ⟨by omega,λk k0 k1=>by have:=(r.2 k k0 k1).1;omega⟩⟩
   grind [pz,ZdS,ZaN]
  by_cases h3:o.Kind=3
  .by_cases hl:(Jk o.Rows:Int)=o.Size
   .have q:=(ZnV hs).ne λv=>y ⟨by have:=v.n1;have:=v.n2;omega,rowsT λi j u=>by
     have r:=v.row i j u;have:=v.n2;exact ⟨by omega,λk k0 k1=>by have:=r.2 k k0 k1;omega⟩⟩
    grind [pz,Z0]
   .grind [ZnV,pz,Z0]
  by_cases h4:o.Kind=4
  .have q:=(ZqE (a:=⟨o.Size,(ix o.Rows 0).length,o.Rows⟩) hs).ne λv=>y ⟨by have:=v.l1;have:=v.l2;dsimp only at *;omega,rowsT λi j u=>by
    have r:=v.row i j u;have l2:=v.l2;have c2:=v.c2;grind⟩
   by_cases hl:0<(Jk o.Rows:Int)
   .grind [pz,Zhd,Z1,ZaN]
   .grind
  by_cases h5:o.Kind=5
  .unfold ZbN;rw [ZaN hs];rcases Zky o.Size with ⟨f,hm⟩|⟨h1,e3,h2⟩
   .obtain ⟨inv,hF⟩:=Zk7 hm.gf;have hq:=hF.q2;have a2:=hF.q64;have q:=(ZrY hm hq a2 hs).ne λv=>y ⟨by omega,rowsT λi j u=>by
     have r:=v.row i j u;have:=v.w2;exact ⟨by omega,λk k0 k1=>by have:=r.2 k k0 k1;omega⟩⟩
    have e4:Zd.mk f.Prime f.Degree f.Poly=f:=rfl;rw [hm.mki];simp_all [Zb8,pz]
   .rw [h2];simp (disch:=omega) only [pz,e];rfl
  by_cases h6:o.Kind=6
  .obtain ⟨r,g1,g2,_,g3⟩:=ZkD hs;have hr:r.2=false:=by
    cases hc:r.2 with
    | false=>rfl
    | true=>
     obtain ⟨_,z,g⟩:=g3 hc;exact absurd ⟨by omega,rowsT λi j u=>by
      obtain ⟨l,a,b⟩:=g i j u;refine ⟨by omega,λk k0 k1=>?_⟩;have:k=0\/k=1:=Z;rcases this with rfl|rfl<;>omega⟩ y
   simp_all
  by_cases h7:o.Kind=7
  .have q:=(Zta (g:=⟨o.Size,o.Rows⟩) hs).ne λv=>y ⟨by have:=v.1.n0;have:=v.1.n1;dsimp only at *;omega,rowsT λi j u=>by
    have r:=v.1.prm _ (Zl j u);have n1:=v.1.n1;dsimp only at r n1;exact ⟨by omega,λk k0 k1=>by have:=ZC3 r.2 k0 k1;omega⟩⟩
   grind [pz,ZhK,ZaN]
  .grind
 grind
theorem ZJZ {k:Int} (h1:1<=k) (o:k<=7):∃s,ZdO k=Jg s/\Zg8 s=Jg (k,Ji)/\s.size<=10/\32∉s.data.toList/\10∉s.data.toList:=by
 obtain ⟨kn,n1,hl,hs⟩:∃kn:List Jd,Zih=Jg kn/\(Jk kn:Int)=7/\(kn.Nodup/\∀s∈kn,s.size<=10/\32∉s.data.toList/\10∉s.data.toList):=⟨_,rfl,rfl,by decide⟩
 have w:Y.wrap (k-1)=k-1:=Zap Z Z;have hw:ZV k 1 7=Jg true:=by simp (disch:=omega) only [pz,ZV]
 have hi:Zfm k=Jg true:=by simp (disch:=omega) only [pz,Zfm,hw]
 refine ⟨ix kn (k-1),?_,?_,hs.2 _ (Zl Z Z)⟩
 .grind [ZdO,pz]
 .unfold Zg8 Zp5;have up:=Zj (B:=Zhs kn (ix kn (k-1))) (λk:Int=>k) (i:=0) (n:=k-1) Z λj a b=>by
   have u:=Zei (a:=ix kn (k-1)) (b:=ix kn j) λh=>by
    have:=(List.getElem?_inj (i:=(k-1).toNat) (j:=j.toNat) Z hs.1).1 (by rw [Z3 Z Z,Z3 Z Z,h]);omega
   grind [pz,Zhs]
  have l:=(Zay (ix kn (k-1)) (ix kn (k-1))).2 rfl;have y:loop (Zhs kn (ix kn (k-1))) 0=Jg (k-1):=up.trans (Ze (by simp (disch:=omega) only [pz,Zhs,l]));grind [pz]
theorem Zx5 {o:Zf} (hz:Sz2 o.Rows) (hv:Zar o=Jg Ji):∃s:Jd,ZdO o.Kind=Jg s/\Zg8 s=Jg (o.Kind,Ji)/\32∉s.data.toList/\10∉s.data.toList/\s.size<=10/\Zc5 o=Jg ((((s++⟨#[32]⟩)++itoaB o.Size)++⟨#[32]⟩)++tR o.Rows):=by
 obtain ⟨k1,k7⟩:=ZCV hv;obtain ⟨s,y,nn,n4,n5,n6⟩:=ZJZ k1 k7;obtain ⟨hs,hT⟩:=Zo2 hz hv;have h:=ZpI hz hv;have d2:=Zcx (n:=o.Size) Z Z;have dz:=ZcG (n:=o.Size) 18 Z Z;have a6:(⟨#[32]⟩:Jd).size=1:=rfl;have f1:gFit s ⟨#[32]⟩=Jg ():=gFitW Z;have f2:gFit (s++⟨#[32]⟩) (itoaB o.Size)=Jg ():=gFitW (by rw [Z6];omega);have f3:gFit ((s++⟨#[32]⟩)++itoaB o.Size) ⟨#[32]⟩=Jg ():=gFitW (by rw [Z6,Z6];omega);have hz:=Zwh (rows:=o.Rows) Z;have hp:(((s++⟨#[32]⟩)++itoaB o.Size)++⟨#[32]⟩).size<=100:=by rw [Z6,Z6,Z6];omega
 have f4:gFit (((s++⟨#[32]⟩)++itoaB o.Size)++⟨#[32]⟩) (tR o.Rows)=Jg ():=gFitW Z;have k1:ZdW o (tR o.Rows)=Jg ((((s++⟨#[32]⟩)++itoaB o.Size)++⟨#[32]⟩)++tR o.Rows):=by
  grind [ZdW,pz]
 have e:Zf.mk o.Kind o.Size o.Rows=o:=rfl;refine ⟨s,y,nn,n5,n6,n4,?_⟩;unfold Zc5;by_cases j:o.Rows=[]
 .simp_all [tR,if_pos,pz]
 .have a7:0<(Jk o.Rows:Int):=by
   have:Jk o.Rows≠0:=λh0=>j (X9 h0);omega
  have er:tR o.Rows=joinB (o.Rows.map tL) ⟨#[47]⟩:=by unfold tR;rw [if_neg j]
  have u:=Zj (B:=Zb3 o) (λk:Int=>((o.Rows.take k.toNat).map tL,k)) (i:=0) (n:=o.Rows.length) Z λk a b=>by
   have ab:=Zkg (ix o.Rows k);have aa:((o.Rows.take k.toNat).map tL).length<=1048576:=by rw [Ju,Jt];omega
   rw [ZkH a b];have hg:gApp 16 ((o.Rows.take k.toNat).map tL) [tL (ix o.Rows k)]=Jg ((o.Rows.take k.toNat).map tL++[tL (ix o.Rows k)]):=gApp1 Z Z;grind [pz,Zb3]
  rw [Jp,Jx] at u;have hq:=Zkw (l:=o.Rows.map tL) (s:=⟨#[47]⟩) (by rw [Ju];omega) (by rw [<-er];omega);rw [er] at k1;have e2:loop (Zb3 o) ([],0)=Jg ((((s++⟨#[32]⟩)++itoaB o.Size)++⟨#[32]⟩)++joinB (o.Rows.map tL) ⟨#[47]⟩):=by
   refine Eq.trans u (Ze ?_);grind [pz,Zb3]
  simp_all
theorem ZPj {b:Jb} (j:(Jk b:Int)<=100/\∀x∈b,InR x):(lst (tL b)).1=b:=by
 by_cases i:b=[]
 .rw [tL_n i,i];rfl
 .have hT:=tL_t ⟨by omega,j.2⟩ i;have hs:splB 44 (tL b)=b.map itoaB:=by
   rw [hT];refine ZoM (by simpa using i) λx o=>?_;obtain ⟨n,_,rfl⟩:=List.mem_map.1 o;exact dg_no (l:=[]) (by unfold Dg;decide) (by decide) n
  have u:nmsL (tL b)=b:=by
   unfold nmsL;rw [hs,Xb]
   conv=>rhs;rw [<-XR b]
   grind [XQ,numOf,itoaB,ZoI]
  unfold lst;rw [if_neg λh=>?_,if_pos (by rw [u])]
  .exact u
  .cases b with
   | nil=>exact i rfl
   | cons x r=>
    rw [h,JG] at hs;have h1:splB 44 ⟨#[45]⟩=[bl [45]]:=rfl;rw [h1] at hs;have k:=ZoI (j.2 x (JA ..));rw [<-(List.cons.inj hs).1,ZoJ (s:=bl [45]) (.inl (by show 0<1;omega))] at k;cases k
theorem Zyz {rows:Ja} (h:(Jk rows:Int)<=720):(tR rows).size<=1000000:=by
 unfold tR;split
 .show 4<=_;omega
 .have:=jsize (xs:=rows) (f:=tL) (s:=⟨#[47]⟩) (m:=1100) (N:=720) (λx _=>ZdI x) Z (Jk rows);rw [Jx] at this;exact JW this (by decide)
theorem ZIk {o:Zf} (hz:Sz2 o.Rows) (hv:Zar o=Jg Ji) {t:Jd} (ht:Zc5 o=Jg t):Zdq t=Jg (o,Ji):=by
 obtain ⟨s,n1,n2,n3,_,n4,k⟩:=Zx5 hz hv;obtain ⟨hs,hT⟩:=Zo2 hz hv;have hr:=ZpI hz hv;have et:t=(((s++⟨#[32]⟩)++itoaB o.Size)++⟨#[32]⟩)++tR o.Rows:=Option.some.inj (ht.symm.trans k);have ao:=Zyz hr;have dz:=ZcG (n:=o.Size) 18 Z Z;have a9:(⟨#[32]⟩:Jd).size=1:=rfl;have al:t.size<=1000100:=by rw [et];simp only [Z6];omega
 have a8:Zbb t ⟨#[32]⟩=Jg [s,itoaB o.Size,tR o.Rows]:=by
  grind [ZiD,Zzm]
 have k1:∀b,ZhL t (o.Kind,Ji) (o.Size,b) o.Rows=Jg (o,Ji):=by
  intro b;unfold ZhL;simp_all
 have a3:Zem (itoaB o.Size)=Jg (o.Size,Ji):=by
  rw [Zsa _ Z,ZoI ⟨by omega,by omega⟩]
 have y:ix [s,itoaB o.Size,tR o.Rows] 0=s:=rfl;have g1:ix [s,itoaB o.Size,tR o.Rows] 1=itoaB o.Size:=rfl;have g2:ix [s,itoaB o.Size,tR o.Rows] 2=tR o.Rows:=rfl;have l3:(([s,itoaB o.Size,tR o.Rows]:List Jd).length:Int)=3:=rfl;unfold Zdq;by_cases l:o.Rows=[]
 .simp_all [tR,if_pos,Zay,pz]
 .have er:tR o.Rows=joinB (o.Rows.map tL) ⟨#[47]⟩:=by unfold tR;rw [if_neg l]
  have a6:splB 47 (tR o.Rows)=o.Rows.map tL:=by
   rw [er];refine ZoM (by simpa using l) λx j=>?_;obtain ⟨r,_,rfl⟩:=List.mem_map.1 j;grind [tL_no,Dg]
  have a7:¬tR o.Rows=⟨#[110,111,110,101]⟩:=by
   intro h;have a5:(110:UInt8)∉(tR o.Rows).data.toList:=by
    rw [er];refine Zlw (by decide) λx j=>?_;obtain ⟨r,_,rfl⟩:=List.mem_map.1 j;grind [tL_no,Dg]
   grind
  have hq:=Zei a7;have u:Zbb (tR o.Rows) ⟨#[47]⟩=Jg (o.Rows.map tL):=by rw [ZiD (b:=47) Z,a6]
  have hl:((o.Rows.map tL).length:Int)=Jk o.Rows:=by rw [Ju]
  have k:=Zj (B:=Zgx t (o.Kind,Ji) (o.Size,Ji) (o.Rows.map tL)) (λm:Int=>(m,o.Rows.take m.toNat)) (i:=0) (n:=o.Rows.length) Z λm a b=>by
   have j:ix (o.Rows.map tL) m=tL (ix o.Rows m):=Zdx a b;have hb:=hT _ (Zl a b);have aa:=ZN5 (s:=tL (ix o.Rows m)) (by have:=ZdI (ix o.Rows m);omega);have a2:=ZPj hb;have am:(o.Rows.take m.toNat).length<=720:=by rw [Jt];omega
   have hg:gApp 24 (o.Rows.take m.toNat) [ix o.Rows m]=Jg (o.Rows.take m.toNat++[ix o.Rows m]):=gApp1 Z Z;rw [Zai a b];simp (disch:=omega) only [pz,Zgx,j,aa,a2,hg]
  rw [Jp,Jx] at k;have e2:loop (Zgx t (o.Kind,Ji) (o.Size,Ji) (o.Rows.map tL)) (0,[])=Jg (o,Ji):=by
   refine Eq.trans k (Ze ?_);grind [pz,Zgx]
  simp (disch:=omega) only [pz,a8,l3,y,g1,g2,n2,a3,hq,u,e2]
open Go Go.Vc Go.Lib
theorem trimP {l p:List UInt8} (hl:Jk l<=100000000) (hp:Jk p<=100):∃r:List UInt8,ZcB (bl l) (bl p)=Jg (bl r)/\(Jk r)<=Jk l/\∀q,l=p++q->r=q:=by
 have z1:(bl l).size=Jk l:=Zae l;have z2:(bl p).size=Jk p:=Zae p;unfold ZcB ZnC ZnB;by_cases h:Jk p<=Jk l
 .have i:=Zdy (s:=bl l) (lo:=0) (hi:=(Jk p:Int)) Z Z Z;have j:bl (((bl l).data.toList.take ((Jk p:Int)).toNat).drop (0:Int).toNat)=bl (l.take (Jk p)):=by
   rfl
  rw [j] at i;have k:=Zdy (s:=bl l) (lo:=(Jk p:Int)) (hi:=((bl l).size:Int)) Z Z Z;have o:bl (((bl l).data.toList.take (((bl l).size:Int)).toNat).drop ((Jk p:Int)).toNat)=bl (l.drop (Jk p)):=by
   grind [Jp,bl,Jx]
  grind [bl]
 .grind
theorem Zy6 (l:List UInt8) (c:UInt8) (hl:(l++[c]).length<=100000000):Zg9 (bl (l++[c])) ⟨#[10]⟩=Jg (decide (c=10)):=by
 have z1:(bl (l++[c])).size=Jk l+1:=by rw [Zae,Jo];rfl
 have z2:((⟨#[10]⟩:Jd).size:Int)=1:=rfl;have hs:=Zdy (s:=bl (l++[c])) (lo:=(Jk l:Int)) (hi:=((bl (l++[c])).size:Int)) Z Z Z;have es:bl (((bl (l++[c])).data.toList.take (((bl (l++[c])).size:Int)).toNat).drop ((Jk l:Int)).toNat)=bl [c]:=by
  grind [Jp,Zae,bl,Jx]
 rw [es] at hs;have k:Jk l<=100000000:=by rw [Jo] at hl;omega
 have w:((Jk l+1:Nat):Int)-1=(Jk l:Int):=Z;unfold Zg9 Zd4;rw [z1] at hs ⊢;have j:((bl [c]).toList==(⟨#[10]⟩:Jd).toList)=decide (c=10):=by
  by_cases i:c=10
  .rw [decide_eq_true i,i];exact (Zay _ _).2 rfl
  .rw [decide_eq_false i];refine Zei λe=>i ?_;have:=congrArg (λs:Jd=>s.data.toList) e;exact (List.cons.inj (show [c]=[10] from this)).1
 simp (disch:=omega) only [pz,z2,w,hs,j]
theorem trimS (l:List UInt8) (hl:(l++[10]).length<=100000000):Zlg (bl (l++[10])) ⟨#[10]⟩=Jg (bl l):=by
 have h1:=Zy6 l 10 hl;have h1:Zd4 (bl (l++[10])) ⟨#[10]⟩=Jg true:=by
  have j:(Zd4 (bl (l++[10])) ⟨#[10]⟩).bind (λi=>Jg i)=Jg true:=h1;grind
 have z1:(bl (l++[10])).size=Jk l+1:=by rw [Zae,Jo];rfl
 have z2:((⟨#[10]⟩:Jd).size:Int)=1:=rfl;have k:Jk l<=100000000:=by rw [Jo] at hl;omega
 have w:((Jk l+1:Nat):Int)-1=(Jk l:Int):=Z;have hs:gStSl (bl (l++[10])) 0 (Jk l:Int)=Jg (bl l):=sl_l;grind [Zlg,Zp8,pz]
open Go Go.Vc Go.Lib
theorem ZGk {l:List UInt8} (h:32∉l) (hs:Jk l<=100000000):Zfg (bl l) 32=Jg (-1):=by
 have hz:(bl l).size=Jk l:=Zae l;unfold Zfg Zm9;have e:loop (ZfS (bl l) 32) ((Jk l:Int)-1)=Jg (-1):=by
  refine Eq.trans (ZB8 (λk=>k) (m:=-1) Z λk a b=>?_) (Ze ?_)
  .obtain ⟨c,hm,hg⟩:=at_l (x:=l) (y:=[]) (i:=k) Z Z;grind [ch_ne,pz,ZfS]
  .rfl
 grind [pz]
theorem Zxf {x y:List UInt8} (h:32∉y) (hs:(x++32::y).length<=100000000):Zfg (bl (x++32::y)) 32=Jg (Jk x:Int):=by
 have hz:(bl (x++32::y)).size=(x++32::y).length:=Zae _;have hl:(x++32::y).length=Jk x+(Jk y+1):=by rw [Jo,Jy]
 have hm:gSt (bl (x++32::y)) (Jk x:Int)=Jg 32:=at_m;have j:((32:UInt8).toNat:Int)=32:=rfl;unfold Zfg Zm9;have e:loop (ZfS (bl (x++32::y)) 32) (((x++32::y).length:Int)-1)=Jg (Jk x:Int):=by
  refine Eq.trans (ZB8 (λk=>k) (m:=(Jk x:Int)) Z λk a b=>?_) (Ze ?_)
  .obtain ⟨c,hm,hg⟩:=at_r (x:=x) (y:=y) (b:=32) (i:=k) a Z;have l:=ch_ne (c:=c) λe=>h (e▸hm);simp (disch:=omega) only [pz,ZfS,hg]
  .simp_all [pz,ZfS]
 simp (disch:=omega) only [pz,hz,e]
theorem ZiT (n:Int):bl (itoa n)=itoaB n:=rfl
theorem Zuo {v:List UInt8} (hs:Jk v<=100000000) (h:(spl 32 v).length≠3):Zdq (bl v)=Jg (Zf.mk 0 0 ([]:Ja),Jj):=by
 have j:Zbb (bl v) ⟨#[32]⟩=Jg (splB 32 (bl v)):=ZiD (b:=32) (by rw [Zae];omega);grind [splB,bl,spl,Ju,Zdq,pz]
theorem ZFl {l:List UInt8} (hs:Jk l<=100000000) (h:∀x y,l=x++32::y->32∉y->y=itoa (crc x)->∀u v,x=u++32::v->32∉u->(spl 32 v).length≠3):∃r,ZaF (bl l)=Jg r/\¬r.2.2=0:=by
 rcases ZnN 32 l with g|⟨x,y,rfl,hy⟩
 .simp_all [ZGk,ZaF,pz]
 .have hl:(x++32::y).length=Jk x+(Jk y+1):=by rw [Jo,Jy]
  have hb:(bl x).size=Jk x:=Zae x;have c2:=ZCt (s:=bl x) Z;have a4:=ZpU x;have c2:Ze1 (bl x) 65535=Jg ((crc x:Nat):Int):=c2;have h:=h x y rfl hy;generalize crc x=q at c2 a4 h;have k:=Zcx (n:=(q:Int)) Z Z;have s1:gStSl (bl (x++32::y)) 0 (Jk x:Int)=Jg (bl x):=sl_l;have s2:gStSl (bl (x++32::y)) ((Jk x:Int)+1) ((bl (x++32::y)).size:Int)=Jg (bl y):=sl_r;have o:=Zxf hy hs;by_cases i:bl y=itoaB q
  .have a2:y=itoa q:=by
    have:=congrArg (λs:Jd=>s.data.toList) i;assumption
   have h:=h a2;have i:=(Zay _ _).2 i;refine ⟨(⟨#[]⟩,Zf.mk 0 0 ([]:Ja),9),?_,by decide⟩;have kk:Zgc (bl (x++32::y)) (Jk x:Int)=Jg (⟨#[]⟩,Zf.mk 0 0 ([]:Ja),9):=by
    unfold Zgc Zg1;rcases ZhP 32 x with g|⟨u,v,rfl,g⟩
    .have a3:=ZF1 g;have j:=Zuo (v:=[]) (by simp) (by decide);have j:Zdq ⟨#[]⟩=Jg (Zf.mk 0 0 ([]:Ja),Jj):=j;grind
    .have a7:(u++32::v).length=Jk u+(Jk v+1):=by rw [Jo,Jy]
     have a3:=Zxs (y:=v) g;have j:=Zuo (v:=v) Z (h u v rfl g);rw [s1,Jr,if_pos (by rw [Zae];omega),Jr,a3];grind
   unfold ZaF;simp (disch:=omega) only [pz,o,s1,c2,k,s2,i,kk]
  .have i:=Zei i;refine ⟨(⟨#[]⟩,Zf.mk 0 0 ([]:Ja),10),?_,by decide⟩;unfold ZaF;simp (disch:=omega) only [pz,o,s1,c2,k,s2,i]
theorem ZLm {u v:List UInt8} {o:Zf} (hu:32∉u) (i:Nam (bl u)) (hz:Sz2 o.Rows) (hv:Zar o=Jg Ji) (ht:Zc5 o=Jg (bl v)) (hs:Jk v<=2000000):ZaF (bl (lin u v))=Jg (bl u,o,0):=by
 have hN:=i.s2;rw [Zae] at hN;have hx:(u++32::v).length=Jk u+(Jk v+1):=by rw [Jo,Jy]
 have a3:=ZpU (u++32::v);have c2:Ze1 (bl (u++32::v)) 65535=Jg ((crc (u++32::v):Nat):Int):=ZCt (s:=bl (u++32::v)) (by rw [Zae];omega);unfold lin;generalize crc (u++32::v)=q at c2 a3;have hy:(32:UInt8)∉itoa q:=by
  have:=dg_no (l:=[]) (c:=32) (by unfold Dg;decide) (by decide) q;assumption
 have dz:=ZcG (n:=(q:Int)) 8 Z Z;have dz:(itoa q).length<=10:=by rw [<-ZiT,Zae] at dz;exact dz
 have hl:((u++32::v)++32::itoa q).length=(u++32::v).length+((itoa q).length+1):=by rw [Jo,Jy]
 have j:=Zcx (n:=(q:Int)) Z Z;have s1:gStSl (bl ((u++32::v)++32::itoa q)) 0 ((u++32::v).length:Int)=Jg (bl (u++32::v)):=sl_l;have s2:gStSl (bl ((u++32::v)++32::itoa q)) (((u++32::v).length:Int)+1) ((bl ((u++32::v)++32::itoa q)).size:Int)=Jg (bl (itoa q)):=sl_r;have k:=Zxf (x:=u++32::v) hy Z;have hq:=(Zay (bl (itoa q)) (itoaB q)).2 rfl;have a4:=Zxs (y:=v) hu;have f3:=ZIk hz hv ht;have nb:=(ZN9 (bl u)).eq i;have kk:Zgc (bl ((u++32::v)++32::itoa q)) ((u++32::v).length:Int)=Jg (bl u,o,0):=by
  unfold Zgc Zg1;rw [s1,Jr,if_pos (by rw [Zae];omega),Jr,a4];simp_all [pz,ZtF]
 unfold ZaF;simp (disch:=omega) only [pz,k,s1,c2,j,s2,hq,kk]
theorem ZyS:∀{xs:List (List UInt8)},xs≠[]->J xs=join xs [10]++[10]
 | [],h=>absurd rfl h
 | [x],_=>by rw [join_one];rfl
 | x::y::r,_=>by
  have j:=ZyS (xs:=y::r) (by simp);grind [Zmm,J]
theorem ZGp {l:List UInt8} (hs:Jk l<=100000000):∃r,ZbJ (bl l)=Jg r/\(r.2=0->∃ls:List (List UInt8),l=J (hdr (Jk ls)::ls)/\NL (hdr (Jk ls)::ls)/\(Jk ls)<=24/\r.1=ls.map bl):=by
 have no:∀{n:Int},n≠0->(([],n):List Jd×Int).2=0->∃ls:List (List UInt8),l=J (hdr (Jk ls)::ls)/\NL (hdr (Jk ls)::ls)/\(Jk ls)<=24/\(([],n):List Jd×Int).1=ls.map bl:=λh g=>absurd g h;by_cases k:l=[]
 .subst k;have z:((bl []).size:Int)=0:=rfl;have z2:((⟨#[10]⟩:Jd).size:Int)=1:=rfl;simp_all [Zg9,bl,Zd4,pz,ZbJ]
 .obtain ⟨l',c,rfl⟩:∃l' c,l=l'++[c]:=⟨l.dropLast,l.getLast k,(List.dropLast_concat_getLast k).symm⟩
  have hL:Jk l'+1<=100000000:=by rw [Jo] at hs;exact hs
  have a5:=Zy6 l' c hs;by_cases hc:c=10
  .subst hc;rw [decide_eq_true rfl] at a5;have ac:=trimS l' hs;have a8:Zbb (bl l') ⟨#[10]⟩=Jg (splB 10 (bl l')):=ZiD (b:=10) (by rw [Zae];omega);obtain ⟨hd,t,ht⟩:=Zgk (b:=10) (l:=l');have a6:=ZCG 10 l';have hj:=Zzn 10 l';have a3:=ZoY 10 l';have a7:=Zpz 10 l';have hB:splB 10 (bl l')=bl hd::t.map bl:=by
    show (spl 10 l').map bl=_;rw [ht];rfl
   rw [hB] at a8;rw [ht] at a6 hj a3 a7;have ar:=a3 hd (JA ..);have hJ:l'++[10]=J (hd::t):=by rw [ZyS (by simp),hj]
   rw [Jy] at a7;have x5:ix (bl hd::t.map bl:List Jd) 0=bl hd:=rfl;have u:((bl hd::t.map bl:List Jd).length:Int)=(Jk t:Int)+1:=by rw [Jy,Ju];omega
   have y:(Jk t:Int)+1-1=(Jk t:Int):=Z;have y2:gSl (bl hd::t.map bl:List Jd) 1 ((Jk t:Int)+1)=Jg (t.map bl):=by
    grind [Zba,bl,Jy,Ju,Jx]
   obtain ⟨r,o,r2,r3⟩:=trimP (l:=hd) (p:=[99,97,116,97,108,111,103,32]) Z (by decide);have o:ZcB (bl hd) ⟨#[99,97,116,97,108,111,103,32]⟩=Jg (bl r):=o;have ni:=Zsa (bl r) (by rw [Zae];omega);have sz:Zg4 (bl hd::t.map bl)=Jg ((Jk t:Int)+1):=by unfold Zg4;rw [u]
   have kk:∀n:Int×Bool,Zep (bl hd::t.map bl) n Ji=Jg ([],9):=λn=>by
    rfl
   generalize numOf (bl r)=nn at ni;obtain ⟨m,b⟩:=nn;cases b with
   | false=>
    simp_all [ZbJ,pz]
   | true=>
    have kk:=kk (m,Ji);by_cases hi:0<=m/\m<=24
    .have i2:ZV m 0 24=Jg true:=by
      grind [pz,ZV]
     have dd:=Zcx (n:=m) Z Z;have aq:=Zbt (x:=m) ⟨by omega,by omega⟩;have gf:gFit (⟨#[99,97,116,97,108,111,103,32]⟩:Jd) (itoaB m)=Jg ():=gFitW (by show 8+_<=_;omega);by_cases i:bl hd=(⟨#[99,97,116,97,108,111,103,32]⟩:Jd)++itoaB m
     .obtain ⟨n,rfl⟩:=Xz hi.1;have a4:hd=hdr n:=by
       have:=congrArg (λs:Jd=>s.data.toList) i;assumption
      have i:=(Zay _ _).2 i;have j:ZbJ (bl (l'++[10]))=Zep (bl hd::t.map bl) ((n:Int),Ji) false:=by
       simp_all [ZbJ,pz]
      rw [j];unfold Zep;by_cases a1:(Jk t:Int)<n
      .exact ⟨([],11),by simp (disch:=omega) only [pz,sz,y],no (by decide)⟩
      .by_cases a2:(Jk t:Int)>n
       .grind [pz]
       .have hn:n=Jk t:=Z;subst hn;rw [a4] at a6 hJ;exact ⟨(t.map bl,0),by simp (disch:=omega) only [pz,sz,y,u,y2],λ_=>⟨t,hJ,a6,by omega,rfl⟩⟩
     .have i:=Zei i;refine ⟨([],9),?_,no (by decide)⟩;unfold ZbJ;simp (disch:=omega) only [pz,a5,ac,a8,x5,o,ni,i2,dd,gf,i,kk]
    .have i2:ZV m 0 24=Jg false:=by
      by_cases a9:0<=m
      .grind [pz,ZV]
      .grind [pz,ZV]
     simp_all [ZbJ,pz]
  .simp_all [decide_eq_false,ZbJ,pz]
instance :Inhabited Zh:=⟨⟨⟨#[]⟩,⟨0,0,[]⟩,⟨#[]⟩⟩⟩
def ObjV (o:Zf):Prop:=Zat o=Jg Ji
theorem Zu1 {o:Zf} (hs:Sz2 o.Rows):IsQ (Zat o) (ObjV o):=by
 obtain ⟨c,h1,i⟩:=Zji hs;refine ⟨c,h1,?_⟩;unfold ObjV;grind
structure ItemV (x:Zh):Prop where
 nam:Nam x.Name
 obj:ObjV x.Object
 k1:1<=(x.Key.size:Int)
 k2:(x.Key.size:Int)<=4000
theorem ZrH {x:Zh} (hs:Sz2 x.Object.Rows):IsQ (ZlH x) (ItemV x):=by
 have e:Zf.mk x.Object.Kind x.Object.Size x.Object.Rows=x.Object:=rfl;unfold ZlH;by_cases h1:Nam x.Name
 .have i:=(Zlt x.Name).eq h1;by_cases j:ObjV x.Object
  .have q2:=(Zu1 hs).eq j;by_cases k:1<=(x.Key.size:Int)
   .by_cases l:(x.Key.size:Int)<=4000
    .simp (disch:=omega) only [pz,i,e,q2];exact IsQ.t ⟨h1,j,k,l⟩
    .simp (disch:=omega) only [pz,i,e,q2];exact IsQ.f λh=>l h.k2
   .simp (disch:=omega) only [pz,i,e,q2];exact IsQ.f λh=>k h.k1
  .have q2:=(Zu1 hs).ne j;simp (disch:=omega) only [pz,i,e,q2];exact IsQ.f λh=>j h.obj
 .have i:=(Zlt x.Name).ne h1;simp (disch:=omega) only [pz,i];exact IsQ.f λh=>h1 h.nam
theorem Zrh:∀a b:List UInt8,(Op.bytesLess a b||a==b)=!Op.bytesLess b a
 | [],[]=>rfl
 | [],b::y=>rfl
 | a::x,[]=>rfl
 | a::x,b::y=>by
  have j:=Zrh x y;show ((decide (a<b)||(a==b&&Op.bytesLess x y))||((a::x)==(b::y)))=!(decide (b<a)||(b==a&&Op.bytesLess y x));grind
def Like (a b:Zh):Prop:=a.Object.Kind=b.Object.Kind/\a.Key=b.Key
theorem ZmY (a b:Zh):IsQ (Zgi a b) (Like a b):=by
 unfold Zgi Like;by_cases h:a.Object.Kind=b.Object.Kind
 .simp (disch:=omega) only [pz,];exact ⟨_,rfl,by rw [Zay];simp [h]⟩
 .grind [pz,IsQ.f]
theorem ZHW (a b:Zh):IsQ (Zro a b) (Like a b):=ZmY a b
def Szc (c:List Zh):Prop:=(Jk c:Int)<=1048576/\∀x∈c,Sz2 x.Object.Rows
structure At (c:List Zh) (i:Int):Prop where
 item:ItemV (ix c i)
 ord:0<i->Op.bytesLess (ix c (i-1)).Name.toList (ix c i).Name.toList=Ji
 new:∀j,0<=j->j<i->¬Like (ix c i) (ix c j)
structure CatV (c:List Zh):Prop where
 at_:∀i,0<=i->i<(Jk c:Int)->At c i
 n:(Jk c:Int)<=24
theorem Zu0 {c:ZA} {i:Int} (hs:Szc c.Items) (l:0<=i) (h1:i<(Jk c.Items:Int)):∃b:Bool,ZhB c i=Jg (bif b then .inl (i+1) else .inr Jj)/\(b=Ji↔∀j,0<=j->j<i->¬Like (ix c.Items i) (ix c.Items j)):=by
 have o:=hs.1;unfold ZhB;refine ZcO (B:=ZhC c i) (P:=λj=>¬Like (ix c.Items i) (ix c.Items j)) (t:=.inl (i+1)) (f:=.inr Jj) (i:=0) (n:=i) Z (λk a b g=>?_) (λk a b g=>?_) ?_
 .have q:=(ZmY (ix c.Items i) (ix c.Items k)).ne g;grind [pz,ZhC]
 .have q:=(ZmY (ix c.Items i) (ix c.Items k)).eq (Classical.byContradiction g);grind [pz,ZhC]
 .grind [pz,ZhC]
theorem Zy8 {c:ZA} (hs:Szc c.Items):IsQ (Zjv c) (CatV c.Items):=by
 have hN:=hs.1;unfold Zjv;refine (Zaw (P:=At c.Items) (n:=c.Items.length) (Q:=(Jk c.Items:Int)<=24) Z ?_ ?_ λ_=>?_).congr ⟨λg=>⟨g.1,g.2⟩,λg=>⟨g.at_,g.n⟩⟩
 .intro i j k l;have o:=(ZrH (hs.2 _ (Zl j k))).eq l.item;obtain ⟨b,n1,n2⟩:=Zu0 hs j k;rw [n2.2 l.new] at n1;by_cases hi:0<i
  .have u:=l.ord hi;grind [pz,Zc2]
  .grind [pz,Zc2]
 .intro i j k l;by_cases h1:ItemV (ix c.Items i)
  .have o:=(ZrH (hs.2 _ (Zl j k))).eq h1;obtain ⟨b,n1,n2⟩:=Zu0 hs j k;by_cases hi:0<i
   .cases u:Op.bytesLess (ix c.Items (i-1)).Name.toList (ix c.Items i).Name.toList with
    | false=>simp (disch:=omega) only [pz,Zc2,o,u]
    | true=>
     have:b=false:=by
      cases b with
      | false=>rfl
      | true=>exact absurd ⟨h1,λ_=>u,n2.1 rfl⟩ l
     grind [pz,Zc2]
   .have:b=false:=by
     cases b with
     | false=>rfl
     | true=>exact absurd ⟨h1,λh=>absurd h hi,n2.1 rfl⟩ l
    grind
  .have o:=(ZrH (hs.2 _ (Zl j k))).ne h1;grind [pz,Zc2]
 .by_cases h:(Jk c.Items:Int)<=24
  .grind [Ze,pz,Zc2,IsQ.t]
  .grind [Ze,pz,Zc2,IsQ.f]
def Bl (a b:Jd):Prop:=Op.bytesLess a.toList b.toList=Ji
instance (a b:Jd):Decidable (Bl a b):=inferInstanceAs (Decidable (_=Ji))
theorem ZIL (a:List UInt8):Op.bytesLess a a=false:=by
 have h:=Zrh a a;grind
theorem Zxl:∀a b c:List UInt8,Op.bytesLess a b=Ji->Op.bytesLess b c=Ji->Op.bytesLess a c=Ji
 | a,[],c,h,_=>by cases a<;>cases h
 | _,_::_,[],_,k=>by cases k
 | [],_::_,_::_,_,_=>rfl
 | a::x,b::y,c::z,h,k=>by
  have l:(decide (a<b)||(a==b&&Op.bytesLess x y))=true:=h;have k':(decide (b<c)||(b==c&&Op.bytesLess y z))=true:=k;show (decide (a<c)||(a==c&&Op.bytesLess x z))=Ji;simp only [Bool.or_eq_true,decide_eq_true_eq,Bool.and_eq_true,beq_iff_eq] at l k' ⊢;have o:∀{p q r:UInt8},p<q->q<r->p<r:=λi j=>by
   grind
  rcases l with l|⟨rfl,l⟩
  .grind
  .rcases k' with k'|⟨rfl,k'⟩
   .exact .inl k'
   .exact .inr ⟨rfl,Zxl x y z l k'⟩
theorem Bl.trans {a b c:Jd} (h:Bl a b) (k:Bl b c):Bl a c:=Zxl _ _ _ h k
theorem Bl.irr {a:Jd} (h:Bl a a):False:=by
 grind [Bl,ZIL]
theorem ZIe {c:List Zh} (o:CatV c):∀(d:Nat) (i j:Int),0<=i->i<j->j<(Jk c:Int)->j-i<=d->Bl (ix c i).Name (ix c j).Name:=by
 intro d;induction d with
 | zero=>intro i j k h1 l u;omega
 | succ d ih=>
  intro i j k h1 l u;have ho:Bl (ix c (j-1)).Name (ix c j).Name:=(o.at_ j Z l).ord Z;by_cases h:i=j-1
  .rw [h];exact ho
  .exact (ih i (j-1) k Z Z Z).trans ho
def Rise (c:List Zh):Prop:=∀i j:Int,0<=i->i<j->j<(Jk c:Int)->Bl (ix c i).Name (ix c j).Name
theorem CatV.rise {c:List Zh} (k:CatV c):Rise c:=λi j l h1 o=>ZIe k (j-i).toNat i j l h1 o Z
structure Plc (c:List Zh) (name:Jd) (k:Int) (b:Bool):Prop where
 k0:0<=k
 k1:k<=(Jk c:Int)
 lo:∀j,0<=j->j<k->Bl (ix c j).Name name
 hi:∀j,k<=j->j<(Jk c:Int)->¬Bl (ix c j).Name name
 eq:b=Ji↔k<(Jk c:Int)/\(ix c k).Name=name
theorem Plc.none {c:List Zh} {a2:Jd} {k:Int} {b:Bool} (o:Rise c) (p:Plc c a2 k b) (i:b=Jj):∀j,0<=j->j<(Jk c:Int)->¬(ix c j).Name=a2:=λj u h1 e=>by
 have h2:k<=j:=by
  rcases Int.lt_or_le j k with g|g
  .have:=p.lo j u g;rw [e] at this;exact this.irr.elim
  .exact g
 by_cases y:k=j
 .subst y;rw [p.eq.2 ⟨h1,e⟩] at i;cases i
 .have l:=o k j p.k0 Z h1;rw [e] at l;exact p.hi k (Int.le_refl _) Z l
theorem ZAZ {c:ZA} {a2:Jd} {k:Int} {b:Bool} (u:Rise c.Items) (hl:(Jk c.Items:Int)<=1048576) (p:Plc c.Items a2 k b):Zmu c a2=Jg (bif b then k else -1):=by
 have ne:∀{s:Jd},¬s=a2->(s.toList==a2.toList)=false:=λ{s} h=>by
  grind [absurd,Zay]
 unfold Zmu;cases b with
 | true=>
  obtain ⟨h1,y⟩:=p.eq.1 rfl;have k0:=p.k0;have a3:=Zj (B:=Zdw c a2) (λj=>j) (i:=0) (n:=k) p.k0 λj l o=>by
   have:=ne (s:=(ix c.Items j).Name) λe=>by
    have:=p.lo j l o;rw [e] at this;exact this.irr
   grind [pz,Zdw]
  grind [Ze,Zay,ix,pz,Zdw]
 | false=>
  have hn:=p.none u rfl;have a3:=Zj (B:=Zdw c a2) (λj=>j) (i:=0) (n:=c.Items.length) Z λj l o=>by
   grind [pz,Zdw]
  grind [Ze,pz,Zdw]
theorem Zys {x:Zh} (hs:Sz2 x.Object.Rows):ZeC x=Jg x:=by
 simp_all [ZeC,Zqm,pz]
instance :Inhabited Jd:=⟨⟨#[]⟩⟩
noncomputable instance decLike (a b:Zh):Decidable (Like a b):=Classical.propDecidable _
noncomputable instance decLikeEx (n:Int) (f:Int->Zh) (y:Zh):Decidable (∃j,0<=j/\j<n/\Like (f j) y):=Classical.propDecidable _
theorem Like.symm {a b:Zh} (h:Like a b):Like b a:=⟨h.1.symm,h.2.symm⟩
def insI (c:List Zh) (y:Zh) (k:Int):List Zh:=c.take k.toNat++[y]++c.drop k.toNat
theorem Zl7 {c:List Zh} {y:Zh} {k:Int} (k1:k<=(Jk c:Int)):((insI c y k).length:Int)=Jk c+1:=by
 unfold insI;grind
theorem ZOV {c:List Zh} {y:Zh} {k:Int} (hs:∀x∈c,Sz2 x.Object.Rows) (j:Sz2 y.Object.Rows):∀x∈insI c y k,Sz2 x.Object.Rows:=λx i=>by
 unfold insI at i;grind
theorem ZeA {c:List Zh} {y:Zh} {k j:Int} (k1:k<=(Jk c:Int)) (i:0<=j) (h:j<k):ix (insI c y k) j=ix c j:=by
 grind [insI,Js,Zit,Jt,Zdo]
theorem Zh4 {c:List Zh} {y:Zh} {k:Int} (k0:0<=k) (k1:k<=(Jk c:Int)):ix (insI c y k) k=y:=by
 grind [insI,Js,ixMid,Jt]
theorem Zeg {c:List Zh} {y:Zh} {k j:Int} (k0:0<=k) (k1:k<=(Jk c:Int)) (h:k<j):ix (insI c y k) j=ix c (j-1):=by
 grind [insI,Jo,Jt,JM,Zeq,Zhh]
theorem bl_or {a b:Jd}:(Op.bytesLess a.toList b.toList||a.toList==b.toList)=!Op.bytesLess b.toList a.toList:=Zrh _ _
theorem ZuV {a b:Jd} (h1:¬Bl a b) (i:¬a=b):Bl b a:=by
 grind [bl_or,Op.bytesLess,Bl,absurd,Zay]
theorem ZGT {c:List Zh} {y:Zh} {k:Int} (o:Rise c) (p:Plc c y.Name k Jj):Rise (insI c y k):=by
 have k0:=p.k0;have k1:=p.k1;have u:=p.none o rfl;have a2:∀j,k<=j->j<(Jk c:Int)->Bl y.Name (ix c j).Name:=λj a b=>ZuV (p.hi j a b) (u j Z b);intro i j l h1 h2;rw [Zl7 k1] at h2;rcases J7 i k with hi|hi|hi
 .rw [ZeA k1 l hi];rcases J7 j k with hj|hj|hj
  .rw [ZeA k1 Z hj];exact o i j l h1 Z
  .rw [hj,Zh4 k0 k1];exact p.lo i l hi
  .rw [Zeg k0 k1 hj];exact (p.lo i l hi).trans (a2 (j-1) Z Z)
 .grind [Zh4,Zeg]
 .rw [Zeg k0 k1 hi,Zeg k0 k1 Z];exact o (i-1) (j-1) Z Z Z
theorem ZLi {c:List Zh} {y:Zh} {k:Int} (hc:Rise c) (hs:∀x∈c,Sz2 x.Object.Rows) (hy:Sz2 y.Object.Rows) (hl:(Jk c:Int)<=24) (p:Plc c y.Name k Jj):
  ZeZ ⟨c⟩ y=Jg (if ∃j,0<=j/\j<(Jk c:Int)/\Like (ix c j) y then (⟨[]⟩,6) else if (Jk c:Int)+1>24 then (⟨[]⟩,5) else (⟨insI c y k⟩,0)):=by
 have k0:=p.k0;have k1:=p.k1;have hn:=p.none hc rfl;have f1:=ZAZ (c:=⟨c⟩) hc (by show (Jk c:Int)<=1048576;omega) p;simp only [cond_false] at f1;have oy:=Zys hy;have ox:∀i,0<=i->i<(Jk c:Int)->ZeC (ix c i)=Jg (ix c i):=λi a b=>Zys (hs _ (Zl a b));unfold ZeZ;simp (disch:=omega) only [pz,f1];have a9:∀i,Zgi (ix c i) y=Jg (decide (Like (ix c i) y)):=λi=>by
  have q:=ZmY (ix c i) y;by_cases g:Like (ix c i) y
  .rw [q.eq g,decide_eq_true g]
  .rw [q.ne g,decide_eq_false g]
 obtain ⟨f,hf⟩:∃f:Int->Bool×Int×List Zh,f=λi=>if i<=k then (Jj,i,c.take i.toNat) else (Ji,i,c.take k.toNat++[y]++(c.take i.toNat).drop k.toNat):=⟨_,rfl⟩
 have a3:∀i,i<=k->f i=(Jj,i,c.take i.toNat):=λi h=>by rw [hf];exact if_pos h
 have a4:∀i,k<i->f i=(Ji,i,c.take k.toNat++[y]++(c.take i.toNat).drop k.toNat):=λi h=>by rw [hf];exact if_neg Z
 have a8:∀i,0<=i->i<(Jk c:Int)->Like (ix c i) y->Zbo ⟨c⟩ y (f i)=Jg (.inr (⟨[]⟩,6)):=λi a b g=>by
  have hd:=a9 i;rw [decide_eq_true g] at hd;by_cases am:i<=k
  .grind [pz,Zbo]
  .grind [pz,Zbo]
 have a7:∀i,0<=i->i<(Jk c:Int)->¬Like (ix c i) y->Zbo ⟨c⟩ y (f i)=Jg (.inl (f (i+1))):=λi a b g=>by
  have hd:=a9 i;rw [decide_eq_false g] at hd;have ht:=Zai (xs:=c) a b;have ho:=ox i a b;have a5:=@bl_or (ix c i).Name y.Name;rcases J7 i k with h|h|h
  .rw [a3 i Z,a3 (i+1) Z];have u:Op.bytesLess y.Name.toList (ix c i).Name.toList=false:=by
    cases hh:Op.bytesLess y.Name.toList (ix c i).Name.toList with
    | false=>rfl
    | true=>exact ((p.lo i a h).trans hh).irr.elim
   rw [u] at a5;have ae:(c.take i.toNat).length<=24:=by rw [Jt];omega
   simp (disch:=omega) only [pz,Zbo,hd,a5,Zfi,Zfh,ho,ht]
  .subst h;rw [a3 i Z,a4 (i+1) Z];have u:Op.bytesLess y.Name.toList (ix c i).Name.toList=true:=ZuV (p.hi i Z b) (hn i a b);rw [u] at a5;have ae:(c.take i.toNat).length<=24:=by rw [Jt];omega
   have hdr:(c.take (i+1).toNat).drop i.toNat=[ix c i]:=by
    grind
   have a2:(c.take i.toNat++[y]).length<=25:=by rw [Jo,JM];omega
   simp (disch:=omega) only [pz,Zbo,hd,a5,Zfi,oy,Zfh,ho,hdr]
  .rw [a4 i h,a4 (i+1) Z];have hdr:(c.take (i+1).toNat).drop k.toNat=(c.take i.toNat).drop k.toNat++[ix c i]:=by
    grind
   have a2:(c.take k.toNat++[y]++(c.take i.toNat).drop k.toNat).length<=50:=by rw [Jo,Jo,JM,JO,Jt,Jt];omega
   simp (disch:=omega) only [pz,Zbo,hd,Zfi,Zfh,ho,hdr,<-Js]
 have e0:((false:Bool),(0:Int),([]:List Zh))=f 0:=by rw [a3 0 k0];rfl
 rw [e0];rcases Zbn (B:=Zbo ⟨c⟩ y) f (λi=>Like (ix c i) y) (i:=0) (n:=c.length) Z a7 with ⟨i,h1,l,h3,h4,h5⟩|⟨h1,l⟩
 .rw [h5,if_pos ⟨i,h1,l,h3⟩];exact Ze (a8 i h1 l h3)
 .rw [l,if_neg λ⟨j,a,b,g⟩=>h1 j a b g];refine Ze ?_;have a6:∀xs:List Zh,(Jk xs:Int)=Jk c+1->xs=insI c y k->Zfl xs=Jg (.inr (if (Jk c:Int)+1>24 then (⟨[]⟩,5) else (⟨insI c y k⟩,0))):=λxs hx e=>by
   by_cases h:(Jk c:Int)+1>24
   .rw [if_pos h];simp (disch:=omega) only [pz,Zfl]
   .rw [if_neg h,<-e];simp (disch:=omega) only [pz,Zfl]
  by_cases hk:k=Jk c
  .rw [a3 _ Z];have o:c.take (Jk c:Int).toNat=c:=by rw [Jp,Jx]
   rw [o];have:=a6 (c++[y]) (by simp) (by unfold insI;rw [hk,o,Jp,List.drop_length,JL]);simp (disch:=omega) only [pz,Zbo,oy,this]
  .rw [a4 _ Z];have o:c.take (Jk c:Int).toNat=c:=by rw [Jp,Jx]
   rw [o];have:=a6 (c.take k.toNat++[y]++c.drop k.toNat) (Zl7 k1) rfl;simp (disch:=omega) only [pz,Zbo,this]
theorem ZKg {c:List Zh} {y:Zh} {k:Int} (i:Rise c) (hl:(Jk c:Int)<=24) (p:Plc c y.Name k Ji):ZeZ ⟨c⟩ y=Jg (⟨[]⟩,4):=by
 have k0:=p.k0;have j:=ZAZ (c:=⟨c⟩) i (by show (Jk c:Int)<=1048576;omega) p;simp_all [cond_true,ZeZ,pz]
section
variable {d:ZA} (hd:(Jk d.Items:Int)<=24) (hds:∀x∈d.Items,Sz2 x.Object.Rows)
include hd hds
end
def eT (e:Zc):Jd:=itoaB e.A++⟨#[45]⟩++itoaB e.B
noncomputable def gT (g:Zb):Jd:=tL g.Colors++⟨#[59]⟩++joinB (g.Edges.map eT) ⟨#[44]⟩
section
variable {g:Zb} (hg:ValidG g)
include hg
theorem ZsM {k:Int} (k0:0<=k) (k1:k<(Jk g.Edges:Int)):InR (ix g.Edges k).A/\InR (ix g.Edges k).B:=by
 have:=(hg.edg k k0 k1).1;have:=hg.cl;unfold InR;omega
theorem ZwU {k:Int} (k0:0<=k) (k1:k<(Jk g.Edges:Int)):(eT (ix g.Edges k)).size<=21:=by
 obtain ⟨h1,i⟩:=ZsM hg k0 k1;have:=Zbt h1;have:=Zbt i;unfold eT;rw [Z6,Z6];show _+1+_<=21;omega
theorem Zwv (i:Nat):(joinB ((g.Edges.take i).map eT) ⟨#[44]⟩).size<=22*512:=by
 refine jsize (xs:=g.Edges) (f:=eT) (s:=⟨#[44]⟩) (m:=21) (N:=512) (λx j=>?_) (by have:=hg.el;omega) i;obtain ⟨i,a,b,rfl⟩:=ZU j;exact ZwU hg a b
theorem ZNT:ZlL g=Jg (gT g):=by
 unfold ZlL;have af:=ZdI g.Colors;have ae:=hg.el;have f0:gFit (tL g.Colors) ⟨#[59]⟩=Jg ():=gFitW (by show _+1<=_;omega);have hP:(tL g.Colors++(⟨#[59]⟩:Jd)).size<=1101:=by rw [Z6];show _+1<=_;omega
 have hl:=ZBx g.Colors;have e:loop (Zge g) (tL g.Colors++(⟨#[59]⟩:Jd),0)=Jg (gT g):=by
  unfold gT;generalize tL g.Colors++(⟨#[59]⟩:Jd)=P at hP;have h:=Zj (B:=Zge g) (λk:Int=>(P++joinB ((g.Edges.take k.toNat).map eT) ⟨#[44]⟩,k)) (i:=0) (n:=g.Edges.length) Z λk k0 k1=>by
   obtain ⟨hA,hB⟩:=ZsM hg k0 k1;have dA:=Zgd (n:=(ix g.Edges k).A) (by have:=hA.1;omega) (by have:=hA.2;omega);have dB:=Zgd (n:=(ix g.Edges k).B) (by have:=hB.1;omega) (by have:=hB.2;omega);have zA:=Zbt hA;have zB:=Zbt hB;have hj:=Zwv hg k.toNat;have o:gFit (itoaB (ix g.Edges k).A) ⟨#[45]⟩=Jg ():=gFitW (by show _+1<=_;omega);have u:gFit (itoaB (ix g.Edges k).A++⟨#[45]⟩) (itoaB (ix g.Edges k).B)=Jg ():=gFitW (by rw [Z6];show _+1+_<=_;omega);have hz:(itoaB (ix g.Edges k).A++⟨#[45]⟩++itoaB (ix g.Edges k).B).size<=21:=ZwU hg k0 k1;have a3:eT (ix g.Edges k)=itoaB (ix g.Edges k).A++⟨#[45]⟩++itoaB (ix g.Edges k).B:=rfl;by_cases y:k=0
   .subst y;rw [Ztm Z,a3];have j:P++joinB ((g.Edges.take (0:Int).toNat).map eT) ⟨#[44]⟩=P:=W1;rw [j];have l:gFit P (itoaB (ix g.Edges 0).A++⟨#[45]⟩++itoaB (ix g.Edges 0).B)=Jg ():=gFitW Z;simp (disch:=omega) only [pz,Zge,ZgB,dA,dB,o,u,l]
   .rw [ZsX Z Z,a3];generalize joinB ((g.Edges.take k.toNat).map eT) ⟨#[44]⟩=J at hj;have ea:∀E:Jd,P++(J++⟨#[44]⟩++E)=P++J++⟨#[44]⟩++E:=λE=>by rw [<-W2,<-W2]
    rw [ea];have a8:(P++J).size<=20000:=by rw [Z6];omega
    generalize P++J=Q at a8 ⊢;have l:gFit Q ⟨#[44]⟩=Jg ():=gFitW (by show _+1<=_;omega);have f4:gFit (Q++⟨#[44]⟩) (itoaB (ix g.Edges k).A++⟨#[45]⟩++itoaB (ix g.Edges k).B)=Jg ():=gFitW (by rw [Z6];show _+1+_<=_;omega);simp (disch:=omega) only [pz,Zge,ZgB,dA,dB,o,u,l,f4]
  have j:(P,(0:Int))=(λk:Int=>(P++joinB ((g.Edges.take k.toNat).map eT) ⟨#[44]⟩,k)) 0:=by
   have a2:P++joinB ((g.Edges.take (0:Int).toNat).map eT) ⟨#[44]⟩=P:=W1;dsimp only;rw [a2]
  rw [j,h];refine Ze ?_;rw [Jp,Jx];simp (disch:=omega) only [pz,Zge]
 simp (disch:=omega) only [pz,hl,f0,e]
theorem ZNX:ZkF g=Jg (gT g):=by
 unfold ZkF;have aa:=ZdI g.Colors;have a7:=hg.el;have a9:=hg.cl;have hv:=(Zki (g:=g) Z Z).eq hg;have o:gFit (tL g.Colors) ⟨#[59]⟩=Jg ():=gFitW (by show _+1<=_;omega);have hP:(tL g.Colors++(⟨#[59]⟩:Jd)).size<=1101:=by rw [Z6];show _+1<=_;omega
 have hl:=Zkg g.Colors;have hj:=Zwv hg (Jk g.Edges);rw [Jx] at hj;have j:=Zkw (l:=g.Edges.map eT) (s:=⟨#[44]⟩) (by rw [Ju];omega) (JW hj (by decide));have e:loop (Zhf g) ([],0)=Jg (gT g):=by
  have h:=Zj (B:=Zhf g) (λk:Int=>((g.Edges.take k.toNat).map eT,k)) (i:=0) (n:=g.Edges.length) Z λk k0 k1=>by
   obtain ⟨hA,hB⟩:=ZsM hg k0 k1;have dA:=Zcx (n:=(ix g.Edges k).A) (by have:=hA.1;omega) (by have:=hA.2;omega);have dB:=Zcx (n:=(ix g.Edges k).B) (by have:=hB.1;omega) (by have:=hB.2;omega);have zA:=Zbt hA;have zB:=Zbt hB;have u:gFit (itoaB (ix g.Edges k).A) ⟨#[45]⟩=Jg ():=gFitW (by show _+1<=_;omega);have y:gFit (itoaB (ix g.Edges k).A++⟨#[45]⟩) (itoaB (ix g.Edges k).B)=Jg ():=gFitW (by rw [Z6];show _+1+_<=_;omega);have a5:eT (ix g.Edges k)=itoaB (ix g.Edges k).A++⟨#[45]⟩++itoaB (ix g.Edges k).B:=rfl;have a6:((g.Edges.take k.toNat).map eT).length<=512:=by rw [Ju,Jt];omega
   rw [Zej k0 k1,a5];generalize (g.Edges.take k.toNat).map eT=X at a6 ⊢;have a8:gApp 16 X [itoaB (ix g.Edges k).A++⟨#[45]⟩++itoaB (ix g.Edges k).B]=Jg (X++[itoaB (ix g.Edges k).A++⟨#[45]⟩++itoaB (ix g.Edges k).B]):=gApp1 Z Z;grind [pz,Zhf]
  refine h.trans (Ze ?_);rw [Jp,Jx];unfold gT;generalize joinB (g.Edges.map eT) ⟨#[44]⟩=J at hj j ⊢;have f3:gFit (tL g.Colors++⟨#[59]⟩) J=Jg ():=gFitW Z;grind [pz,Zhf]
 simp_all
end
theorem ZIx (B:Int):Zma B=Jg (decide (1<=B/\B<=20000)):=by
 simp [Zma,in_ok]
theorem Ztw (B:Int):ZfC B=Jg (decide (1<=B/\B<=20000)):=by
 simp [ZfC,Z4]
def s00:CSt:=⟨⟨[],[]⟩,[],0,0,Jj⟩
theorem ZEI {g:Zb} (hg:ValidG g) {B:Int} (h1:1<=B) (j:B<=20000):∃r,ZeU g B=Jg r/\ZfY g B=Jg r/\(r.2=0->1<=r.1.size):=by
 have am:=hg.cl;have aj:=hg.el;have ak:=(Zlu (g:=g) Z Z).eq hg;have al:=(Zki (g:=g) Z Z).eq hg;have af:=ZIx B;have ah:=Ztw B;rw [decide_eq_true (And.intro h1 j)] at af ah;have ag:=ZGR hg;have ad:=ZHV hg;have a4:=Zq7 hg;have a2:=Zno g;have a8:=ZDu (near:=nearM g) (c:=g.Colors) a4 a2.symm;have a3:=ZuL (near:=nearM g) (c:=g.Colors) a4 a2.symm;have hC:=Cel.ref (near:=nearM g) (cells:=g.Colors) a2.symm;have hi:CInv B 0 s00:=⟨by show (0:Int)<=0+0;omega,by show (0:Int)<=0;omega,by show (0:Int)<=0;omega,by show (0:Int)<=B;omega⟩
 have i:Bst g s00:=λh=>absurd rfl h;have hm:(nearM g).length+1<=fuel:=by unfold fuel;omega
 have hd:(nearM g).length<(nearM g).length+1+cnt (refN (nearM g) g.Colors):=Z;have rs:=Zul hg j ((nearM g).length+1) fuel (refN (nearM g) g.Colors) s00 0 hm hC hd Z hi i;have ri:=ZyV hg j ((nearM g).length+1) fuel (refN (nearM g) g.Colors) s00 0 hm hC hd Z hi i;obtain ⟨k,a7⟩:=ZnY (g:=g) a2 B ((nearM g).length+1) (refN (nearM g) g.Colors) s00 hC hd i;generalize srch g (nearM g) B ((nearM g).length+1) (refN (nearM g) g.Colors) s00=s at rs ri k a7;have eG:Zb.mk g.Colors g.Edges=g:=rfl;have u:spS g (nearM g) B s00=⟨g,nearM g,⟨[],[]⟩,[],0,0,B,Jj⟩:=rfl;have y:ipS g (nearM g) B s00=⟨⟨B,Jj⟩,g,nearM g,0,0,⟨[],[]⟩,[]⟩:=by
  show ZI.mk ⟨B-0,Jj⟩ _ _ _ _ _ _=_;rw [Int.sub_zero];rfl
 rw [u] at rs;rw [y] at ri;have a6:Zra ⟨g,nearM g,⟨[],[]⟩,[],0,0,B,Jj⟩ (refN (nearM g) g.Colors)=Jg (spS g (nearM g) B s):=rs;have a5:Zqe ⟨⟨B,Jj⟩,g,nearM g,0,0,⟨[],[]⟩,[]⟩ (refN (nearM g) g.Colors)=Jg (ipS g (nearM g) B s):=ri;unfold ZeU ZfY Zm2 Zmg Zmo ZpN;generalize nearM g=near at ag ad a8 a3 a6 a5;generalize refN near g.Colors=c0 at a8 a3 a6 a5;by_cases hf:s.full=Ji
 .refine ⟨(⟨#[]⟩,5),?_,?_,λh=>by cases h⟩
  .simp_all [pz,spS]
  .simp_all [pz,ipS]
 .have hf:s.full=false:=by simpa using hf
  have o:=a7 hf;obtain ⟨p,hp,ae⟩:=k o;have a9:ValidG s.best:=by rw [ae];exact Znt hg hp
  have ts:=ZNT a9;have ti:=ZNX a9;have eB:Zb.mk s.best.Colors s.best.Edges=s.best:=rfl;have hx:gIdx s.perms 0=Jg (ix s.perms 0):=ZaO Z (by cases hh:s.perms with|nil=>exact absurd hh o|cons a l=>simp);refine ⟨(gT s.best,0),?_,?_,λ_=>by
   unfold gT;rw [Z6,Z6];show 1<=_+1+_;omega⟩
  .simp_all [pz,spS,eB]
  .simp_all [pz,ipS,eB]
theorem ZIZ {g:Zb} (j:Jk g.Colors<=1000000) (he:Jk g.Edges<=1000000) {B:Int} (h1:1<=B) (i:B<=20000):∃r,ZeU g B=Jg r/\ZfY g B=Jg r/\(r.2=0->1<=r.1.size):=by
 by_cases hg:ValidG g
 .exact ZEI hg h1 i
 .have l:=(Zlu (g:=g) Z Z).ne hg;have k:=(Zki (g:=g) Z Z).ne hg;have o:Zb.mk g.Colors g.Edges=g:=rfl;refine ⟨(⟨#[]⟩,1),?_,?_,λh=>by cases h⟩
  .simp_all [ZeU,Zmo,pz]
  .simp_all [ZfY,Zm2,Zmg,pz]
def bipR (v m:Int) (rel:Int->Int->Bool) (x:Int):List Zc:=((idP m).filter λi=>rel x i).map λi=>⟨x,v+i⟩
def bipK (v m:Int) (rel:Int->Int->Bool) (k:Int):List Zc:=(idP k).flatMap (bipR v m rel)
theorem Zk8 (v m:Int) (rel:Int->Int->Bool) (x:Int):(bipR v m rel x).length<=m.toNat:=by
 grind [bipR,Ju,Xf,idP,Zaj]
theorem Zus {v k:Int} {rel:Int->Int->Bool} {x:Int} (h:0<=k):bipR v (k+1) rel x=bipR v k rel x++(if rel x k=Ji then [⟨x,v+k⟩] else []):=by
 grind [bipR,idP,Z5]
theorem ZjS {v m k:Int} {rel:Int->Int->Bool} (h:0<=k):bipK v m rel (k+1)=bipK v m rel k++bipR v m rel k:=by
 simp_all [bipK,idP,Z5,XK]
theorem ZL2 {v m k:Int} {rel:Int->Int->Bool} {e:Zc}:e∈bipK v m rel k↔(0<=e.A/\e.A<k)/\∃i,(0<=i/\i<m)/\rel e.A i=Ji/\e.B=v+i:=by
 unfold bipK bipR;rw [Yk];constructor
 .rintro ⟨a,u,he⟩;obtain ⟨i,hi,rfl⟩:=List.mem_map.1 he;rw [Xr] at hi;exact ⟨Z2.1 u,i,Z2.1 hi.1,hi.2,rfl⟩
 .rintro ⟨h1,i,j,l,o⟩;refine ⟨e.A,Z2.2 h1,List.mem_map.2 ⟨i,List.mem_filter.2 ⟨Z2.2 j,l⟩,?_⟩⟩;cases e;grind
theorem ZCS (v m k:Int) (rel:Int->Int->Bool):(bipK v m rel k).Pairwise eLess:=by
 unfold bipK;rw [Yl];refine ⟨λa o=>?_,(ZcI k).imp λ{a b} l x i y j=>?_⟩
 .unfold bipR;rw [Yz];exact ((ZcI m).filter _).imp λh=>.inr ⟨rfl,by show v+_<v+_;omega⟩
 .unfold bipR at i j;obtain ⟨_,_,rfl⟩:=List.mem_map.1 i;obtain ⟨_,_,rfl⟩:=List.mem_map.1 j;exact .inl l
theorem pw_nd {l:List Zc} (h:l.Pairwise eLess):l.Nodup:=h.imp λ{a b} h e=>by subst e;unfold eLess at h;omega
def setE (v:Int) (sets:Ja) (k:Int):List Zc:=(idP k).flatMap λi=>(ix sets i).map λx=>⟨x,v+i⟩
theorem ZDn {v k:Int} {sets:Ja} (h:0<=k):setE v sets (k+1)=setE v sets k++(ix sets k).map λx=>⟨x,v+k⟩:=by
 simp_all [setE,idP,Z5,XK]
structure Sts (v:Int) (sets:Ja):Prop where
 v0:0<=v
 v1:v<=64
 m:(Jk sets:Int)<=4096
 len:∀s∈sets,Jk s<=64
 nd:∀s∈sets,s.Nodup
 rng:∀s∈sets,∀x∈s,0<=x/\x<v
section
variable {v:Int} {sets:Ja} (h:Sts v sets)
include h
theorem ZtT {e:Zc}:e∈setE v sets (Jk sets)↔∃i,(0<=i/\i<(Jk sets:Int))/\e.A∈ix sets i/\e.B=v+i:=by
 have _:=h;unfold setE;rw [Yk];constructor
 .rintro ⟨i,hi,he⟩;obtain ⟨x,j,rfl⟩:=List.mem_map.1 he;exact ⟨i,Z2.1 hi,j,rfl⟩
 .rintro ⟨i,hi,j,k⟩;refine ⟨i,Z2.2 hi,List.mem_map.2 ⟨e.A,j,?_⟩⟩;cases e;grind
theorem ZvN {e:Zc}:e∈setE v sets (Jk sets)↔e∈bipK v (Jk sets) (λx i=>decide (x∈ix sets i)) v:=by
 rw [ZtT h,ZL2];constructor
 .rintro ⟨i,hi,j,k⟩;have:=h.rng _ (Zl hi.1 hi.2) _ j;grind
 .grind
theorem ZMb:srtE ((setE v sets (Jk sets)).map mkE)=bipK v (Jk sets) (λx i=>decide (x∈ix sets i)) v:=by
 refine (Znx (ZCS _ _ _ _) λz=>?_).symm;have hm:∀e∈setE v sets (Jk sets),mkE e=e:=λe he=>by
  obtain ⟨i,hi,j,k⟩:=(ZtT h).1 he;have:=h.rng _ (Zl hi.1 hi.2) _ j;unfold mkE;cases e;grind
 rw [List.mem_map,<-ZvN h];grind
theorem ZMG:(setE v sets (Jk sets)).length=(bipK v (Jk sets) (λx i=>decide (x∈ix sets i)) v).length:=by
 refine List.Perm.length_eq ((List.perm_ext_iff_of_nodup ?_ (pw_nd (ZCS _ _ _ _))).2 λe=>ZvN h);unfold setE List.Nodup;rw [Yl];refine ⟨λi hi=>?_,(ZcI _).imp λ{a b} k x j y l e=>?_⟩
 .have hi:=Z2.1 hi;rw [Yz];refine (h.nd _ (Zl hi.1 hi.2)).imp λ{a b} k e=>k ?_;grind
 .grind
end
def cols (z o:Int):Jb:=tabl (z+o) λi=>if i<z then 0 else 1
theorem Zzg {z o:Int}:(cols z o).length=(z+o).toNat:=Zy
theorem ZIK {z o:Int} (u:0<=z) (y:0<=o) (h:z+o<=1000000):Zoh z o=Jg (cols z o):=by
 unfold Zoh;have a2:gMake 8 (0:Int) (Y.wrap (z+o)) (Y.wrap (z+o))=Jg (tabl (z+o) λi=>if z<=i/\i<z then 1 else 0):=by
  rw [wr64 Z Z,Zaq Z Z Z];congr 1;refine ZaP (by rw [JD,Zy]) λi j l=>?_;rw [JD] at l;rw [ZaZ j Z,ZL j Z,if_neg Z]
 rw [a2,Jr];have h1:=Zj (B:=Zog z o) (λk=>(k,tabl (z+o) λi=>if z<=i/\i<k then (1:Int) else 0)) (i:=z) (n:=z+o) Z λk k0 k1=>by
  have hs:(tabl (z+o) λi=>if z<=i/\i<k then (1:Int) else 0).set k.toNat 1=tabl (z+o) λi=>if z<=i/\i<k+1 then (1:Int) else 0:=by
   grind [Zak]
  grind [tabl,Zy,pz,Zog]
 rw [h1];have e:(tabl (z+o) λi=>if z<=i/\i<z+o then (1:Int) else 0)=cols z o:=ZX λi j l=>by
  omega
 grind [Ze,pz,Zog]
def nilG:Zb:=⟨[],[]⟩
theorem Zur {cs:Jb} {es:List Zc} (h:Jk es<=1000000):ZhT cs es=Jg (if (Jk cs:Int)>64 then (nilG,5) else if (Jk es:Int)>512 then (nilG,5) else (⟨cs,srtE (es.map mkE)⟩,0)):=by
 unfold ZhT Ztz;have hs:=ZwE h;by_cases c:(Jk cs:Int)>64
 .rw [if_pos c];simp (disch:=omega) only [pz,];rfl
 .by_cases d:(Jk es:Int)>512
  .rw [if_neg c,if_pos d];simp (disch:=omega) only [pz,];rfl
  .grind
def bipG (v m:Int) (rel:Int->Int->Bool):Zb×Int:=if v+m>64 then (nilG,5) else if ((bipK v m rel v).length:Int)>512 then (nilG,5) else (⟨cols v m,bipK v m rel v⟩,0)
theorem ZwN {v:Int} {sets:Ja} (h:Sts v sets):Zjs v sets=Jg (bipG v (Jk sets) λx i=>decide (x∈ix sets i)):=by
 unfold Zjs;have l:=h.v0;have a8:=h.v1;have hm:=h.m;obtain ⟨⟨a2,j⟩,⟨h1,y,h3⟩,h4⟩:=ZfJ (B:=ZlU v sets) (λk q=>q.2=k/\q.1=setE v sets k/\(Jk q.1:Int)<=64*k) (i:=0) (n:=sets.length) Z (s:=(([]:List Zc),(0:Int))) ⟨rfl,rfl,by simp⟩ λk q k0 k1 ⟨u,g2,g3⟩=>by
  obtain ⟨a2,j⟩:=q;dsimp only at u g2 g3;subst u;have ae:=h.len _ (Zl k0 k1);have af:=Zj (B:=Zix v j (ix sets j)) (λi=>(a2++((ix sets j).take i.toNat).map (λx=>Zc.mk x (v+j)),i)) (i:=0) (n:=(ix sets j).length) Z λi i0 i1=>by
   have hl:(a2++((ix sets j).take i.toNat).map (λx=>Zc.mk x (v+j))).length<=1000000:=by rw [Jo,Ju,Jt];omega
   have a4:((ix sets j).take (i+1).toNat).map (λx=>Zc.mk x (v+j))=_:=Zej i0 i1;rw [a4,<-Js];generalize a2++((ix sets j).take i.toNat).map (λx=>Zc.mk x (v+j))=X at hl ⊢;simp (disch:=omega) only [pz,Zix]
  have e0:(a2,(0:Int))=(λi:Int=>(a2++((ix sets j).take i.toNat).map (λx=>Zc.mk x (v+j)),i)) 0:=by simp
  have a3:loop (Zix v j (ix sets j)) (a2,0)=Jg (.inl (setE v sets (j+1),j+1)):=by
   grind [Ze,Jp,Jx,ZDn,pz,Zix]
  refine ⟨(setE v sets (j+1),j+1),by simp (disch:=omega) only [pz,ZlU,a3],rfl,rfl,?_⟩;grind [ZDn,Jo,Ju]
 dsimp only at h1 y h3;rw [h4];subst h1;have ag:=ZIK (z:=v) (o:=sets.length) l Z Z;have a5:=Zur (cs:=cols v (Jk sets)) (es:=a2) Z;have ah:=Zzg (z:=v) (o:=sets.length);have ai:=ZMG h;have hr:(if ((cols v (Jk sets)).length:Int)>64 then (nilG,(5:Int)) else if (Jk a2:Int)>512 then (nilG,5) else (⟨cols v (Jk sets),srtE (a2.map mkE)⟩,0))=bipG v (Jk sets) λx i=>decide (x∈ix sets i):=by
  grind [bipG,ZMb]
 rw [hr] at a5;refine Ze ?_;unfold ZlU;dsimp only;have e9:∀r:Zb×Int,(Zb.mk r.1.Colors r.1.Edges,r.2)=r:=λr=>rfl;simp_all [pz,Z0]
theorem ZPr {d:Zz} (h:Sts d.Points d.Blocks):Zl0 d=Jg (bipG d.Points (Jk d.Blocks) λx i=>decide (x∈ix d.Blocks i)):=by
 unfold Zl0 bipG;have j:=h.v0;have a4:=h.v1;have hm:=h.m;by_cases c:d.Points+(Jk d.Blocks:Int)>64
 .rw [if_pos c];simp (disch:=omega) only [pz,];rfl
 rw [if_neg c];have h1:=Zj (B:=Zir d) (λk=>(k,tabl k λi=>if i<d.Points then (0:Int) else 1)) (i:=0) (n:=d.Points) j λk k0 k1=>by
  have hl:(tabl k λi=>if i<d.Points then (0:Int) else 1).length<=64:=by rw [Zy];omega
  have a2:(tabl (k+1) λi=>if i<d.Points then (0:Int) else 1)=_:=Z5 k0;rw [if_pos k1] at a2;grind [tabl,pz,Zir]
 have h2:=Zj (B:=Zh0 d) (λk=>(k,tabl (d.Points+k) λi=>if i<d.Points then (0:Int) else 1)) (i:=0) (n:=d.Blocks.length) Z λk k0 k1=>by
  have hl:(tabl (d.Points+k) λi=>if i<d.Points then (0:Int) else 1).length<=64:=by rw [Zy];omega
  have a2:(tabl (d.Points+k+1) λi=>if i<d.Points then (0:Int) else 1)=_:=Z5 Z;rw [if_neg Z] at a2;grind [W3,tabl,pz,Zh0]
 generalize a6:(λ(x:Int) (i:Int)=>decide (x∈ix d.Blocks i))=rel;have a7:∀k:Int,0<=k->k<=d.Points->((bipK d.Points (Jk d.Blocks) rel k).length:Int)<=64*k:=by
  intro k k0 k1;obtain ⟨n,rfl⟩:∃n:Nat,k=n:=⟨k.toNat,by omega⟩
  clear k0;induction n with
  | zero=>simp [bipK,idP,tabl]
  | succ n ih=>
   grind [Zk8,ZjS,Jo]
 have y:=Zj (B:=Zfk d (cols d.Points (Jk d.Blocks))) (λk=>(k,bipK d.Points (Jk d.Blocks) rel k)) (i:=0) (n:=d.Points) j λk k0 k1=>by
  have ad:=a7 k k0 Z;have ac:=Zj (B:=ZhI d k) (λi=>(i,bipK d.Points (Jk d.Blocks) rel k++bipR d.Points i rel k)) (i:=0) (n:=d.Blocks.length) Z λi l i1=>by
   have hl:=Zk8 d.Points i rel k;have o:(bipK d.Points (Jk d.Blocks) rel k++bipR d.Points i rel k).length<=100000:=by rw [Jo];omega
   have a2:=Zus (v:=d.Points) (rel:=rel) (x:=k) l;have ab:=h.len _ (Zl l i1);have a5:=ZrL (s:=ix d.Blocks i) (v:=k) Z;have u:rel k i=decide (k∈ix d.Blocks i):=by rw [<-a6]
   by_cases cc:k∈ix d.Blocks i
   .have hh:=a5.eq cc;rw [if_pos (by rw [u];simpa using cc)] at a2;rw [a2,<-Js];generalize bipK d.Points (Jk d.Blocks) rel k++bipR d.Points i rel k=X at o ⊢;simp (disch:=omega) only [pz,ZhI,hh]
   .have hh:=a5.ne cc;rw [if_neg (by rw [u];simpa using cc),JL] at a2;grind [pz,ZhI]
  have e0:((0:Int),bipK d.Points (Jk d.Blocks) rel k)=(λi:Int=>(i,bipK d.Points (Jk d.Blocks) rel k++bipR d.Points i rel k)) 0:=by
   show _=((0:Int),_++bipR d.Points 0 rel k);rw [show bipR d.Points 0 rel k=[] from rfl,JL]
  grind [loop,ZhI,bipK,Ze,ZjS,pz,Zfk]
 have e1:((0:Int),([]:Jb))=(λk:Int=>(k,tabl k λi=>if i<d.Points then (0:Int) else 1)) 0:=rfl;have e2:((0:Int),tabl d.Points λi=>if i<d.Points then (0:Int) else 1)=(λk:Int=>(k,tabl (d.Points+k) λi=>if i<d.Points then (0:Int) else 1)) 0:=by
  simp
 have e3:((0:Int),([]:List Zc))=(λk:Int=>(k,bipK d.Points (Jk d.Blocks) rel k)) 0:=rfl;have k3:loop (Zfk d (cols d.Points (Jk d.Blocks))) (0,([]:List Zc))=Jg (.inr (.inr (if ((bipK d.Points (Jk d.Blocks) rel d.Points).length:Int)>512 then (nilG,5) else (⟨cols d.Points (Jk d.Blocks),bipK d.Points (Jk d.Blocks) rel d.Points⟩,0)))):=by
  rw [e3,y];refine Ze ?_;by_cases cc:((bipK d.Points (Jk d.Blocks) rel d.Points).length:Int)>512
  .rw [if_pos cc];simp (disch:=omega) only [pz,Zfk];rfl
  .rw [if_neg cc];grind [pz,Zfk]
 have k2:loop (Zh0 d) (0,tabl d.Points λi=>if i<d.Points then (0:Int) else 1)=Jg (.inr (if ((bipK d.Points (Jk d.Blocks) rel d.Points).length:Int)>512 then (nilG,5) else (⟨cols d.Points (Jk d.Blocks),bipK d.Points (Jk d.Blocks) rel d.Points⟩,0))):=by
  grind [Ze,Zh0,cols,pz,k3]
 have k1:loop (Zir d) (0,([]:Jb))=Jg (if ((bipK d.Points (Jk d.Blocks) rel d.Points).length:Int)>512 then (nilG,5) else (⟨cols d.Points (Jk d.Blocks),bipK d.Points (Jk d.Blocks) rel d.Points⟩,0)):=by
  grind [Ze,pz,Zir]
 simp (disch:=omega) only [pz,k1]
set_option linter.unusedSectionVars false
theorem ZvZ {l:Jb} {lo hi:Int} (h:Rising l lo hi) {i:Int} (k:0<=i):∀(d:Nat) (j:Int),j=i+1+d->j<(Jk l:Int)->ix l i<ix l j
 | 0,j,hj,hl=>by
  have:=(h j Z hl).2 Z;grind
 | d+1,j,hj,hl=>by
  have:=(h j Z hl).2 Z;have o:=ZvZ h k d (j-1) Z Z;omega
theorem ZHn {l:Jb} {lo hi:Int} (h:Rising l lo hi) {i j:Int} (k:0<=i) (h1:i<j) (o:j<(Jk l:Int)):ix l i<ix l j:=ZvZ h k (j-i-1).toNat j Z o
def cntB (bs:Ja) (p:Jb->Bool):Nat->Int
 | 0=>0
 | n+1=>cntB bs p n+if p (ix bs n) then 1 else 0
section
variable {d:Zz} (hv:ValidD d)
include hv
end
def wd (f:Zd) (q w:Int) (m:Ja):Nat->Int->Jb
 | 0,_=>tabl w λ_=>0
 | i+1,n=>tabl w λt=>sumA f (ix (wd f q w m i (n/q)) t) (mulA f (ix (ix m (i:Int)) t) (n%q)) 1
section
variable {f:Zd} {q:Int} {inv:Jb} (hF:Ff f q inv)
include hF
theorem add0 {a:Int} (a0:0<=a) (a1:a<q):sumA f a 0 1=a:=by
 have h:=hF.sub a 0 a0 a1 Z Z;rw [hF.z2 0 Z Z,hF.z2 a a0 a1] at h;exact h.symm
variable {w:Int} {m:Ja}
theorem Zg7 (w0:0<=w):∀(i:Nat) (n:Int),((wd f q w m i n).length:Int)=w
 | 0,_=>by rw [wd,Zy];omega
 | i+1,_=>by rw [wd,Zy];omega
theorem wd_in (w0:0<=w):∀(i:Nat) (n:Int),In q (wd f q w m i n)
 | 0,n=>λt j k=>by
  have:=Zg7 hF (m:=m) w0 0 n;have:=hF.q2;grind [wd,ZL]
 | i+1,n=>λt j k=>by
  have:=Zg7 hF (m:=m) w0 (i+1) n;rw [wd,ZL j Z];exact ZiF hF.fd hF.pw _ _ _
variable (hm:Mat q w m)
include hm
end
def wtN (r:Jb):Nat->Int
 | 0=>0
 | n+1=>wtN r n+if ix r (n:Int)=0 then 0 else 1
def wt (r:Jb):Int:=wtN r (Jk r)
theorem gAppV {xs:Ja} {y:Jb} (h:Jk xs<=100000):gApp 24 xs [y]=Jg (xs++[y]):=gApp1 Z Z
theorem ZIs {xs:Jb} (hl:Jk xs<=1000):ZkI xs=Jg (tabl (Jk xs) λt=>ix xs ((Jk xs:Int)-1-t)):=by
 unfold ZkI;have e:=Zj (B:=Zmx) (λi:Int=>(i,(Jk xs:Int)-1-i,tabl (Jk xs) λt=>if t<i\/(Jk xs:Int)-1-i<t then ix xs ((Jk xs:Int)-1-t) else ix xs t)) (i:=0) (n:=(Jk xs:Int)/2) Z λi j y=>by
  have hL:((tabl (Jk xs) λt=>if t<i\/(Jk xs:Int)-1-i<t then ix xs ((Jk xs:Int)-1-t) else ix xs t).length:Int)=Jk xs:=by rw [Zy];omega
  have x1:ix (tabl (Jk xs) λt=>if t<i\/(Jk xs:Int)-1-i<t then ix xs ((Jk xs:Int)-1-t) else ix xs t) i=ix xs i:=by rw [ZL j Z,if_neg Z]
  have x2:ix (tabl (Jk xs) λt=>if t<i\/(Jk xs:Int)-1-i<t then ix xs ((Jk xs:Int)-1-t) else ix xs t) ((Jk xs:Int)-1-i)=ix xs ((Jk xs:Int)-1-i):=by rw [ZL Z Z,if_neg Z]
  have hs:((tabl (Jk xs) λt=>if t<i\/(Jk xs:Int)-1-i<t then ix xs ((Jk xs:Int)-1-t) else ix xs t).set i.toNat (ix xs ((Jk xs:Int)-1-i))).set ((Jk xs:Int)-1-i).toNat (ix xs i)=tabl (Jk xs) λt=>if t<i+1\/(Jk xs:Int)-1-(i+1)<t then ix xs ((Jk xs:Int)-1-t) else ix xs t:=by
   rw [Zak (n:=(xs.length:Int)) (f:=λt=>if t<i\/(xs.length:Int)-1-i<t then ix xs ((xs.length:Int)-1-t) else ix xs t) (g:=λt=>if t<i+1\/(xs.length:Int)-1-i<t then ix xs ((Jk xs:Int)-1-t) else ix xs t) j Z (λt k l ht=>by
    omega) (by rw [if_pos Z])]
   grind [Zak]
  have ej:(Jk xs:Int)-1-i-1=(Jk xs:Int)-1-(i+1):=Z;generalize (tabl (Jk xs) λt=>if t<i\/(Jk xs:Int)-1-i<t then ix xs ((Jk xs:Int)-1-t) else ix xs t)=A at hL x1 x2 hs ⊢;have u:(A.set i.toNat (ix xs ((Jk xs:Int)-1-i))).length=Jk A:=JC;grind [pz,Zmx]
 have o:((0:Int),Y.wrap ((Jk xs:Int)-1),xs)=(λi:Int=>(i,(Jk xs:Int)-1-i,tabl (Jk xs) λt=>if t<i\/(Jk xs:Int)-1-i<t then ix xs ((Jk xs:Int)-1-t) else ix xs t)) 0:=by
  show _=((0:Int),_,_);rw [wr64 Z Z];congr 1;congr 1
  .omega
  .refine (Zbg xs).symm.trans (ZX λt k l=>?_);omega
 rw [o,e];have e1:(tabl (Jk xs) λt=>if t<(Jk xs:Int)/2\/(Jk xs:Int)-1-(Jk xs:Int)/2<t then ix xs ((Jk xs:Int)-1-t) else ix xs t)=tabl (Jk xs) λt=>ix xs ((Jk xs:Int)-1-t):=ZX λt k l=>by
  grind
 grind [Ze,pz,Zmx]
theorem pw_lo {p:Int} (hp:2<=p) {a b:Nat} (h:a<=b):pwN p a<=pwN p b:=by
 have:=ZkT hp (m:=a) (b-a);grind
theorem pwU {q:Int} (q2:2<=q) {k:Nat} (hk:k<=64) (h:pwN q k<=4096):Zbr q (k:Int) 4096=Jg (pwN q k):=by
 unfold Zbr;have e:=Zj (B:=Zbq q 4096) (λj:Int=>((k:Int)-j,pwN q j.toNat)) (i:=0) (n:=(k:Int)) Z λj l o=>by
  have h1:=pw_lo q2 (a:=j.toNat) (b:=k) Z;have u:=pw_lo q2 (a:=j.toNat+1) (b:=k) Z;have y:=Zbm (p:=q) q2 j.toNat;have h4:=Zbm (p:=q) q2 (j.toNat+1);have ee:(k:Int)-j-1=(k:Int)-(j+1):=Z;have e2:pwN q (j+1).toNat=pwN q j.toNat*q:=by rw [show (j+1).toNat=j.toNat+1 by omega];rfl
  have h5:pwN q j.toNat*q<=4096:=by have:pwN q (j.toNat+1)=pwN q j.toNat*q:=rfl;omega
  have h6:1<=pwN q j.toNat*q:=by have:pwN q (j.toNat+1)=pwN q j.toNat*q:=rfl;omega
  grind [pz,Zbq,Zfz]
 grind [pwN,Ze,pz,Zbq]
theorem ZEt {q:Int} (q2:2<=q) (q64:q<=64) {k:Nat} (hk:k<=64) {cs:Int} (h:loop (Zco q) ((k:Int),1)=Jg cs) (l:¬cs=0):pwN q k<=4096:=by
 have st:∀j:Nat,pwN q (j+1)=pwN q j*q:=λ_=>rfl;have o:((k:Int),(1:Int))=(λj:Int=>((k:Int)-j,pwN q j.toNat)) 0:=by simp [pwN]
 rw [o] at h;rcases Zbn (B:=Zco q) (λj:Int=>((k:Int)-j,pwN q j.toNat)) (λj=>4096<pwN q (j.toNat+1)) (i:=0) (n:=(k:Int)) Z (λj u y hn=>by
  have h3:=Zbm (p:=q) q2 j.toNat;have h4:=Zbm (p:=q) q2 (j.toNat+1);grind [pwN,pz,Zco]) with ⟨j,u,y,hj,hall,e⟩|⟨hall,_⟩
 .refine absurd ?_ l;have h3:=Zbm (p:=q) q2 j.toNat;have h6:pwN q j.toNat<=4096:=by
   by_cases hz:j=0
   .grind
   .have:=hall (j-1) Z Z;grind
  have h5:=st j.toNat;rw [h5] at hj;have h7:pwN q j.toNat*q<=4096*64:=J0 h6 q64 Z Z;have e1:loop (Zco q) ((k:Int)-j,pwN q j.toNat)=Jg 0:=by
   grind [Ze,pz,Zco]
  grind
 .by_cases hz:k=0
  .grind
  .have:=hall ((k:Int)-1) Z Z;grind
def cwN (ws:Ja) (w:Int) (m:Nat):Jb:=tabl (w+1) λy=>cntB ws (λr=>decide (wt r=y)) m
section
variable {f:Zd} {q:Int} {inv:Jb} (hF:Ff f q inv)
include hF
theorem ZFC {a b:Jb} (ha:In q a) (o:In q b) (hl:(Jk a:Int)<=64) (he:Jk b=Jk a):ZlA f a b=Jg (tabl (Jk a) λt=>sumA f (ix a t) (ix b t) 1):=by
 have hq:=hF.q64;have hp:=hF.fd.p2;unfold ZlA;have a6:=Zaq (b:=8) (z:=(0:Int)) (n:=(Jk a:Int)) Z Z Z;have e:=Zj (B:=Zfo f a b) (λt:Int=>(t,tabl (Jk a) λu=>if u<t then sumA f (ix a u) (ix b u) 1 else 0)) (i:=0) (n:=(Jk a:Int)) Z λt j k=>by
  obtain ⟨g1,g2⟩:=ha t j k;obtain ⟨g3,g4⟩:=o t j Z;have hL:((tabl (Jk a) λu=>if u<t then sumA f (ix a u) (ix b u) 1 else 0).length:Int)=Jk a:=by rw [Zy];omega
  have hs:(tabl (Jk a) λu=>if u<t then sumA f (ix a u) (ix b u) 1 else 0).set t.toNat (sumA f (ix a t) (ix b t) 1)=tabl (Jk a) λu=>if u<t+1 then sumA f (ix a u) (ix b u) 1 else 0:=by
   refine Zak j k (λu y l hu=>?_) (by rw [if_pos Z]);omega
  generalize (tabl (Jk a) λu=>if u<t then sumA f (ix a u) (ix b u) 1 else 0)=A at hL hs ⊢;by_cases hz:ix b t=0
  .grind [add0,pz,Zfo]
  .have hS:=ZrV hF.fd (a:=ix a t) (b:=ix b t) (c:=1) Z Z Z Z Z Z;grind [pz,Zfo]
 have e0:(tabl (Jk a) λu=>if u<(0:Int) then sumA f (ix a u) (ix b u) 1 else 0)=Jn (Jk a:Int).toNat 0:=by
  rw [Ze3];rfl
 have e1:(tabl (Jk a) λu=>if u<(Jk a:Int) then sumA f (ix a u) (ix b u) 1 else 0)=tabl (Jk a) λt=>sumA f (ix a t) (ix b t) 1:=ZX λu y l=>by rw [if_pos l]
 rw [e0,e1] at e;have e2:loop (Zfo f a b) (0,Jn (Jk a:Int).toNat 0)=Jg (tabl (Jk a) λt=>sumA f (ix a t) (ix b t) 1):=e.trans (Ze (by simp (disch:=omega) only [pz,Zfo]));grind
theorem ZGv {v w:Jb} {c:Int} (hv:In q v) (hw:In q w) (hl:(Jk v:Int)<=64) (he:Jk w=Jk v) (l:0<=c) (c1:c<q):
  Zc7 (tabs f q inv) v w c=Jg (tabl (Jk v) λt=>sumA f (ix v t) (mulA f (ix w t) c) 1):=by
 have hq:=hF.q64;unfold Zc7;have a3:=Zj (B:=ZcQ (tabs f q inv) w c) (λt=>(t,tabl (Jk v) λu=>if u<t then sumA f (ix v u) (mulA f (ix w u) c) 1 else ix v u)) (i:=0) (n:=v.length) Z λt j k=>by
  obtain ⟨g1,g2⟩:=hv t j k;obtain ⟨o,y⟩:=hw t j Z;have ac:(tabl (Jk v) λu=>if u<t then sumA f (ix v u) (mulA f (ix w u) c) 1 else ix v u).length=Jk v:=by rw [Zy];omega
  have a2:ix (tabl (Jk v) λu=>if u<t then sumA f (ix v u) (mulA f (ix w u) c) 1 else ix v u) t=ix v t:=by rw [ZL j k,if_neg Z]
  obtain ⟨m0,m1⟩:=Zb2 hF.fd hF.pw c (ix w t);have hs:(tabl (Jk v) λu=>if u<t then sumA f (ix v u) (mulA f (ix w u) c) 1 else ix v u).set t.toNat (sumA f (ix v t) (mulA f c (ix w t)) 1)=tabl (Jk v) λu=>if u<t+1 then sumA f (ix v u) (mulA f (ix w u) c) 1 else ix v u:=by
   apply Zak j k
   .omega
   .rw [if_pos Z,hF.comm c _ l c1 o y]
  have i2:gIdx (tabs f q inv).qadd (ix v t)=Jg (tabl q λb=>sumA f (ix v t) b 1):=by rw [ZBA,Zax g1 g2]
  have i3:gIdx (tabs f q inv).qmul c=Jg (tabl q λb=>mulA f c b):=by rw [ZjR,Zax l c1]
  have i4:gIdx (tabl q λb=>mulA f c b) (ix w t)=Jg (mulA f c (ix w t)):=Zax o y;have i5:gIdx (tabl q λb=>sumA f (ix v t) b 1) (mulA f c (ix w t))=Jg (sumA f (ix v t) (mulA f c (ix w t)) 1):=Zax m0 m1;simp (disch:=omega) only [pz,ZcQ,a2,i2,i3,i4,i5,hs]
 have e0:((0:Int),v)=(λt=>(t,tabl (Jk v) λu=>if u<t then sumA f (ix v u) (mulA f (ix w u) c) 1 else ix v u)) 0:=by
  simp_all [Zbg,ZX,if_neg]
 rw [e0,a3];refine Ze ?_;have e1:(tabl (Jk v) λu=>if u<(Jk v:Int) then sumA f (ix v u) (mulA f (ix w u) c) 1 else ix v u)=tabl (Jk v) λt=>sumA f (ix v t) (mulA f (ix w t) c) 1:=ZX λt j k=>by rw [if_pos k]
 simp (disch:=omega) only [pz,ZcQ,e1]
variable {w:Int} {m:Ja} (hm:Mat q w m)
include hm
theorem ZJl (w0:0<=w) (m1:1<=(Jk m:Int)) (aj:∀{g:Zd},True) {n:Int} (n0:0<=n) (n1:n<=4096):
  ∃a2,ZjY n q (Jk m:Int)=Jg a2/\Znj (tabs f q inv) m a2=Jg (wd f q w m (Jk m) n):=by
 have y:=hF.q64;have o:=hF.q2;have ak:=hm.n;have a9:=hm.w1;have hd:=Zhq (p:=q) (a:=n) (k:=(Jk m:Int)) n0 Z o y Z Z;have a7:=ZaS (p:=q) (a:=n) (k:=(Jk m:Int)) Z;have hr:=ZIs (xs:=dig q (Jk m) n) Z;refine ⟨_,by unfold ZjY;rw [hd,Jr,hr,Jr],?_⟩;rw [a7];have u:=hm.len 0 Z Z;have a8:=Zaq (b:=8) (z:=(0:Int)) (n:=w) Z Z Z;generalize hM:(tabl (Jk m:Int) λt=>ix (dig q (Jk m) n) ((Jk m:Int)-1-t))=a2;have al:(Jk a2:Int)=Jk m:=by rw [<-hM,Zy];omega
 have a6:∀i,0<=i->i<(Jk m:Int)->ix a2 i=qd q n ((Jk m:Int)-(i+1)).toNat%q:=λi j l=>by
  grind [ZL,dig]
 have e:=Zj (B:=ZhW (tabs f q inv) m a2) (λi:Int=>(i,wd f q w m i.toNat (qd q n ((Jk m:Int)-i).toNat))) (i:=0) (n:=(Jk m:Int)) Z λi j l=>by
  have hx:=a6 i j l;have ao:=(ZeX (p:=q) n0 o ((Jk m:Int)-(i+1)).toNat).1;have c0:=Int.emod_nonneg (qd q n ((Jk m:Int)-(i+1)).toNat) (b:=q) Z;have c1:=Int.emod_lt_of_pos (qd q n ((Jk m:Int)-(i+1)).toNat) (b:=q) Z;have a5:=Zg7 hF (m:=m) w0 i.toNat (qd q n ((Jk m:Int)-i).toNat);have a4:=wd_in hF (m:=m) w0 i.toNat (qd q n ((Jk m:Int)-i).toNat);have am:=hm.len i j l;have hA:=ZGv hF (v:=wd f q w m i.toNat (qd q n ((Jk m:Int)-i).toNat)) (w:=ix m i) a4 (hm.rng i j l) Z Z c0 c1;have e2:qd q n ((Jk m:Int)-i).toNat=qd q n ((Jk m:Int)-(i+1)).toNat/q:=by
   rw [show ((m.length:Int)-i).toNat=((m.length:Int)-(i+1)).toNat+1 by omega];rfl
  have e3:wd f q w m (i+1).toNat (qd q n ((Jk m:Int)-(i+1)).toNat)=tabl w λt=>sumA f (ix (wd f q w m i.toNat (qd q n ((Jk m:Int)-i).toNat)) t) (mulA f (ix (ix m i) t) (qd q n ((Jk m:Int)-(i+1)).toNat%q)) 1:=by
   rw [show (i+1).toNat=i.toNat+1 by omega,wd,e2,show ((i.toNat:Nat):Int)=i by omega]
  rw [e3];rw [a5] at hA;have eT:Z7.mk (tabs f q inv).qq (tabs f q inv).qadd (tabs f q inv).qsub (tabs f q inv).qmul (tabs f q inv).qinv=tabs f q inv:=rfl;rw [<-hx] at hA ⊢;generalize tabs f q inv=T at hA eT ⊢;generalize wd f q w m i.toNat (qd q n ((Jk m:Int)-i).toNat)=V at hA ⊢;simp (disch:=omega) only [pz,ZhW,eT,hA]
 have e0:wd f q w m (0:Int).toNat (qd q n ((Jk m:Int)-0).toNat)=Jn w.toNat 0:=by
  rw [Ze3];rfl
 have e9:wd f q w m (Jk m:Int).toNat (qd q n ((Jk m:Int)-(Jk m:Int)).toNat)=wd f q w m (Jk m) n:=by
  rw [Int.sub_self,Jp];rfl
 rw [e0,e9] at e;have e1:loop (ZhW (tabs f q inv) m a2) (0,Jn w.toNat 0)=Jg (wd f q w m (Jk m) n):=e.trans (Ze (by simp (disch:=omega) only [pz,ZhW]));unfold Znj;simp (disch:=omega) only [pz,u,a8,e1]
theorem ZK9 (w0:0<=w) (j:1<=(Jk m:Int)) (hs:Zbf f=Jg q) (hN:pwN q (Jk m)<=4096):ZmW ⟨f,m⟩=Jg (tabl (pwN q (Jk m)) (wd f q w m (Jk m))):=by
 have a3:=hm.n;have ht:=ZAg hF hs;have hp:=pwU hF.q2 (k:=m.length) Z hN;have hP:=Zbm (p:=q) hF.q2 (Jk m);have e:=Zj (B:=ZiK ⟨f,m⟩ (tabs f q inv) (Jk m) (pwN q (Jk m))) (λn:Int=>(tabl n (wd f q w m (Jk m)),n)) (i:=0) (n:=pwN q (Jk m)) Z λn n0 n1=>by
  obtain ⟨a5,h1,l⟩:=ZJl hF hm w0 j (λ{_}=>trivial) n0 Z;have eT:Z7.mk (tabs f q inv).qq (tabs f q inv).qadd (tabs f q inv).qsub (tabs f q inv).qmul (tabs f q inv).qinv=tabs f q inv:=rfl;have u:(tabs f q inv).qq=q:=rfl;have a4:Z7.mk q (tabs f q inv).qadd (tabs f q inv).qsub (tabs f q inv).qmul (tabs f q inv).qinv=tabs f q inv:=rfl;have hl:(tabl n (wd f q w m (Jk m))).length=n.toNat:=Zy;grind [gAppV,tabl,wd,Z5,tabs,pz,ZiK]
 have o:loop (ZiK ⟨f,m⟩ (tabs f q inv) (Jk m) (pwN q (Jk m))) ([],0)=Jg (tabl (pwN q (Jk m)) (wd f q w m (Jk m))):=e.trans (Ze (by simp (disch:=omega) only [pz,ZiK]));have eF:Zd.mk f.Prime f.Degree f.Poly=f:=rfl;have u:(tabs f q inv).qq=q:=rfl;simp_all [ZmW,pz,Z0]
theorem ZIw (w0:0<=w) (m1:1<=(Jk m:Int)) (hs:ZaH f=Jg q) (hN:pwN q (Jk m)<=4096):Zj3 ⟨f,m⟩=Jg (tabl (pwN q (Jk m)) (wd f q w m (Jk m))):=by
 have aw:=hm.n;have a8:=hm.w1;have j:=hF.q2;have a3:=hF.q64;have eF:Zd.mk f.Prime f.Degree f.Poly=f:=rfl;have o:=hm.len 0 Z Z;have aj:=Zaq (b:=8) (z:=(0:Int)) (n:=w) Z Z Z;have e:=Zj (B:=Zgl ⟨f,m⟩ q) (λi:Int=>(tabl (pwN q i.toNat) (wd f q w m i.toNat),i)) (i:=0) (n:=(Jk m:Int)) Z λi u i1=>by
  have az:=hm.len i u i1;have ab:=hm.rng i u i1;have ac:=Zbm (p:=q) j i.toNat;have al:pwN q i.toNat*q<=4096:=by
   have h1:pwN q (i.toNat+1)=pwN q i.toNat*q:=rfl;have h2:=pw_lo j (a:=i.toNat+1) (b:=m.length) Z;omega
  have eP:pwN q (i+1).toNat=pwN q i.toNat*q:=by rw [show (i+1).toNat=i.toNat+1 by omega];rfl
  have hY:((tabl (pwN q i.toNat) (wd f q w m i.toNat)).length:Int)=pwN q i.toNat:=by rw [Zy];omega
  have a2:∀k,0<=k->k<pwN q i.toNat->ix (tabl (pwN q i.toNat) (wd f q w m i.toNat)) k=wd f q w m i.toNat k:=λk k0 k1=>ZL k0 k1;have hM:((tabl q λx=>scl f (ix m i) x).length:Int)=q:=by rw [Zy];omega
  have af:∀x,0<=x->x<q->ix (tabl q λx=>scl f (ix m i) x) x=scl f (ix m i) x:=λx x0 x1=>ZL x0 x1;rw [eP];generalize ah:tabl (pwN q i.toNat) (wd f q w m i.toNat)=Jf at hY a2 ⊢;generalize pwN q i.toNat=P at ac al hY a2 ah ⊢;have ay:P*1<=P*q:=XZ Z Z;have b4:∀k,0<=k->k<P->loop (Zgv ⟨f,m⟩ q Jf (tabl q λx=>scl f (ix m i) x) k) (tabl (k*q) (wd f q w m (i+1).toNat),0)=Jg (.inl (tabl ((k+1)*q) (wd f q w m (i+1).toNat),k+1)):=λk k0 k1=>by
   have ax:0<=k*q:=J8 k0 Z;have a9:(k+1)*q<=P*q:=XJ Z Z;have aa:(k+1)*q=k*q+q:=by rw [Y2,Y3]
   have e:=Zj (B:=Zgv ⟨f,m⟩ q Jf (tabl q λx=>scl f (ix m i) x) k) (λx:Int=>(tabl (k*q+x) (wd f q w m (i+1).toNat),x)) (i:=0) (n:=q) Z λx x0 x1=>by
    have hl:((tabl (k*q+x) (wd f q w m (i+1).toNat)).length:Int)=k*q+x:=by rw [Zy];omega
    have ak:=a2 k k0 k1;have ai:=af x x0 x1;have ad:=Zg7 hF (m:=m) w0 i.toNat k;have a6:=wd_in hF (m:=m) w0 i.toNat k;have b0:(scl f (ix m i) x).length=(ix m i).length:=Zjj;have a4:=ZFC hF (a:=wd f q w m i.toNat k) (b:=scl f (ix m i) x) a6 (ZnM hF) Z Z;have eW:(tabl ((wd f q w m i.toNat k).length:Int) λt=>sumA f (ix (wd f q w m i.toNat k) t) (ix (scl f (ix m i) x) t) 1)=wd f q w m (i+1).toNat (k*q+x):=by
     rw [show (i+1).toNat=i.toNat+1 by omega,wd,ad];have l:(k*q+x)/q=k:=by rw [Wb,Int.add_mul_ediv_right _ _ Z,Int.ediv_eq_zero_of_lt x0 x1];omega
     have e2:(k*q+x)%q=x:=by rw [Wb,Int.add_mul_emod_self_right,Int.emod_eq_of_lt x0 x1]
     rw [l,e2,show ((i.toNat:Nat):Int)=i by omega];refine ZX λt t0 t1=>?_;congr 1;exact ZL t0 Z
    rw [eW] at a4;have hg:=gAppV (xs:=tabl (k*q+x) (wd f q w m (i+1).toNat)) (y:=wd f q w m (i+1).toNat (k*q+x)) Z;rw [<-Z5 Z] at hg;have ea:k*q+(x+1)=k*q+x+1:=Z;rw [ea];simp (disch:=omega) only [pz,Zgv,ak,ai,eF,a4,hg]
   rw [Wc] at e;grind [Ze,pz,Zgv]
  have b3:loop (Zhn ⟨f,m⟩ q Jf i (tabl q λx=>scl f (ix m i) x)) ([],0)=Jg (.inr (.inl (tabl (P*q) (wd f q w m (i+1).toNat),i+1))):=by
   have e:=Zj (B:=Zhn ⟨f,m⟩ q Jf i (tabl q λx=>scl f (ix m i) x)) (λk:Int=>(tabl (k*q) (wd f q w m (i+1).toNat),k)) (i:=0) (n:=P) Z λk k0 k1=>by
    grind [pz,Zhn]
   rw [Int.zero_mul] at e;exact e.trans (Ze (by simp (disch:=omega) only [pz,Zhn]))
  have b2:loop (Zhe ⟨f,m⟩ q Jf i) ([],0)=Jg (.inl (tabl (P*q) (wd f q w m (i+1).toNat),i+1)):=by
   have e:=Zj (B:=Zhe ⟨f,m⟩ q Jf i) (λx:Int=>(tabl x λx=>scl f (ix m i) x,x)) (i:=0) (n:=q) Z λx x0 x1=>by
    have ae:=Zt6 hF ab Z x0 x1;have hl:((tabl x λx=>scl f (ix m i) x).length:Int)=x:=by rw [Zy];omega
    have hg:=gAppV (xs:=tabl x λx=>scl f (ix m i) x) (y:=scl f (ix m i) x) Z;rw [<-Z5 (f:=λx=>scl f (ix m i) x) x0] at hg;simp (disch:=omega) only [pz,Zhe,eF,ae,hg]
   exact e.trans (Ze (by simp (disch:=omega) only [pz,Zhe,b3]))
  grind [pz,Zgl]
 have e0:tabl (pwN q (0:Int).toNat) (wd f q w m (0:Int).toNat)=[Jn w.toNat 0]:=by
  rw [Ze3];rfl
 rw [e0,Jp] at e;have l:loop (Zgl ⟨f,m⟩ q) ([Jn w.toNat 0],0)=Jg (tabl (pwN q (Jk m)) (wd f q w m (Jk m))):=e.trans (Ze (by simp (disch:=omega) only [pz,Zgl]));unfold Zj3;simp (disch:=omega) only [pz,eF,o,aj,hs,l]
end
structure CodeV (o:Zf) (f:Zd) (inv:Jb):Prop where
 F:Ff f o.Size inv
 si:Zbf f=Jg o.Size
 ss:ZaH f=Jg o.Size
 M:VMat o.Size o.Rows
 r8:(Jk o.Rows:Int)<=8
 few:pwN o.Size (Jk o.Rows)<=4096
 form:ZeY f o.Rows=Jg o.Rows
 cs:Zbi o=Jg ⟨f,o.Rows⟩
 ci:ZbN o=Jg ⟨f,o.Rows⟩
 oks:ZaI ⟨f,o.Rows⟩=Jg Ji
 oki:Zb8 ⟨f,o.Rows⟩=Jg Ji
theorem ZJR {o:Zf} (hs:Sz2 o.Rows) (h:Zat o=Jg Ji) (hk:o.Kind=5):∃f inv,CodeV o f inv:=by
 obtain ⟨cs,ci,b,j,g2,k,g4⟩:=Zoa hs;have e2:ZM.mk (Zd.mk cs.Field.Prime cs.Field.Degree cs.Field.Poly) cs.Rows=cs:=rfl;have hb:Zat o=Jg b:=by unfold Zat;simp (disch:=omega) only [pz,j,e2,k]
 rw [h] at hb;obtain rfl:b=true:=(Option.some.inj hb).symm;rcases Zky o.Size with ⟨f,hm⟩|⟨h1,e,h2⟩
 .obtain ⟨inv,hF⟩:=Zk7 hm.gf;have eF:Zd.mk f.Prime f.Degree f.Poly=f:=rfl;have a1:Zbi o=Jg ⟨f,o.Rows⟩:=by
   have hp:=hF.fd.p2;unfold Zbi;rw [hm.split];simp (disch:=omega) only [pz,hm.mks,eF]
  have a2:ZbN o=Jg ⟨f,o.Rows⟩:=by
   unfold ZbN;rw [ZaN hs,hm.mki];rfl
  rw [a1] at j;rw [a2] at g2;obtain rfl:=Option.some.inj j;obtain rfl:=Option.some.inj g2;have l:=hF.q2;have i:=hF.q64;have hN:=hs.1;by_cases hV:VMat o.Size o.Rows
  .have u:=(Znp hm l i hs).eq hV;have n1:=hV.n1;have w2:=hV.w2;have w1:=hV.w1;by_cases h8:(Jk o.Rows:Int)<=8
   .obtain ⟨cs,ci,k1,k2,k3⟩:=Zmw l i (Jk o.Rows) 1 Z Z Z;have c1:Zeb o.Size (Jk o.Rows:Int)=Jg cs:=k1;by_cases hz:cs=0
    .have:ZaI ⟨f,o.Rows⟩=Jg false:=by
      unfold ZaI ZdT;simp (disch:=omega) only [pz,eF,u,hm.szs,c1]
     grind
    .have a5:=ZEt l i Z k1 hz;obtain ⟨R,piv,d,y,r2,r3,r4⟩:=Zoz hF hs hV.mat Z n1;obtain ⟨b,s1,s3⟩:=ZtD (a:=R) (b:=o.Rows) Z r4;have:ZaI ⟨f,o.Rows⟩=Jg b:=by
      unfold ZaI ZdT;simp (disch:=omega) only [pz,eF,u,hm.szs,c1,y,s1]
     rw [this] at k;rw [s3.1 (Option.some.inj k)] at y;exact ⟨f,inv,hF,hm.szi,hm.szs,hV,h8,a5,y,a1,a2,by rw [this,k],g4⟩
   .have:ZaI ⟨f,o.Rows⟩=Jg false:=by
     unfold ZaI ZdT;simp (disch:=omega) only [pz,eF,u]
    grind
  .have u:=(Znp hm l i hs).ne hV;simp_all [ZaI,ZdT,pz]
 .have a1:Zbi o=Jg ⟨⟨0,0,[]⟩,[]⟩:=by
   grind [Zbi,pz]
  rw [a1] at j;obtain rfl:=Option.some.inj j;have:ZaI ⟨⟨0,0,[]⟩,[]⟩=Jg false:=rfl;grind
theorem ZAJ {α:Type} {n:Int} {f:Int->α} {y:α} (h:y∈tabl n f):∃i,f i=y:=by
 unfold tabl at h;grind
def supp (r:Jb):Jb:=(idP (Jk r)).filter λx=>decide (¬ix r x=0)
theorem ZIP {r:Jb} (j:Jk r<=1000):Zlo r=Jg (supp r):=by
 unfold Zlo;have h:=Zj (B:=ZjA r) (λk=>((idP k).filter λx=>decide (¬ix r x=0),k)) (i:=0) (n:=r.length) Z λk k0 k1=>by
  have hl:((idP k).filter λx=>decide (¬ix r x=0)).length<=1000:=by
   grind [Xf,decide,ix,idP,Zaj]
  have hs:(idP (k+1)).filter (λx=>decide (¬ix r x=0))=((idP k).filter λx=>decide (¬ix r x=0))++(if ¬ix r k=0 then [k] else []):=by
   grind [idP,Z5,ix]
  rw [hs];generalize ((idP k).filter λx=>decide (¬ix r x=0))=X at hl ⊢;by_cases c:ix r k=0
  .rw [if_neg (Classical.not_not.2 c),JL];grind [pz,ZjA]
  .rw [if_pos c];grind [pz,ZjA]
 exact h.trans (Ze (by simp (disch:=omega) only [pz,ZjA];rfl))
theorem ZGW {v m k:Int} {j r2:Int->Int->Bool} (h:∀x i,0<=x->x<k->0<=i->i<m->j x i=r2 x i):bipK v m j k=bipK v m r2 k:=by
 unfold bipK;have:∀l:Jb,(∀x∈l,0<=x/\x<k)->l.flatMap (bipR v m j)=l.flatMap (bipR v m r2):=λl=>by
  induction l with
  | nil=>intro _;rfl
  | cons a l u=>
   intro hl;rw [Y7,Y7,u λx o=>hl x (.tail _ o)];grind [bipR,List.filter_congr,Z2]
 grind [Z2]
theorem ZNy {v m:Int} {j r2:Int->Int->Bool} (h:∀x i,0<=x->x<v->0<=i->i<m->j x i=r2 x i):bipG v m j=bipG v m r2:=by
 unfold bipG;rw [ZGW h]
section
variable {e:Jb} {ws:Ja} (he:(Jk e:Int)<=64) (hl:∀r∈ws,(Jk r:Int)=Jk e) (hi:∀r∈ws,In 2 r) (w1:1<=(Jk ws:Int)) (wN:(Jk ws:Int)<=4096)
include he hl hi w1 wN
theorem ZPx:Sts (Jk e) ((ws.drop 1).map supp) where
 v0:=Z
 v1:=he
 m:=by rw [Ju,JO];omega
 len:=λs hs=>by
  obtain ⟨r,j,rfl⟩:=List.mem_map.1 hs;grind [Ym,supp,Xf,decide,ix,idP,Zaj]
 nd:=λs hs=>by
  obtain ⟨r,j,rfl⟩:=List.mem_map.1 hs;exact (Zg0 _).filter _
 rng:=λs hs x i=>by
  obtain ⟨r,j,rfl⟩:=List.mem_map.1 hs;grind [Ym,supp,Z2]
theorem ZHN:(bif (Y.wrap ((Y.wrap ((Jk e:Int)+(Jk ws:Int)))-1):Int)>64 then
   Jg (((Zb.mk ([]:Jb) ([]:List Zc)),(5:Int)))
  else loop (Zfv e ws) (0,([]:Jb)))=Jg (bipG (Jk e) ((ws.drop 1).map supp).length λx i=>decide (x∈ix ((ws.drop 1).map supp) i)):=by
 have a4:(((ws.drop 1).map supp).length:Int)=(Jk ws:Int)-1:=by rw [Ju,JO];omega
 have a5:∀x i:Int,0<=x->x<(Jk e:Int)->0<=i->i<(Jk ws:Int)-1->decide (x∈ix ((ws.drop 1).map supp) i)=decide (ix (ix ws (i+1)) x=1):=λx i x0 x1 j o=>by
  have hm:ix ws (i+1)∈ws:=Zl Z Z;have h1:=hl _ hm;have l:=hi _ hm x x0 Z;rw [Zdx j (by rw [JO];omega),show ws.drop 1=ws.drop (1:Int).toNat from rfl,Zhh Z j,Wb 1 i];unfold supp;rw [decide_eq_decide,Xr,Z2,decide_eq_true_eq];omega
 rw [ZNy (r2:=λx i=>decide (ix (ix ws (i+1)) x=1)) (by rw [a4];exact a5),a4];generalize hR:(λ(x:Int) (i:Int)=>decide (ix (ix ws (i+1)) x=1))=rel;have v0:(0:Int)<=Jk e:=Z;generalize hv:(Jk e:Int)=v at *;generalize hm:(Jk ws:Int)-1=m at *;unfold bipG;by_cases c:v+m>64
 .rw [if_pos c];simp (disch:=omega) only [pz,];rfl
 rw [if_neg c];have h1:=Zj (B:=Zfv e ws) (λk=>(k,tabl k λi=>if i<v then (0:Int) else 1)) (i:=0) (n:=v) v0 λk k0 k1=>by
  have hl:(tabl k λi=>if i<v then (0:Int) else 1).length<=64:=by rw [Zy];omega
  have a2:(tabl (k+1) λi=>if i<v then (0:Int) else 1)=_:=Z5 k0;rw [if_pos k1] at a2;rw [a2];generalize (tabl k λi=>if i<v then (0:Int) else 1)=X at hl ⊢;simp (disch:=omega) only [pz,Zfv]
 have l:=Zj (B:=ZfD e ws) (λk=>(k,tabl (v+(k-1)) λi=>if i<v then (0:Int) else 1)) (i:=1) (n:=ws.length) Z λk k0 k1=>by
  have hl:(tabl (v+(k-1)) λi=>if i<v then (0:Int) else 1).length<=64:=by rw [Zy];omega
  have a2:(tabl (v+(k-1)+1) λi=>if i<v then (0:Int) else 1)=_:=Z5 Z;rw [if_neg Z] at a2;rw [show v+(k+1-1)=v+(k-1)+1 by omega,a2];generalize (tabl (v+(k-1)) λi=>if i<v then (0:Int) else 1)=X at hl ⊢;grind [pz,ZfD]
 have a8:∀k:Int,0<=k->k<=v->((bipK v m rel k).length:Int)<=64*k:=by
  intro k k0 k1;obtain ⟨n,rfl⟩:∃n:Nat,k=n:=⟨k.toNat,by omega⟩
  clear k0;induction n with
  | zero=>simp [bipK,idP,tabl]
  | succ n ih=>
   have:=ih Z;have l:=Zk8 v m rel (n:Int);rw [show ((n+1:Nat):Int)=(n:Int)+1 by omega,ZjS Z,Jo];omega
 have h3:=Zj (B:=ZfR e ws (cols v m)) (λk=>(k,bipK v m rel k)) (i:=0) (n:=v) v0 λk k0 k1=>by
  have aj:=a8 k k0 Z;have ai:=Zj (B:=ZfH e ws k) (λi=>(i,bipK v m rel k++bipR v (i-1) rel k)) (i:=1) (n:=ws.length) Z λi j o=>by
   have a6:=Zk8 v (i-1) rel k;have u:(bipK v m rel k++bipR v (i-1) rel k).length<=100000:=by rw [Jo];omega
   have a2:=Zus (v:=v) (rel:=rel) (x:=k) (k:=i-1) Z;have ah:=hl _ (Zl (xs:=ws) (i:=i) Z o);have y:rel k (i-1)=decide (ix (ix ws i) k=1):=by rw [<-hR];show decide (ix (ix ws (i-1+1)) k=1)=_;rw [Int.sub_add_cancel]
   have ei:i+1-1=i-1+1:=Z;have ew:v+i-1=v+(i-1):=Z;rw [ei];by_cases cc:ix (ix ws i) k=1
   .rw [if_pos (by rw [y];simpa using cc)] at a2;rw [a2,<-Js];generalize bipK v m rel k++bipR v (i-1) rel k=X at u ⊢;simp (disch:=omega) only [pz,ZfH,hv,ew]
   .rw [if_neg (by rw [y];simpa using cc),JL] at a2;grind [pz,ZfH]
  have e0:((1:Int),bipK v m rel k)=(λi:Int=>(i,bipK v m rel k++bipR v (i-1) rel k)) 1:=by
   show _=((1:Int),_++bipR v 0 rel k);rw [show bipR v 0 rel k=[] from rfl,JL]
  have a7:loop (ZfH e ws k) (1,bipK v m rel k)=Jg (.inl (k+1,bipK v m rel (k+1))):=by
   grind [Ze,ZjS,pz,ZfH]
  simp (disch:=omega) only [pz,ZfR,a7,hv]
 have e1:((0:Int),([]:Jb))=(λk:Int=>(k,tabl k λi=>if i<v then (0:Int) else 1)) 0:=rfl;have e2:((1:Int),tabl v λi=>if i<v then (0:Int) else 1)=(λk:Int=>(k,tabl (v+(k-1)) λi=>if i<v then (0:Int) else 1)) 1:=by
  show _=((1:Int),tabl (v+0) _);rw [Wc]
 have e3:((0:Int),([]:List Zc))=(λk:Int=>(k,bipK v m rel k)) 0:=rfl;have k3:loop (ZfR e ws (cols v m)) (0,([]:List Zc))=Jg (.inr (.inr (if ((bipK v m rel v).length:Int)>512 then (nilG,5) else (⟨cols v m,bipK v m rel v⟩,0)))):=by
  rw [e3,h3];refine Ze ?_;by_cases cc:((bipK v m rel v).length:Int)>512
  .rw [if_pos cc];simp (disch:=omega) only [pz,ZfR,hv];rfl
  .rw [if_neg cc];simp (disch:=omega) only [pz,ZfR,hv]
 have k2:loop (ZfD e ws) (1,tabl v λi=>if i<v then (0:Int) else 1)=Jg (.inr (if ((bipK v m rel v).length:Int)>512 then (nilG,5) else (⟨cols v m,bipK v m rel v⟩,0))):=by
  rw [e2,l];refine Ze ?_;rw [hm];show ZfD e ws ((Jk ws:Int),cols v m)=_;simp (disch:=omega) only [pz,ZfD,k3]
 have k1:loop (Zfv e ws) (0,([]:Jb))=Jg (if ((bipK v m rel v).length:Int)>512 then (nilG,5) else (⟨cols v m,bipK v m rel v⟩,0)):=by
  rw [e1,h1];exact Ze (by simp (disch:=omega) only [pz,Zfv,k2,hv])
 simp (disch:=omega) only [pz,k1]
end
theorem ZNU {o:Zf} (hs:Sz2 o.Rows) {f:Zd} {inv:Jb} (h:CodeV o f inv):∃r,Zhm ⟨f,o.Rows⟩=Jg r/\ZjF ⟨f,o.Rows⟩=Jg r/\(r=(nilG,6)\/∃v m rel,0<=v/\0<=m/\r=bipG v m rel):=by
 have eF:Zd.mk f.Prime f.Degree f.Poly=f:=rfl;have eC:ZM.mk f o.Rows=⟨f,o.Rows⟩:=rfl;have a5:=h.si;have a7:=h.ss;have ac:=h.oki;by_cases hq:o.Size=2
 .have n1:=h.M.n1;have w1:=h.M.w1;have w2:=h.M.w2;have hF:=h.F;have hM:=h.M.mat;have aa:=ZK9 hF hM Z n1 a5 h.few;have ae:=ZIw hF hM Z n1 a7 h.few;have al:=h.few;have hP:=Zbm (p:=o.Size) hF.q2 (Jk o.Rows);have a3:=hM.len 0 Z Z;generalize hW:tabl (pwN o.Size (Jk o.Rows)) (wd f o.Size (ix o.Rows 0).length o.Rows (Jk o.Rows))=W at aa ae;have ap:(Jk W:Int)=pwN o.Size (Jk o.Rows):=by rw [<-hW,Zy];omega
  have a4:∀r∈W,(Jk r:Int)=(ix o.Rows 0).length:=λr hr=>by
   rw [<-hW] at hr;obtain ⟨n,rfl⟩:=ZAJ hr;grind [Zg7]
  have ab:∀r∈W,In 2 r:=λr hr=>by
   rw [<-hW] at hr;obtain ⟨n,rfl⟩:=ZAJ hr;grind [wd_in,ix]
  clear hW;have hg:=ZHN (e:=ix o.Rows 0) (ws:=W) Z a4 ab Z Z;have ad:=ZwN (ZPx (e:=ix o.Rows 0) (ws:=W) Z a4 ab Z Z);have a6:=ZiQ (xs:=W) (lo:=1) Z Z;have eD:W.drop (1:Int).toNat=W.drop 1:=rfl;rw [eD] at a6;have ak:((W.drop 1).length:Int)=(Jk W:Int)-1:=by rw [JO];omega
  have j:∀r∈W.drop 1,(Jk r:Int)=(ix o.Rows 0).length:=λr hr=>a4 r (Ym hr);refine ⟨bipG (ix o.Rows 0).length ((W.drop 1).map supp).length λx i=>decide (x∈ix ((W.drop 1).map supp) i),?_,?_,.inr ⟨_,_,_,W4 (ix o.Rows 0).length,W4 ((W.drop 1).map supp).length,rfl⟩⟩
  .unfold Zhm;have l:Y.wrap (((ix o.Rows 0).length:Int)+(Jk W:Int))=(ix o.Rows 0).length+(Jk W:Int):=wr64 Z Z;have u:Y.wrap (((ix o.Rows 0).length:Int)+(Jk W:Int)-1)=(ix o.Rows 0).length+(Jk W:Int)-1:=wr64 Z Z;rw [l,u] at hg;simp (disch:=omega) only [pz,eF,a7,ae];exact hg
  .generalize W.drop 1=D at ad a6 ak j;have aj:=Zj (B:=ZgP ⟨f,o.Rows⟩ D) (λk=>((D.take k.toNat).map supp,k)) (i:=0) (n:=D.length) Z λk k0 k1=>by
    have hm:=j _ (Zl k0 k1);have ah:=ZIP (r:=ix D k) Z;have hl:((D.take k.toNat).map supp).length<=10000:=by rw [Ju,Jt];omega
    rw [Zej k0 k1];generalize (D.take k.toNat).map supp=X at hl ⊢;have ai:=gAppV (xs:=X) (y:=supp (ix D k)) Z;simp (disch:=omega) only [pz,ZgP,ah,ai]
   have af:loop (ZgP ⟨f,o.Rows⟩ D) ([],0)=Jg (bipG (ix o.Rows 0).length (D.map supp).length λx i=>decide (x∈ix (D.map supp) i)):=by
    refine aj.trans (Ze ?_);rw [Jp,Jx];have e9:∀r:Zb×Int,(Zb.mk r.1.Colors r.1.Edges,r.2)=r:=λr=>rfl;simp (disch:=omega) only [pz,ZgP,Zsw,Z1,ad,e9]
   unfold ZjF;simp (disch:=omega) only [pz,eF,ac,a5,aa,a6,af]
 .refine ⟨_,?_,?_,.inl rfl⟩
  .unfold Zhm;simp (disch:=omega) only [pz,eF,a7];rfl
  .unfold ZjF;simp (disch:=omega) only [pz,eF,ac,a5];rfl
def sqP (n:Int) (a:Ja) (l x y:Int):Bool:=decide (l=x\/l=n+y\/l=2*n+ix (ix a x) y)
def sqR (n:Int) (a:Ja) (l x k:Int):List Zc:=((idP k).filter λy=>sqP n a l x y).map λy=>⟨l,3*n+x*n+y⟩
def sqX (n:Int) (a:Ja) (l k:Int):List Zc:=(idP k).flatMap λx=>sqR n a l x n
def sqL (n:Int) (a:Ja) (k:Int):List Zc:=(idP k).flatMap λl=>sqX n a l n
def sqC (n:Int):Jb:=tabl (3*n+n*n) λv=>if v<3*n then v/n else 3
theorem ZMf {n l x k:Int} {a:Ja} (h:0<=k):sqR n a l x (k+1)=sqR n a l x k++(if sqP n a l x k=Ji then [⟨l,3*n+x*n+k⟩] else []):=by
 grind [sqR,idP,Z5,sqP]
theorem ZAj {n l k:Int} {a:Ja} (h:0<=k):sqX n a l (k+1)=sqX n a l k++sqR n a l k n:=by
 simp_all [sqX,idP,Z5,XK]
theorem Zyv {n k:Int} {a:Ja} (h:0<=k):sqL n a (k+1)=sqL n a k++sqX n a k n:=by
 simp_all [sqL,idP,Z5,XK]
theorem ZyG (n l x k:Int) (a:Ja):(sqR n a l x k).length<=k.toNat:=by
 grind [sqR,Ju,Xf,sqP,idP,Zaj]
theorem ZzG {n:Int} (i:n<=6) (l:Int) (a:Ja) (k:Nat):(sqX n a l k).length<=6*k:=by
 induction k with
 | zero=>simp [sqX,idP,tabl]
 | succ k j=>
  grind [ZyG,ZAj,Jo]
theorem ZBs {n:Int} (n0:0<=n) (i:n<=6) (a:Ja) (k:Nat):(sqL n a k).length<=36*k:=by
 induction k with
 | zero=>simp [sqL,idP,tabl]
 | succ k j=>
  have:=ZzG i k a n.toNat;grind [Zyv,Jo]
theorem ZxU {n k:Int} {a:Ja} {e:Zc}:e∈sqL n a k↔(0<=e.A/\e.A<k)/\∃x y,(0<=x/\x<n)/\(0<=y/\y<n)/\sqP n a e.A x y=Ji/\e.B=3*n+x*n+y:=by
 unfold sqL sqX sqR;rw [Yk];constructor
 .rintro ⟨l,hl,he⟩;obtain ⟨x,i,he⟩:=List.mem_flatMap.1 he;obtain ⟨y,j,rfl⟩:=List.mem_map.1 he;rw [Xr] at j;exact ⟨Z2.1 hl,x,y,Z2.1 i,Z2.1 j.1,j.2,rfl⟩
 .rintro ⟨h1,x,y,i,j,hp,o⟩;refine ⟨e.A,Z2.2 h1,List.mem_flatMap.2 ⟨x,Z2.2 i,List.mem_map.2 ⟨y,List.mem_filter.2 ⟨Z2.2 j,hp⟩,?_⟩⟩⟩;cases e;grind
theorem ZOv (n k:Int) (n0:0<=n) (a:Ja):(sqL n a k).Pairwise eLess:=by
 unfold sqL;rw [Yl];refine ⟨λl hl=>?_,(ZcI k).imp λ{l l'} a7 x i y hy=>?_⟩
 .unfold sqX;rw [Yl];refine ⟨λx i=>?_,(ZcI n).imp λ{x x'} aa u hu v hv=>?_⟩
  .unfold sqR;rw [Yz];exact ((ZcI n).filter _).imp λh=>.inr ⟨rfl,by show _+_<_+_;omega⟩
  .unfold sqR at hu hv;obtain ⟨y,hy,rfl⟩:=List.mem_map.1 hu;obtain ⟨y',a4,rfl⟩:=List.mem_map.1 hv;have h1:=Z2.1 (List.mem_filter.1 hy).1;have h2:=Z2.1 (List.mem_filter.1 a4).1;have j:(x+1)*n<=x'*n:=XJ Z n0;rw [Y2,Y3] at j;exact .inr ⟨rfl,by show 3*n+x*n+y<3*n+x'*n+y';omega⟩
 .have fA:∀{l:Int} {e:Zc},e∈sqX n a l n->e.A=l:=λhe=>by
   obtain ⟨x,i,he⟩:=List.mem_flatMap.1 he;obtain ⟨y,hy,rfl⟩:=List.mem_map.1 he;rfl
  have o:=fA i;have e2:=fA hy;exact .inl (by rw [o,e2];exact a7)
def sqT (n:Int) (a:Ja) (x y:Int):List Zc:=[⟨x,3*n+n*x+y⟩,⟨n+y,3*n+n*x+y⟩,⟨2*n+ix (ix a x) y,3*n+n*x+y⟩]
def sqU (n:Int) (a:Ja) (x k:Int):List Zc:=(idP k).flatMap λy=>sqT n a x y
def sqE (n:Int) (a:Ja) (k:Int):List Zc:=(idP k).flatMap λx=>sqU n a x n
theorem ZB6 {n x k:Int} {a:Ja} (h:0<=k):sqU n a x (k+1)=sqU n a x k++sqT n a x k:=by
 simp_all [sqU,idP,Z5,XK]
theorem Zuw {n k:Int} {a:Ja} (h:0<=k):sqE n a (k+1)=sqE n a k++sqU n a k n:=by
 simp_all [sqE,idP,Z5,XK]
theorem ZAN (n x:Int) (a:Ja) (k:Nat):(sqU n a x k).length=3*k:=by
 induction k with
 | zero=>simp [sqU,idP,tabl]
 | succ k j=>
  grind [ZB6,Jo,sqT]
theorem ZzN {n:Int} (n0:0<=n) (i:n<=6) (a:Ja) (k:Nat):(sqE n a k).length<=18*k:=by
 induction k with
 | zero=>simp [sqE,idP,tabl]
 | succ k j=>
  have:=ZAN n k a n.toNat;grind [Zuw,Jo]
section
variable {a:Ja} (h:ValidSq a) (h6:(Jk a:Int)<=6)
include h h6
theorem Zsc {x y:Int} (x0:0<=x) (x1:x<(Jk a:Int)) (i:0<=y) (k:y<(Jk a:Int)):((ix a x).length:Int)=Jk a/\0<=ix (ix a x) y/\ix (ix a x) y<(Jk a:Int):=by
 obtain ⟨l,r2,j⟩:=h.row _ (Zl x0 x1);have:=j.rng _ (Zl (xs:=ix a x) i Z);omega
theorem ZOx:srtE ((sqE (Jk a) a (Jk a)).map mkE)=sqL (Jk a) a (3*Jk a):=by
 have n1:=h.n1;have o:∀z:Zc,z∈sqE (Jk a) a (Jk a)↔z∈sqL (Jk a) a (3*Jk a):=λz=>by
  rw [ZxU];unfold sqE sqU sqT;rw [Yk];constructor
  .rintro ⟨x,i,hz⟩;obtain ⟨y,l,hz⟩:=List.mem_flatMap.1 hz;have i:=Z2.1 i;have l:=Z2.1 l;obtain ⟨_,j,k⟩:=Zsc h h6 i.1 i.2 l.1 l.2;rw [Xc,Xc,Y8] at hz;rcases hz with rfl|rfl|rfl
   .exact ⟨by dsimp only;omega,x,y,i,l,by simp [sqP],by show (_:Int)=_;simp only [];rw [X6 (a.length:Int) x]⟩
   .exact ⟨by dsimp only;omega,x,y,i,l,by simp [sqP],by show (_:Int)=_;simp only [];rw [X6 (a.length:Int) x]⟩
   .exact ⟨by dsimp only;omega,x,y,i,l,by simp [sqP],by show (_:Int)=_;simp only [];rw [X6 (a.length:Int) x]⟩
  .rintro ⟨h1,x,y,i,l,hp,u⟩;refine ⟨x,Z2.2 i,List.mem_flatMap.2 ⟨y,Z2.2 l,?_⟩⟩;unfold sqP at hp;rw [decide_eq_true_eq] at hp;rw [Xc,Xc,Y8];cases z;grind
 have hm:∀z∈sqE (Jk a) a (Jk a),mkE z=z:=λz hz=>by
  obtain ⟨h1,x,y,i,l,hp,u⟩:=ZxU.1 ((o z).1 hz);have a2:0<=x*(Jk a:Int):=J8 i.1 Z;unfold mkE;cases z;grind
 grind [Znx,ZOv]
theorem ZM0:Zj1 a Jj=Jg ⟨sqC (Jk a),sqL (Jk a) a (3*Jk a)⟩:=by
 unfold Zj1;have n1:=h.n1;have a8:(Jk a:Int)*Jk a<=36:=by
  have:=J0 h6 h6 Z (by omega:(0:Int)<=6);omega
 have o:0<=(Jk a:Int)*Jk a:=J8 Z Z;generalize j:(Jk a:Int)=n at n1 h6 a8 o ⊢;have h1:=Zj (B:=ZnD a Jj) (λk=>(k,tabl k λv=>if v<3*n then v/n else 3)) (i:=0) (n:=3*n) Z λk k0 k1=>by
  have hl:(tabl k λv=>if v<3*n then v/n else 3).length<=18:=by rw [Zy];omega
  have a2:(tabl (k+1) λv=>if v<3*n then v/n else 3)=_:=Z5 k0;rw [if_pos k1] at a2;have hd:Jw k n=k/n:=Xp k0;have ab:0<=k/n:=XI k0 Z;have ac:k/n<3:=YA Z Z;rw [a2];generalize (tabl k λv=>if v<3*n then v/n else 3)=X at hl ⊢;grind [pz,ZnD,Zlm]
 have h2:=Zj (B:=ZfG a) (λk=>(k,tabl (3*n+k) λv=>if v<3*n then v/n else 3)) (i:=0) (n:=n*n) Z λk k0 k1=>by
  have hl:(tabl (3*n+k) λv=>if v<3*n then v/n else 3).length<=54:=by rw [Zy];omega
  have a2:(tabl (3*n+k+1) λv=>if v<3*n then v/n else 3)=_:=Z5 Z;rw [if_neg Z] at a2;grind [W3,tabl,pz,ZfG]
 have h3:=Zj (B:=ZiZ a (sqC n)) (λk=>(k,sqL n a k)) (i:=0) (n:=3*n) Z λl l0 l1=>by
  have hL:=ZBs Z h6 a l.toNat;rw [show ((l.toNat:Nat):Int)=l by omega] at hL;have hx:=Zj (B:=Zho a l) (λx=>(x,sqL n a l++sqX n a l x)) (i:=0) (n:=n) Z λx x0 x1=>by
   have hX:=ZzG h6 l a x.toNat;rw [show ((x.toNat:Nat):Int)=x by omega] at hX;have a9:0<=x*n:=J8 x0 Z;have aa:x*n<=n*n:=XJ Z Z;have hy:=Zj (B:=Zdg a l x) (λy=>(y,sqL n a l++sqX n a l x++sqR n a l x y)) (i:=0) (n:=n) Z λy u y1=>by
    obtain ⟨e1,e2,e3⟩:=Zsc h Z x0 Z u (show y<(Jk a:Int) by omega);have hR:=ZyG n l x y a;have hl:(sqL n a l++sqX n a l x++sqR n a l x y).length<=100000:=by rw [Jo,Jo];omega
    have a2:=ZMf (n:=n) (l:=l) (x:=x) (a:=a) u;by_cases hp:l=x\/l=n+y\/l=2*n+ix (ix a x) y
    .rw [if_pos (by unfold sqP;simpa using hp)] at a2;rw [a2,<-Js];generalize sqL n a l++sqX n a l x++sqR n a l x y=X at hl ⊢;by_cases c1:l=x
     .simp (disch:=omega) only [pz,Zdg,ZcM,j]
     .by_cases c2:l=n+y
      .simp (disch:=omega) only [pz,Zdg,ZcM,j]
      .simp (disch:=omega) only [pz,Zdg,ZcM,j]
    .rw [if_neg (by unfold sqP;simpa using hp),JL] at a2;rw [a2];simp (disch:=omega) only [pz,Zdg,ZcM,j]
   have e0:((0:Int),sqL n a l++sqX n a l x)=(λy:Int=>(y,sqL n a l++sqX n a l x++sqR n a l x y)) 0:=by
    show _=((0:Int),_++sqR n a l x 0);rw [show sqR n a l x 0=[] from rfl,JL]
   have a3:loop (Zdg a l x) (0,sqL n a l++sqX n a l x)=Jg (.inl (x+1,sqL n a l++sqX n a l (x+1))):=by
    grind [Ze,ZAj,Js,pz,Zdg]
   grind [pz,Zho]
  have e0:((0:Int),sqL n a l)=(λx:Int=>(x,sqL n a l++sqX n a l x)) 0:=by
   show _=((0:Int),_++sqX n a l 0);rw [show sqX n a l 0=[] from rfl,JL]
  have a3:loop (Zho a l) (0,sqL n a l)=Jg (.inl (l+1,sqL n a (l+1))):=by
   rw [e0,hx];refine Ze ?_;rw [Zyv l0];simp (disch:=omega) only [pz,Zho,j]
  simp (disch:=omega) only [pz,ZiZ,j,a3]
 have e1:((0:Int),([]:Jb))=(λk:Int=>(k,tabl k λv=>if v<3*n then v/n else 3)) 0:=rfl;have e2:((0:Int),tabl (3*n) λv=>if v<3*n then v/n else 3)=(λk:Int=>(k,tabl (3*n+k) λv=>if v<3*n then v/n else 3)) 0:=by
  show _=((0:Int),tabl (3*n+0) _);rw [Wc]
 have e3:((0:Int),([]:List Zc))=(λk:Int=>(k,sqL n a k)) 0:=rfl;have k3:loop (ZiZ a (sqC n)) (0,([]:List Zc))=Jg (.inr (.inr ⟨sqC n,sqL n a (3*n)⟩)):=by
  rw [e3,h3];exact Ze (by simp (disch:=omega) only [pz,ZiZ,j])
 have k2:loop (ZfG a) (0,tabl (3*n) λv=>if v<3*n then v/n else 3)=Jg (.inr ⟨sqC n,sqL n a (3*n)⟩):=by
  rw [e2,h2];refine Ze ?_;show ZfG a (n*n,sqC n)=_;simp (disch:=omega) only [pz,ZfG,j,k3]
 rw [e1,h1];exact Ze (by simp (disch:=omega) only [pz,ZnD,j,k2])
theorem ZKZ (hs:Sz2 a):Zfp a Jj=Jg (⟨sqC (Jk a),sqL (Jk a) a (3*Jk a)⟩,0):=by
 unfold Zfp;have hv:=(ZeM hs).eq h;have n1:=h.n1;have ab:(Jk a:Int)*Jk a<=36:=by
  have:=J0 h6 h6 Z (by omega:(0:Int)<=6);omega
 have j:0<=(Jk a:Int)*Jk a:=J8 Z Z;have a5:=ZOx h h6;have a9:=ZzN Z h6 a (Jk a);generalize hn:(Jk a:Int)=n at n1 h6 ab j a5 a9 ⊢;have h1:=Zj (B:=Zjd a Jj n) (λk=>(tabl k λv=>if v<3*n then v/n else 3,k)) (i:=0) (n:=3*n+n*n) Z λk k0 k1=>by
  have hl:(tabl k λv=>if v<3*n then v/n else 3).length<=54:=by rw [Zy];omega
  have a4:(tabl (k+1) λv=>if v<3*n then v/n else 3)=_:=Z5 k0;have hd:Jw k n=k/n:=Xp k0;have a6:0<=k/n:=XI k0 Z;have a7:k/n<=k:=Int.ediv_le_self _ k0;have hw:Y.wrap (k/n)=k/n:=wr64 Z Z;have l:(if (3:Int)<k/n then 3 else k/n)=if k<3*n then k/n else 3:=by
   by_cases c:k<3*n
   .have o:k/n<3:=YA Z Z;omega
   .have o:3<=k/n:=Int.le_ediv_of_mul_le Z Z;omega
  rw [<-l] at a4;rw [a4];generalize (tabl k λv=>if v<3*n then v/n else 3)=X at hl ⊢;simp (disch:=omega) only [pz,Zjd,Zjm,hd,hw]
 have h2:=Zj (B:=ZhV a n (sqC n)) (λk=>(sqE n a k,k)) (i:=0) (n:=n) Z λx x0 x1=>by
  have hE:=ZzN Z h6 a x.toNat;rw [show ((x.toNat:Nat):Int)=x by omega] at hE;have a2:0<=n*x:=J8 Z x0;have a3:n*x<=n*n:=XZ Z Z;have hy:=Zj (B:=Zmb a n x) (λy=>(sqE n a x++sqU n a x y,y)) (i:=0) (n:=n) Z λy u y1=>by
   obtain ⟨e1,e2,e3⟩:=Zsc h Z x0 Z u (show y<(Jk a:Int) by omega);have hU:=ZAN n x a y.toNat;rw [show ((y.toNat:Nat):Int)=y by omega] at hU;have hl:(sqE n a x++sqU n a x y).length<=1000:=by rw [Jo];omega
   have a4:=ZB6 (n:=n) (x:=x) (a:=a) u;rw [a4,<-Js];generalize sqE n a x++sqU n a x y=X at hl ⊢;have a8:gApp 16 X (sqT n a x y)=Jg (X++sqT n a x y):=ZaE (by simp [sqT];omega) (by simp [sqT];omega);unfold sqT at a8 ⊢;simp (disch:=omega) only [pz,Zmb,a8]
  have e0:(sqE n a x,(0:Int))=(λy:Int=>(sqE n a x++sqU n a x y,y)) 0:=by
   show _=(_++sqU n a x 0,(0:Int));rw [show sqU n a x 0=[] from rfl,JL]
  grind [loop,Zmb,sqE,Ze,Zuw,pz,ZhV]
 have e1:(([]:Jb),(0:Int))=(λk:Int=>(tabl k λv=>if v<3*n then v/n else 3,k)) 0:=rfl;have e3:(([]:List Zc),(0:Int))=(λk:Int=>(sqE n a k,k)) 0:=rfl;have ah:(sqC n).length=(3*n+n*n).toNat:=Zy;have aa:=Zur (cs:=sqC n) (es:=sqE n a n) Z;rw [if_neg Z,if_neg Z,a5] at aa;have k3:loop (ZhV a n (sqC n)) (([]:List Zc),0)=Jg (.inr (⟨sqC n,sqL n a (3*n)⟩,0)):=by
  grind [Ze,pz,ZhV]
 have k1:loop (Zjd a Jj n) (([]:Jb),0)=Jg (⟨sqC n,sqL n a (3*n)⟩,0):=by
  grind [Ze,Zjd,sqC,pz,k3]
 grind [pz,Z0]
end
theorem ZGt {a:Ja} (h:ValidSq a) (hs:Sz2 a):∃r,Ziz a Jj=Jg r/\Zfp a Jj=Jg r/\(Jk r.1.Colors)<=64/\(Jk r.1.Edges)<=1000:=by
 have i:=(Zr0 hs).eq h;have n1:=h.n1;by_cases h6:(Jk a:Int)<=6
 .have s:=ZM0 h h6;have j:(Jk a:Int)*Jk a<=36:=by
   have:=J0 h6 h6 Z (by omega:(0:Int)<=6);omega
  have hl:=ZBs (n:=a.length) Z h6 a (3*Jk a);refine ⟨_,?_,ZKZ h h6 hs,?_,?_⟩
  .unfold Ziz;simp (disch:=omega) only [pz,i,s]
  .show (sqC (Jk a)).length<=64;unfold sqC;rw [Zy];omega
  .show (sqL (Jk a) a (3*Jk a)).length<=1000;rw [show ((3*a.length:Nat):Int)=3*(a.length:Int) by omega] at hl;omega
 .refine ⟨(nilG,5),?_,?_,by simp [nilG],by simp [nilG]⟩
  .unfold Ziz;simp (disch:=omega) only [pz,i];rfl
  .unfold Zfp;have hv:=(ZeM hs).eq h;simp (disch:=omega) only [pz,hv,Z0];rfl
theorem ZvO {l:Jb} {hi:Int} (h:Rising l 0 hi):∀n:Nat,(n:Int)<Jk l->(n:Int)<=ix l n
 | 0,i=>(h 0 Z i).1.1
 | n+1,i=>by
  have:=ZvO h n Z;have j:=(h ((n+1:Nat):Int) Z i).2 Z;grind
theorem ZMS {l:Jb} {lo hi:Int} (h:Rising l lo hi):l.Nodup:=by
 unfold List.Nodup;rw [List.pairwise_iff_getElem];intro i j hi hj u;have h1:=ZHn h (i:=(i:Int)) (j:=(j:Int)) Z Z Z;have k:=Z3 (xs:=l) (i:=(i:Int)) Z Z;have o:=Z3 (xs:=l) (i:=(j:Int)) Z Z;grind
theorem ZHY {d:Zz} (h:ValidD d):Sts d.Points d.Blocks where
 v0:=by have:=h.p1;omega
 v1:=by have:=h.p2;omega
 m:=by have:=h.len;omega
 len:=λs hs=>by
  obtain ⟨k,k0,k1,rfl⟩:=ZU hs;have hr:=(h.blk k k0 k1).2;have u:=h.p2;by_cases hz:(ix d.Blocks k).length=0
  .omega
  .have y:=ZvO hr ((ix d.Blocks k).length-1) Z;have h4:=(hr (((ix d.Blocks k).length-1:Nat):Int) Z Z).1.2;omega
 nd:=λs hs=>by
  obtain ⟨k,k0,k1,rfl⟩:=ZU hs;exact ZMS (h.blk k k0 k1).2
 rng:=λs hs x i=>by
  obtain ⟨k,k0,k1,rfl⟩:=ZU hs;obtain ⟨j,l,o,rfl⟩:=ZU i;have:=((h.blk k k0 k1).2 j l o).1;omega
theorem ZAM {v m:Int} {rel:Int->Int->Bool} (v0:0<=v) (i:0<=m):(bipG v m rel).1.Colors.length<=1000/\(bipG v m rel).1.Edges.length<=1000:=by
 unfold bipG;by_cases c:v+m>64
 .rw [if_pos c];exact ⟨J4 _,J4 _⟩
 .rw [if_neg c];by_cases d:((bipK v m rel v).length:Int)>512
  .rw [if_pos d];exact ⟨J4 _,J4 _⟩
  .rw [if_neg d];grind [Zzg,cols,bipK]
theorem ZIg {o:Zf} (hs:Sz2 o.Rows) (hv:Zat o=Jg Ji) (hi:Zar o=Jg Ji):∃r,ZcC o=Jg r/\Zdm o=Jg r/\(Jk r.1.Colors)<=1000/\(Jk r.1.Edges)<=1000:=by
 have e:Zf.mk o.Kind o.Size o.Rows=o:=rfl;have eG:∀r:Zb×Int,(Zb.mk r.1.Colors r.1.Edges,r.2)=r:=λr=>rfl;have eH:∀r:Zb,Zb.mk r.Colors r.Edges=r:=λr=>rfl;have hN:=hs.1;by_cases h1:o.Kind=1
 .have j:ValidSq o.Rows:=by
   refine Classical.byContradiction λl=>?_;have j:=(Zr0 hs).ne l;grind [Zat,pz]
  obtain ⟨r,u,y,k,g4⟩:=ZGt j hs;refine ⟨r,?_,?_,by omega,g4⟩
  .simp_all [ZcC,pz]
  .simp_all [Zdm,pz]
 by_cases h2:o.Kind=2
 .have j:ValidD ⟨o.Size,o.Rows⟩:=by
   refine Classical.byContradiction λl=>?_;have j:=(Zp7 (d:=⟨o.Size,o.Rows⟩) hs).ne l;grind [Zat,pz]
  have a2:=ZHY j;have u:=ZPr a2;have y:=ZwN a2;have k:=(Zoc (d:=⟨o.Size,o.Rows⟩) hs).eq j;have a4:0<=o.Size:=a2.v0;obtain ⟨z1,z2⟩:=ZAM (v:=o.Size) (m:=(Jk o.Rows:Int)) (rel:=λx i=>decide (x∈ix o.Rows i)) a4 Z;refine ⟨bipG o.Size (Jk o.Rows) λx i=>decide (x∈ix o.Rows i),?_,?_,z1,z2⟩
  .simp_all [ZcC,pz]
  .simp_all [Zdm,pz,ZdS,ZaN,ZqO]
 by_cases h5:o.Kind=5
 .obtain ⟨f,inv,hc⟩:=ZJR hs hv h5;obtain ⟨r,u,y,k⟩:=ZNU hs hc;have aa:=hc.cs;have a9:=hc.ci;have eF:Zd.mk f.Prime f.Degree f.Poly=f:=rfl;have hz:Jk r.1.Colors<=1000/\(Jk r.1.Edges)<=1000:=by
   rcases k with rfl|⟨v,m,rel,v0,m0,rfl⟩
   .exact ⟨J4 _,J4 _⟩
   .exact ZAM v0 m0
  refine ⟨r,?_,?_,hz⟩
  .simp_all [ZcC,pz]
  .simp_all [Zdm,pz]
 by_cases h6:o.Kind=6
 .obtain ⟨r,u,y,k,g4⟩:=ZkD hs;have hr:r.2=true:=by
   grind [Zat,pz,Option.some.inj]
  have hz:=k hr;refine ⟨(r.1,0),?_,?_,by dsimp only;omega,by dsimp only;omega⟩
  .simp_all [ZcC,pz]
  .simp_all [Zdm,pz,ZsQ,ZrF]
 .refine ⟨(nilG,6),?_,?_,J4 _,J4 _⟩
  .unfold ZcC;simp (disch:=omega) only [pz,];rfl
  .unfold Zdm;simp (disch:=omega) only [pz,];rfl
theorem ZLl {o:Zf} (hs:Sz2 o.Rows) (B:Int):∃r,Zlj o B=Jg r/\Zlr o B=Jg r/\(r.2=0->1<=r.1.size):=by
 have e:Zf.mk o.Kind o.Size o.Rows=o:=rfl;obtain ⟨c,h1,j⟩:=Zji hs;unfold Zlj Zlr;have k:=in_ok B 1 20000;have i:=Ztw B;cases c
 .simp_all
 by_cases hB:1<=B/\B<=20000
 .rw [decide_eq_true hB] at k i;obtain ⟨r,l,u,y,g4⟩:=ZIg hs h1 j;have eH:∀r:Zb,Zb.mk r.Colors r.Edges=r:=λr=>rfl;by_cases hc:r.2=0
  .obtain ⟨x,k1,k2,k3⟩:=ZIZ (g:=r.1) Z Z hB.1 hB.2;simp_all
  .simp_all [pz,absurd]
 .simp_all
theorem ZBW {o:Zf} (hs:Sz2 o.Rows) (B:Int):∃r,ZjN o B=Jg r/\Zks o B=Jg r/\(r.2=0->1<=r.1.size/\r.1.size<=4000):=by
 have e:Zf.mk o.Kind o.Size o.Rows=o:=rfl;obtain ⟨q,h1,i,j⟩:=ZLl hs B;unfold ZjN Zks;by_cases c:q.2=0
 .by_cases d:(q.1.size:Int)>4000
  .simp_all
  .exact ⟨(q.1,0),by simp (disch:=omega) only [pz,h1],by simp (disch:=omega) only [pz,e,i],λ_=>⟨j c,by show q.1.size<=4000;omega⟩⟩
 .simp_all [pz,absurd]
theorem ZLH {c:List Zh} {x:Zh} (hN:(Jk c:Int)<=1048576):∃r:Int,Zl6 c x=Jg r/\(r=-1/\(∀j,0<=j->j<(Jk c:Int)->¬Like (ix c j) x)\/0<=r/\r<(Jk c:Int)/\Like (ix c r) x/\∀j,0<=j->j<r->¬Like (ix c j) x):=by
 unfold Zl6 Zrt;obtain ⟨r,h2,u⟩:=ZzW (xs:=c) (B:=ZmI c (λi=>Zmc i x)) (f:=λi=>Zmc i x) (q:=λy=>Like x y) (by unfold M63;omega) (λy _=>(ZHW x y).bind_id)
  (λk y hy=>by
   grind [Zan,pz,ZmI,Zaa])
  (by simp (disch:=omega) only [pz,ZmI])
 have sy:∀{a b:Zh},Like a b->Like b a:=λh=>⟨h.1.symm,h.2.symm⟩
 refine ⟨r,?_,?_⟩
 .grind
 .rcases u with ⟨o,l⟩|⟨k,y,o,l,h6,h7⟩
  .grind [Zl]
  .have hk:=Zan l;subst o;refine .inr ⟨by omega,by omega,by rw [Zaa l];exact sy h6,λj a b g=>?_⟩;obtain ⟨m,rfl⟩:=Xz a;exact h7 m _ Z (Z3 a Z) (sy g)
open Go Go.Vc Go.Lib
section
variable {B:Int} {ls:(List Jd)×Int} (hl:(Jk ls.1:Int)<=24)
include hl
theorem ZE2 {xs:List Zh} {i:Int} {n:Jd} {o:Zf} (hi:(Jk xs:Int)=i) (h0:0<=i) (h1:i<(Jk ls.1:Int)) (ho:Sz2 o.Rows) (hr:ZaF (ix ls.1 i)=Jg (n,o,0)):
  ∃z,ZeL B ls (i,xs)=Jg z/\((∃c:Int,¬c=0/\z=.inr (⟨[]⟩,c))\/∃y:Zh,z=.inl (i+1,xs++[y])):=by
 have e:Zf.mk o.Kind o.Size o.Rows=o:=rfl;obtain ⟨q,_,k2,_⟩:=ZBW ho B;obtain ⟨r,l,r2⟩:=ZLH (c:=xs) (x:=Zh.mk n o q.1) Z;obtain ⟨z,z1,z2⟩:∃z,ZhF B i xs (n,o,0)=Jg z/\((∃c:Int,¬c=0/\z=.inr (⟨[]⟩,c))\/∃y:Zh,z=.inl (i+1,xs++[y])):=by
  unfold ZhF;by_cases j:q.2=0
  .rcases r2 with ⟨rfl,no⟩|⟨r3,_⟩
   .exact ⟨.inl (i+1,xs++[Zh.mk n o q.1]),by simp (disch:=omega) only [pz,e,k2,j,l],.inr ⟨_,rfl⟩⟩
   .simp_all
  .exact ⟨.inr (⟨[]⟩,q.2),by simp (disch:=omega) only [pz,e,k2],.inl ⟨_,j,rfl⟩⟩
 unfold ZeL;by_cases hp:0<i
 .have k:=@bl_or n (ix xs (i-1)).Name;cases u:Op.bytesLess (ix xs (i-1)).Name.toList n.toList with
  | true=>
   grind [pz]
  | false=>
   rw [u] at k;exact ⟨.inr (⟨[]⟩,7),by simp (disch:=omega) only [pz,hr,k],.inl ⟨_,by decide,rfl⟩⟩
 .exact ⟨z,by simp (disch:=omega) only [pz,hr,z1],z2⟩
theorem ZGG {xs:List Zh} {i:Int} {y:Jd×Zf×Int} (j:0<=i) (h1:i<(Jk ls.1:Int)) (l:¬y.2.2=0) (k:ZaF (ix ls.1 i)=Jg y):
  ZeL B ls (i,xs)=Jg (.inr (⟨[]⟩,y.2.2)):=by
 have _:=hl;unfold ZeL;simp (disch:=omega) only [pz,k]
theorem ld_go {k:Int} (hg:∀j,0<=j->j<k->∃n o,Sz2 (Zf.Rows o)/\ZaF (ix ls.1 j)=Jg (n,o,0)) (hk:k<(Jk ls.1:Int)) (u:∃y,ZaF (ix ls.1 k)=Jg y/\¬y.2.2=0):∀(m:Nat) (i:Int) (xs:List Zh),i+m=k->0<=i->(Jk xs:Int)=i ->
  ∃r,loop (ZeL B ls) (i,xs)=Jg r/\¬r.2=0
 | 0,i,xs,e,l,hi=>by
  obtain rfl:i=k:=Z;obtain ⟨y,y1,y2⟩:=u;exact ⟨_,Ze (ZGG (B:=B) hl l hk y2 y1),y2⟩
 | m+1,i,xs,e,l,hi=>by
  obtain ⟨n,o,o1,o2⟩:=hg i l Z;obtain ⟨z,z1,⟨c,c0,rfl⟩|⟨y,rfl⟩⟩:=ZE2 (B:=B) hl hi l Z o1 o2
  .simp_all [Ze]
  .obtain ⟨r,r1,r2⟩:=ld_go hg hk u m (i+1) (xs++[y]) Z Z (by rw [Jo,JM];omega);grind [ZJ]
end
theorem ix_bl {ls:List (List UInt8)} {A C:List (List UInt8)} {m:List UInt8} (h:ls=A++m::C):ix (ls.map bl) (Jk A:Int)=bl m:=by
 have j:=Z3 (xs:=ls.map bl) (i:=(Jk A:Int)) Z (by rw [h,Ju,Jo,Jy];omega);grind
theorem ZIh {xs:List (List UInt8)} {m:List UInt8} {B:Int} (nx:Jk xs<=24) (hx:NL (hdr (Jk xs)::xs)) (hm:Jk m<=100000000) (hB:1<=B/\B<=20000)
  (hg:∀l∈xs,∃u v o,l=lin u v/\32∉u/\(spl 32 v).length=3/\Sz2 (Zf.Rows o)/\ZaF (bl l)=Jg (bl u,o,0)) (hd:D1 (J (hdr (Jk xs)::xs)) m):
  ∃r,ZnX (bl m) B=Jg r/\¬r.2=0:=by
 have b2:=Ztw B;rw [decide_eq_true hB] at b2;obtain ⟨ls,l1,l2⟩:=ZGp hm;unfold ZnX;by_cases hc:ls.2=0
 .obtain ⟨ys,rfl,hy,ny,ey⟩:=l2 hc;obtain ⟨A,l,m',C,e1,e2,ac⟩:=ZEz hx hy nx ny hd;have hl:(Jk ls.1:Int)<=24:=by rw [ey,Ju];omega
  have am:Jk A<Jk ys:=by rw [e2,Jo,Jy];omega
  have ad:Jk m'<=100000000:=by
   have:Jk m'<=(J (hdr (Jk ys)::ys)).length:=by
    have:∀(A C:List (List UInt8)),Jk m'<=(J (A++m'::C)).length:=λA=>by
     induction A with
     | nil=>intro C;show _<=(m'++10::J C).length;rw [Jo];omega
     | cons a A ih=>intro C;have:=ih C;show _<=(a++10::J (A++m'::C)).length;rw [Jo,Jy];omega
    grind
   omega
  obtain ⟨u,v,o,rfl,hu,hv,_,_⟩:=hg l (by rw [e1];simp);have hb:=ZFl ad λx y e hy hc u' v' hx ae=>ZEG hu hv ac e hy hc hx ae;rw [<-ix_bl e2,<-ey] at hb;obtain ⟨r,r1,r2⟩:=ld_go (B:=B) (ls:=ls) (k:=(Jk A:Int)) hl (λj j0 j1=>by
   obtain ⟨j,rfl⟩:=Xz j0;have hj:j<Jk A:=Z;obtain ⟨l,hlj⟩:∃l,A[j]?=Jg l:=⟨_,JF hj⟩
   have e3:ix ls.1 (j:Int)=bl l:=by
    have h3:=Z3 (xs:=ls.1) (i:=(j:Int)) Z (by rw [ey,List.length_map];omega);grind
   obtain ⟨u,v,o,_,_,_,o1,o2⟩:=hg l (by rw [e1];exact List.mem_append_left _ (List.mem_of_getElem? hlj));grind) (by rw [ey,Ju];omega) hb (Jk A) 0 [] Z Z rfl
  exact ⟨r,by simp (disch:=omega) only [pz,b2,l1,hc,r1],r2⟩
 .exact ⟨(⟨[]⟩,ls.2),by simp (disch:=omega) only [pz,b2,l1],hc⟩
theorem ZPz {c:List Zh} (o:Jd) (i:Rise c):∃k b,Plc c o k b:=by
 have u:∀n:Nat,n<=Jk c->(∀j:Int,0<=j->j<n->Bl (ix c j).Name o)\/∃k:Int,0<=k/\k<n/\(∀j:Int,0<=j->j<k->Bl (ix c j).Name o)/\¬Bl (ix c k).Name o:=by
  intro n;induction n with
  | zero=>intro _;exact .inl λj a b=>by omega
  | succ n ih=>
   grind
 rcases u (Jk c) Z with h|⟨k,k0,k1,h1,l⟩
 .exact ⟨Jk c,Jj,by omega,by omega,h,λj a b=>by omega,by simp⟩
 .have hi:∀j,k<=j->j<(Jk c:Int)->¬Bl (ix c j).Name o:=λj a b g=>by
   by_cases hj:k=j
   .grind
   .exact l ((i k j k0 Z b).trans g)
  by_cases he:(ix c k).Name=o
  .exact ⟨k,Ji,k0,by omega,h1,hi,by simp [he];omega⟩
  .exact ⟨k,Jj,k0,by omega,h1,hi,by simp [he]⟩
theorem CatV.dis {c:List Zh} (hv:CatV c) {a b:Int} (a0:0<=a) (a1:a<(Jk c:Int)) (i:0<=b) (j:b<(Jk c:Int)) (h:¬a=b):¬Like (ix c a) (ix c b):=λg=>by
 rcases J7 a b with e|e|e
 .exact (hv.at_ b i j).new a a0 e g.symm
 .exact h e
 .exact (hv.at_ a a0 a1).new b i e g
theorem ZEQ {c:List Zh} {y:Zh} {k:Int} (hv:CatV c) (p:Plc c y.Name k Jj) (hy:ItemV y) (no:∀j,0<=j->j<(Jk c:Int)->¬Like (ix c j) y) (hn:(Jk c:Int)+1<=24):CatV (insI c y k):=by
 have k0:=p.k0;have k1:=p.k1;have hr:=ZGT hv.rise p;have hl:=Zl7 (y:=y) k1;refine ⟨λi o u=>⟨?_,λh=>hr (i-1) i Z Z u,λj l j1=>?_⟩,by omega⟩
 .rcases J7 i k with h|h|h
  .rw [ZeA k1 o h];exact (hv.at_ i o Z).item
  .grind [Zh4]
  .rw [Zeg k0 k1 h];exact (hv.at_ (i-1) Z Z).item
 .rcases J7 i k with h|h|h
  .rw [ZeA k1 o h,ZeA k1 l Z];exact hv.dis o Z l Z Z
  .rw [h,Zh4 k0 k1,ZeA k1 l Z];exact λg=>no j l Z g.symm
  .rw [Zeg k0 k1 h];rcases J7 j k with g|g|g
   .rw [ZeA k1 l g];exact hv.dis Z Z l Z Z
   .grind [Zh4]
   .rw [Zeg k0 k1 g];exact hv.dis Z Z Z Z Z
def Ctl (c:List Zh):Prop:=Szc c/\CatV c
theorem ZH7 {c:ZA} (hc:Ctl c.Items) (a2:Jd) {o:Zf} (ho:Sz2 o.Rows) (B:Int):∃r,ZhS c a2 o B=Jg r/\(r.2=0->Ctl r.1.Items):=by
 obtain ⟨hs,hv⟩:=hc;have e:∀c:ZA,ZA.mk c.Items=c:=λ_=>rfl;have u:Zf.mk o.Kind o.Size o.Rows=o:=rfl;have h1:=(Zy8 hs).eq hv;obtain ⟨d,i,_⟩:=Zji ho;obtain ⟨q,k1,_,k2⟩:=ZBW ho B;have hn:=hv.n;unfold ZhS;by_cases hf:Nam a2
 .have l:=(Zlt a2).eq hf;cases d with
  | false=>exact ⟨(⟨[]⟩,1),by simp (disch:=omega) only [pz,e,h1,l,u,i],λh=>by cases h⟩
  | true=>
  by_cases hq:q.2=0
  .obtain ⟨k,b,p2⟩:=ZPz a2 hv.rise;have k0:=p2.k0;have k3:=p2.k1;cases b with
   | true=>
    have pu:=ZKg (y:=⟨a2,o,q.1⟩) hv.rise hn p2;simp_all [pz,ZdM]
   | false=>
    have pu:=ZLi (y:=⟨a2,o,q.1⟩) hv.rise hs.2 ho hn p2;rw [show ZA.mk c.Items=c from rfl] at pu;by_cases no:∃j,0<=j/\j<(Jk c.Items:Int)/\Like (ix c.Items j) ⟨a2,o,q.1⟩
    .simp_all [if_pos,pz,ZdM]
    .rw [if_neg no] at pu;by_cases a4:(Jk c.Items:Int)+1>24
     .simp_all [if_pos,pz,ZdM]
     .rw [if_neg a4] at pu;obtain ⟨k4,k5⟩:=k2 hq;refine ⟨(⟨insI c.Items ⟨a2,o,q.1⟩ k⟩,0),by simp (disch:=omega) only [pz,e,h1,l,u,i,ZdM,k1,pu],λ_=>⟨⟨?_,ZOV hs.2 ho⟩,ZEQ hv p2 ⟨hf,i,by show 1<=(q.1.size:Int);omega,by show (q.1.size:Int)<=4000;omega⟩ (λj a b g=>no ⟨j,a,b,g⟩) Z⟩⟩;grind [Zl7]
  .exact ⟨(⟨[]⟩,q.2),by simp (disch:=omega) only [pz,e,h1,l,u,i,ZdM,k1],λh=>absurd h hq⟩
 .have l:=(Zlt a2).ne hf;simp_all
def Ln (x:Zh) (l:List UInt8):Prop:=Znr x=Jg (bl l)/\10∉l/\(Jk l)<=1000400/\∃u v,l=lin u v/\32∉u/\(spl 32 v).length=3/\ZaF (bl l)=Jg (bl u,x.Object,0)
theorem ZqK {s:Jd} (h:Nam s) {c:UInt8} (j:c.toNat<48):c∉s.data.toList:=λhm=>by
 obtain ⟨i,hi,e⟩:=W5 hm;have l:s.size=Jk s.data.toList:=by rw [Xl];rfl
 have h1:=h.all i Z Z;have k:=Z3 (xs:=byts s) (i:=(i:Int)) Z (by rw [ZbC];omega);grind [byts,JF,Jp,Option.some.inj]
theorem ZJS (rows:Ja):10∉(tR rows).data.toList:=by
 unfold tR;split
 .decide
 .refine Zlw (by decide) λx i=>?_;obtain ⟨r,_,rfl⟩:=List.mem_map.1 i;grind [tL_no,Dg]
theorem ZNK {x:Zh} (hv:ItemV x) (hz:Sz2 x.Object.Rows):∃l,Ln x l:=by
 have ho:Zf.mk x.Object.Kind x.Object.Size x.Object.Rows=x.Object:=rfl;obtain ⟨c,o1,i⟩:=Zji hz;have hc:c=true:=by
  have:=hv.obj;unfold ObjV at this;rw [o1] at this;exact Option.some.inj this
 subst hc;obtain ⟨k1,k7⟩:=ZCV i;obtain ⟨au,_⟩:=Zo2 hz i;have hr:=ZpI hz i;obtain ⟨t,t1,j,_⟩:=ZH9 k1 k7 Z Z;have j:=j i;obtain ⟨s,_,_,y,a2,ns,e1⟩:=Zx5 hz i;have et:t=(((s++⟨#[32]⟩)++itoaB x.Object.Size)++⟨#[32]⟩)++tR x.Object.Rows:=Option.some.inj (j.symm.trans e1);have aw:=Zyz hr;have dz:=ZcG (n:=x.Object.Size) 18 Z Z;have ag:(⟨#[32]⟩:Jd).size=1:=rfl;have ax:t.size<=1000100:=by rw [et];simp only [Z6];omega
 have ab:(spl 32 t.data.toList).length=3:=by
  have:=Zzm y x.Object.Size x.Object.Rows;rw [<-et] at this;have:=congrArg J3 this;unfold splB at this;rwa [Ju] at this
 have a4:(10:UInt8)∉t.data.toList:=by
  have ha:∀a b:Jd,10∉a.data.toList->10∉b.data.toList->10∉(a++b).data.toList:=λa b ha k h=>by
   rw [<-ZaA a,<-ZaA b,ZaB] at h;have h:(10:UInt8)∈a.data.toList++b.data.toList:=h;rcases List.mem_append.1 h with h|h
   .exact ha h
   .exact k h
  rw [et];exact ha _ _ (ha _ _ (ha _ _ (ha _ _ a2 (by decide)) (dg_no (l:=[]) (by unfold Dg;decide) (by decide) _)) (by decide)) (ZJS _)
 have nn:=hv.nam;have n2:=nn.s2;have hN:Nam (bl x.Name.data.toList):=by rw [ZaA];exact nn
 have rg:=ZLm (u:=x.Name.data.toList) (v:=t.data.toList) (o:=x.Object) (ZqK nn (by decide)) hN hz i (by rw [ZaA,j]) (by have:Jk t.data.toList=t.size:=by { rw [Array.length_toList];rfl };omega);have zt:Jk t.data.toList=t.size:=by rw [Xl];rfl
 have zn:Jk x.Name.data.toList=x.Name.size:=by rw [Xl];rfl
 have av:=ZpU (x.Name.data.toList++32::t.data.toList);have dz:=ZcG (n:=((crc (x.Name.data.toList++32::t.data.toList):Nat):Int)) 8 Z Z;have dl:(itoa (crc (x.Name.data.toList++32::t.data.toList):Nat)).length<=10:=by rw [<-ZiT,Zae] at dz;exact dz
 refine ⟨lin x.Name.data.toList t.data.toList,?_,?_,?_,_,_,rfl,ZqK nn (by decide),ab,rg⟩
 .have f1:gFit x.Name ⟨#[32]⟩=Jg ():=gFitW Z;have f2:gFit (x.Name++⟨#[32]⟩) t=Jg ():=gFitW (by rw [Z6];omega);have k:(x.Name++⟨#[32]⟩)++t=bl (x.Name.data.toList++32::t.data.toList):=by
   conv=>lhs;rw [<-ZaA x.Name,<-ZaA t]
   rw [show (⟨#[32]⟩:Jd)=bl [32] from rfl,ZaB,ZaB];simp
  have aa:(bl (x.Name.data.toList++32::t.data.toList)).size<=1000200:=by rw [Zae,Jo,Jy];omega
  have c1:Zgs (bl (x.Name.data.toList++32::t.data.toList)) 65535=Jg ((crc (x.Name.data.toList++32::t.data.toList):Nat):Int):=ZF8 Z;unfold lin;have a5:(bl (x.Name.data.toList++32::t.data.toList)++⟨#[32]⟩)++itoaB ((crc (x.Name.data.toList++32::t.data.toList):Nat):Int)=bl ((x.Name.data.toList++32::t.data.toList)++32::itoa (crc (x.Name.data.toList++32::t.data.toList):Nat)):=by
   rw [<-ZiT,show (⟨#[32]⟩:Jd)=bl [32] from rfl,ZaB,ZaB];simp
  rw [<-a5];unfold Znr;have d1:=Zgd (n:=((crc (x.Name.data.toList++32::t.data.toList):Nat):Int)) Z Z;generalize crc (x.Name.data.toList++32::t.data.toList)=q at c1 d1 dz;generalize bl (x.Name.data.toList++32::t.data.toList)=b at k aa c1;have f3:gFit b ⟨#[32]⟩=Jg ():=gFitW Z;have f4:gFit (b++⟨#[32]⟩) (itoaB (q:Int))=Jg ():=gFitW (by rw [Z6];omega);simp (disch:=omega) only [pz,ho,t1,f1,f2,k,f3,c1,d1,f4]
 .unfold lin;have a1:=ZqK nn (c:=10) (by decide);have a3:(10:UInt8)∉itoa (crc (x.Name.data.toList++32::t.data.toList):Nat):=by
   have:=dg_no (l:=[]) (c:=10) (by unfold Dg;decide) (by decide) (crc (x.Name.data.toList++32::t.data.toList):Nat);rwa [ZeD] at this
  simp [a1,a4,a3]
 .unfold lin;rw [Jo,Jo,Jy,Jy];omega
theorem ZuJ:∀{c:List Zh},(∀x∈c,ItemV x/\Sz2 x.Object.Rows)->∃ls:List (List UInt8),Jk ls=Jk c/\(∀i:Int,0<=i->i<(Jk c:Int)->∃l,ls[i.toNat]?=Jg l/\Ln (ix c i) l)
 | [],_=>⟨[],rfl,λi a b=>by simp at b;omega⟩
 | x::c,h=>by
  obtain ⟨l,hl⟩:=ZNK (h x (JA ..)).1 (h x (JA ..)).2;obtain ⟨ls,h1,j⟩:=ZuJ λy u=>h y (JI _ u);refine ⟨l::ls,by rw [Jy,Jy,h1],λi a b=>?_⟩;obtain ⟨i,rfl⟩:=Xz a;cases i with
  | zero=>exact ⟨l,rfl,hl⟩
  | succ i=>
   rw [Jy] at b;obtain ⟨m,k,o⟩:=j (i:Int) Z Z;refine ⟨m,k,?_⟩;assumption
theorem Zzs:∀(xs:List (List UInt8)) (l:List UInt8),J (xs++[l])=J xs++(l++[10])
 | [],l=>rfl
 | x::xs,l=>by
  show x++10::J (xs++[l])=(x++10::J xs)++(l++[10]);rw [Zzs xs l];simp
theorem J_len:∀{xs:List (List UInt8)},(∀l∈xs,Jk l<=1000400)->(J xs).length<=1000401*Jk xs
 | [],_=>J4 _
 | x::xs,h=>by
  have h1:=J_len (xs:=xs) λy j=>h y (JI _ j);grind [JA,J,Jo,Jy,YB]
theorem ZO7 {c:ZA} (y:Ctl c.Items):∃xs:List (List UInt8),Zia c=Jg (bl (J (hdr (Jk xs)::xs)),0)/\(Jk xs)<=24/\NL (hdr (Jk xs)::xs)/\(J (hdr (Jk xs)::xs)).length<=50000000/\∀l∈xs,∃u v o,l=lin u v/\32∉u/\(spl 32 v).length=3/\Sz2 (Zf.Rows o)/\ZaF (bl l)=Jg (bl u,o,0):=by
 obtain ⟨hz,hv⟩:=y;have hn:=hv.n;have h1:=(Zy8 hz).eq hv;have e:ZA.mk c.Items=c:=rfl;obtain ⟨xs,x1,x2⟩:=ZuJ (c:=c.Items) λx j=>by
  obtain ⟨i,a,b,rfl⟩:=ZU j;exact ⟨(hv.at_ i a b).item,hz.2 _ j⟩
 have a2:∀l∈xs,∃x∈c.Items,Ln x l:=λl hl=>by
  obtain ⟨i,hi,rfl⟩:=W5 hl;obtain ⟨m,m1,m2⟩:=x2 (i:Int) Z Z;grind [Jp,JF,Zl,Option.some.inj]
 have a3:∀l∈xs,Jk l<=1000400:=λl hl=>by
  obtain ⟨x,_,h⟩:=a2 l hl;exact h.2.2.1
 have dz:=ZcG (n:=(Jk c.Items:Int)) 8 Z Z;have ac:(hdr (Jk xs)).length<=18:=by
  unfold hdr;rw [x1];rw [<-ZiT,Zae] at dz;simp_all [Jo]
 refine ⟨xs,?_,by omega,?_,?_,λl hl=>?_⟩
 .have d1:=Zgd (n:=(Jk c.Items:Int)) Z Z;have z8:(⟨#[99,97,116,97,108,111,103,32]⟩:Jd).size=8:=rfl;have z1:(⟨#[10]⟩:Jd).size=1:=rfl;have f1:gFit ⟨#[99,97,116,97,108,111,103,32]⟩ (itoaB (Jk c.Items:Int))=Jg ():=gFitW Z;have f2:gFit (⟨#[99,97,116,97,108,111,103,32]⟩++itoaB (Jk c.Items:Int)) ⟨#[10]⟩=Jg ():=gFitW (by rw [Z6];omega);have ab:(⟨#[99,97,116,97,108,111,103,32]⟩++itoaB (Jk c.Items:Int))++⟨#[10]⟩=bl (J (hdr (Jk xs)::xs.take (0:Int).toNat)):=by
   rw [<-ZiT,show (⟨#[99,97,116,97,108,111,103,32]⟩:Jd)=bl [99,97,116,97,108,111,103,32] from rfl,show (⟨#[10]⟩:Jd)=bl [10] from rfl,ZaB,ZaB,<-x1];rfl
  have e1:=Zj (B:=ZkP c) (λk:Int=>(bl (J (hdr (Jk xs)::xs.take k.toNat)),k)) (i:=0) (n:=c.Items.length) Z λk a b=>by
   obtain ⟨l,l1,l2,_,l3,_⟩:=x2 k a b;have ht:xs.take (k+1).toNat=xs.take k.toNat++[l]:=by
    rw [show (k+1).toNat=k.toNat+1 by omega,List.take_add_one,l1];rfl
   have hj:J (hdr (Jk xs)::xs.take (k+1).toNat)=J (hdr (Jk xs)::xs.take k.toNat)++(l++[10]):=by
    rw [ht,<-J6,Zzs]
   have hb:bl (J (hdr (Jk xs)::xs.take (k+1).toNat))=bl (J (hdr (Jk xs)::xs.take k.toNat))++(bl l++⟨#[10]⟩):=by
    rw [hj,show (⟨#[10]⟩:Jd)=bl [10] from rfl,ZaB,ZaB]
   have hs:(bl (J (hdr (Jk xs)::xs.take k.toNat))).size<=40000000:=by
    rw [Zae];have h1:=J_len (xs:=xs.take k.toNat) λl hl=>a3 l (Xq hl);grind [Jt,hdr,J,Jo,Jy]
   have hl:(bl l).size<=1000400:=by rw [Zae];exact l3
   rw [hb];generalize bl (J (hdr (Jk xs)::xs.take k.toNat))=a4 at hs;have g1:gFit (bl l) ⟨#[10]⟩=Jg ():=gFitW Z;have g2:gFit a4 (bl l++⟨#[10]⟩)=Jg ():=gFitW (by rw [Z6];omega);grind [pz,ZkP]
  rw [Jp,<-x1,Jx] at e1;have e3:Znv c=Jg (bl (J (hdr (Jk xs)::xs))):=by
   unfold Znv;grind [loop,ZkP,bl,J,hdr,Ze,pz]
  simp_all [Zia,pz]
 .refine NL.cons (λh=>?_) λl hl=>?_
  .unfold hdr at h;rcases List.mem_append.1 h with h|h
   .revert h;decide
   .have:=dg_no (l:=[]) (c:=10) (by unfold Dg;decide) (by decide) (Jk xs:Int);grind [ZeD]
  .obtain ⟨x,_,h⟩:=a2 l hl;exact h.2.1
 .grind [J_len,hdr,J,Jo,Jy]
 .obtain ⟨x,j,h⟩:=a2 l hl;obtain ⟨u,v,a,b,d,f⟩:=h.2.2.2;exact ⟨u,v,x.Object,a,b,d,hz.2 x j,f⟩
open Go Go.Vc Go.Lib
section
variable {code:Jb} {n N:Int} {s:Za}
theorem ZM3 (i:Bytes code) (h:Src code n s) (j:n<=900000000) {l:List Jd} (hl:1<=(Jk l:Int)) (a3:(Jk l:Int)<=60000):∃x s',Zla s l=Jg (x,s')/\Src code (n+2) s':=by
 have e:Za.mk s.qcode s.qat s.qseed=s:=rfl;obtain ⟨x,s',o,⟨h1,u,_⟩,y⟩:=Zcf i h j (k:=(Jk l:Int));have hx:=u hl;have hg:gIdx l x=Jg (ix l x):=ZaO h1 hx;unfold Zla;rw [e,o];simp only [Jr];rw [hg];exact ⟨_,_,rfl,h.of y⟩
theorem ZOE (hb:Bytes code) (hs:Src code 0 s):Ex (Zn7 s) λr=>Ctl r.1.Items:=by
 unfold Zn7;have hs:Src code 10 (Za.mk s.qcode s.qat s.qseed):=hs.mono Z;refine ZT hb hs Z λc s1 c0 c1 _ h1=>?_;have c1:=c1 Z;have a5:Src code (200000-20000*c) (Za.mk s.qcode s1.qat s1.qseed):=h1.mono Z;have z:Ctl ([]:List Zh):=⟨⟨by simp,by simp⟩,λi a b=>by simp at b;omega,by simp⟩
 refine ZR (λk st=>0<=st.1/\st.1<=5/\(k:Int)=st.1/\Src code (200000-20000*st.1) (Za.mk s.qcode st.2.1 st.2.2.1)/\Ctl st.2.2.2) c.toNat ⟨c0,by show c<=5;omega,by show ((c.toNat:Nat):Int)=c;omega,a5,z⟩ ?_;rintro k ⟨c,u,v,xs⟩ ⟨k0,k5,hk,a2,j⟩;dsimp only at k0 k5 hk a2 j;unfold ZqB;refine ex_d (λhp=>?_) λhp=>Zi j;obtain ⟨x,s2,e2,h2⟩:=ZM3 (l:=[⟨#[97]⟩,⟨#[98,55]⟩,⟨#[102,97,110,111]⟩,⟨#[122,101,114,111]⟩,⟨#[109]⟩,⟨#[99,121,99]⟩]) hb a2 Z (by decide) (by decide);rw [e2];simp only [Jr];refine ZC (ZHs (N:=200000-20000*(c-1)) hb (s:=Za.mk s.qcode s2.qat s2.qseed) ((a2.of h2).mono Z) Z) λr hr=>?_;obtain ⟨hv,y⟩:=hr;obtain ⟨q,q1,q2⟩:=ZH7 (c:=⟨xs⟩) j x (o:=r.1) hv.1 250;have a4:ZhS (ZA.mk xs) x (Zf.mk r.1.Kind r.1.Size r.1.Rows) 250=Jg q:=q1;rw [a4];simp only [Jr];rw [wr64 Z Z];have y:=h2.of y;refine ex_e (λhz=>?_) λ_=>?_
 .exact Zi ⟨k-1,by omega,by dsimp only;omega,by dsimp only;omega,by dsimp only;omega,(a2.of y).mono (by dsimp only;omega),q2 hz⟩
 .exact Zi ⟨k-1,by omega,by dsimp only;omega,by dsimp only;omega,by dsimp only;omega,(a2.of y).mono (by dsimp only;omega),j⟩
end
theorem ZMi {code:Jb} (i:Bytes code):Ex (ZlW code) λc=>Ctl c.Items:=by
 unfold ZlW;obtain ⟨s,e,_,hs⟩:=ZJg (code:=code);rw [e];simp only [Jr];exact ZC (ZOE i hs) λr j=>Zi j
theorem at_ok {code:Jb} (i:Bytes code) {k n:Int} (k0:0<=k) (n1:1<n) (n2:n<=1000):∃x,Zfj code k n=Jg x/\0<=x/\x<n:=by
 unfold Zfj;by_cases j:k>=(Jk code:Int)
 ·(simp_all;omega)
 .have h:=i.2 _ (Zl k0 (by omega:k<(Jk code:Int)));have hg:gIdx code k=Jg (ix code k):=ZaO k0 Z;have hz:gNz n=Jg ():=Zfe Z;refine ⟨Jq (ix code k) n,?_,XL _ h.1,Xx _ Z⟩;grind [ZqI,pz]
theorem u8x {a b:Int} (a0:0<=a) (a1:a<=255) (i:1<=b) (j:b<=255):∃c:Int,IntKind.u8.wrap ((BitVec.ofInt IntKind.u8.bits a^^^BitVec.ofInt IntKind.u8.bits b).toNat:Int)=c/\0<=c/\c<=255/\c≠a:=by
 obtain ⟨a,rfl⟩:=Xz a0;obtain ⟨b,rfl⟩:=Xz (by omega:0<=b);have h:∀a b:Fin 256,1<=b.1->(a.1^^^b.1)≠a.1:=by
  intro a b k h;have:=congrArg (a.1^^^·) h;grind
 have l:=h ⟨a,by omega⟩ ⟨b,by omega⟩ (by show 1<=b;omega);grind [Xh,BitVec.ofInt,BitVec.toNat_ofInt,BitVec.toNat_xor,IntKind.wrap,IntKind.bits,IntKind.signed]
theorem ZOG {t:List UInt8} {i:Nat} (hi:i<Jk t) {c:UInt8} (h:t[i]≠c):D1 t (t.set i c):=by
 refine ⟨t.take i,t[i],c,t.drop (i+1),?_,?_,h⟩
 .simp
 .exact List.set_eq_take_append_cons_drop.trans (if_pos hi)
theorem ZJw {j l:Jb} (h0:OkL (λx=>0<=x/\x<=255) j) (h1:OkL (λx=>0<=x/\x<=255) l):ZpH j l=Jg true:=by
 unfold ZpH ZrA;by_cases u:(Jk j:Int)>1048576
 .grind
 by_cases y:(Jk l:Int)>1048576
 .grind
 rw [decide_eq_false u,decide_eq_false y];simp only [cond_false,Jr];have b0:Bytes j:=⟨by omega,h0.2⟩
 have o:Bytes l:=⟨by omega,h1.2⟩
 obtain ⟨c,e1,hc⟩:=ZMi b0;obtain ⟨xs,e2,x1,x2,x3,x4⟩:=ZO7 hc;have ac:Zia (ZA.mk c.Items)=Jg (bl (J (hdr (Jk xs)::xs)),0):=e2;obtain ⟨a,a1,a2,a3⟩:=at_ok o (k:=0) (n:=256) Z Z Z;obtain ⟨b,g1,g2,g3⟩:=at_ok o (k:=1) (n:=256) Z Z Z;obtain ⟨d,d1,d2,d3⟩:=at_ok o (k:=2) (n:=255) Z Z Z;rw [e1];simp only [Jr];rw [ac];simp only [Jr];rw [a1,g1,d1];simp only [Jr];obtain ⟨t,ht⟩:∃t,t=J (hdr (Jk xs)::xs):=⟨_,rfl⟩
 rw [<-ht] at x3 ⊢;have hn:1<=Jk t:=by
  grind [hdr,J,Jo,Jy]
 have ab:byts (bl t)=t.map λb=>(b.toNat:Int):=rfl;have ao:(byts (bl t)).length=Jk t:=by rw [ab,Ju]
 have hz:gNz ((byts (bl t)).length:Int)=Jg ():=Zfe Z;rw [hz];simp only [Jr];have hw:Y.wrap ((Y.wrap (256*a))+b)=256*a+b:=by
  grind [wr64]
 rw [hw];have m0:=XL ((byts (bl t)).length:Int) (a:=256*a+b) Z;have m1:=Xx (256*a+b) (b:=((byts (bl t)).length:Int)) Z;generalize Jq (256*a+b) ((byts (bl t)).length:Int)=i at m0 m1;obtain ⟨i,rfl⟩:=Xz m0;have hi:i<Jk t:=Z;have hx:ix (byts (bl t)) (i:Int)=(t[i].toNat:Int):=by
  have h3:=Z3 (xs:=byts (bl t)) (i:=(i:Int)) Z Z;grind
 have hg:gIdx (byts (bl t)) (i:Int)=Jg (t[i].toNat:Int):=by rw [ZaO Z m1,hx]
 rw [hg];simp only [Jr];have aq:=t[i].toNat_lt;have a7:IntKind.u8.wrap (Y.wrap (1+d))=1+d:=by
  grind [wr64,IntKind.wrap,IntKind.bits,IntKind.signed]
 rw [a7];obtain ⟨x,a4,a5,ap,aa⟩:=u8x (a:=(t[i].toNat:Int)) (b:=1+d) Z Z Z Z;rw [a4];obtain ⟨x,rfl⟩:=Xz a5;have a6:(UInt8.ofNat x).toNat=x:=by simp;omega
 have hs:gByt ((byts (bl t)).set (Int.toNat (i:Int)) (x:Int))=Jg (bl (t.set i (UInt8.ofNat x))):=by
  rw [<-ZC4];grind [nums,List.map_set,Jp]
 rw [hs];simp only [Jr];have hd:D1 t (t.set i (UInt8.ofNat x)):=ZOG hi λh=>aa (by rw [h,a6]);rw [ht] at hd;obtain ⟨r,r1,r2⟩:=ZIh (B:=400) x1 x2 (by rw [JC,<-ht];omega) ⟨by omega,by omega⟩ x4 hd;grind
end Go.Proofs.YtcneolcmjjlmnaaGreatDoor
