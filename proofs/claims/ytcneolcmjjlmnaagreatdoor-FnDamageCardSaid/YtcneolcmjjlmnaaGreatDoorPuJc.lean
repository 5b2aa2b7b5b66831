import Derived.KernelRfl
import Derived.Test.YtcneolcmjjlmnaaGreatDoorPuJb
open List renaming length_take->Jt,mem_of_mem_take->Xq,length_drop->JO,length_nil->Xn,nil_append->Xm,length_append->Jo,length_singleton->JM,getElem?_eq_getElem->JF,all_eq_true->JZ,length_set->JC,replicate->Jn,length_replicate->JD,take_length->Jx,length_map->Ju,mem_of_mem_drop->Ym,mem_or_eq_of_mem_set->WT,length->Jk
open Option renaming bind_some->Jr,some->Jg
open Int renaming le_refl->JY,tmod->Jq,tmod_nonneg->XL,tmod_lt_of_pos->Xx,mul_le_mul->J0,tdiv->Jw,tdiv_eq_ediv_of_nonneg->Xp,ediv_nonneg->XI,ediv_lt_of_lt_mul->YA,mul_nonneg->J8,toNat_natCast->Jp
open Bool renaming and_eq_true->Jz,true->Ji,false->Jj
open Nat renaming ble->JJ,ble_eq->XH
open Go.IntKind renaming i64->Y
namespace Go.Proofs.YtcneolcmjjlmnaaGreatDoor
open Go Go.Vc
set_option linter.unusedSimpArgs false
set_option linter.unusedVariables false
theorem ZLY {xs:Ja} (hl:(Jk xs:Int)<=1000000) (hr:∀b∈xs,(Jk b:Int)<=1048576) {i:Int} (h:0<=i) (h1:i<(Jk xs:Int)):
  ZdQ xs (sortRows (xs.take i.toNat),i)=Jg (.inl (sortRows (xs.take (i+1).toNat),i+1)):=by
 have ai:((sortRows (xs.take i.toNat)).length:Int)=i:=by rw [Za4,Jt];omega
 have a5:∀b∈sortRows (xs.take i.toNat),(Jk b:Int)<=1048576:=λb hb=>hr b (Xq (Zau.1 hb));have hx:=hr _ (Zl h h1);have a9:=ZgA (xs.take i.toNat);generalize a7:sortRows (xs.take i.toNat)=a2 at *;have a6:∀{k:Int},0<=k->k<=(Jk a2:Int)->(∀y∈a2.take k.toNat,lexC y (ix xs i)<=0)->(∀y∈a2.drop k.toNat,lexC (ix xs i) y<=0) ->
   ZdN xs a2 i k=Jg (.inl (sortRows (xs.take (i+1).toNat),i+1)):=by
  intro k k0 k1 g1 g2;have a8:=Zwk (xs:=xs.take i.toNat) (x:=ix xs i) (k:=k.toNat) a7.symm g1 g2;rw [Zai h h1];have ak:((a2.take k.toNat).length:Int)=k:=by rw [Jt];omega
  have aj:((a2.drop k.toNat).length:Int)=Jk a2-k:=by rw [JO];omega
  have r:gSl a2 0 k=Jg (a2.take k.toNat):=by rw [Zba Z Z Z];rfl
  have u:gSl a2 k (Jk a2:Int)=Jg (a2.drop k.toNat):=ZiQ k0 k1;unfold ZdN;rw [r];simp only [Jr];rw [ZaE (by simp only [Xn];omega) (by simp only [Xn];omega)];simp only [Jr,Xm];rw [ZaO h h1];simp only [Jr];rw [Zld Z];simp only [Jr];rw [gApp1 Z Z];simp only [Jr];rw [u];simp only [Jr];rw [ZaE (by rw [Jo,JM];omega) (by rw [Jo,JM];omega)];simp only [Jr];rw [a8,wr64 Z Z]
 unfold ZdQ;have hc:decide (i<(Jk xs:Int))=true:=dec_t h1;simp only [hc,cond_true];rcases Ztj (B:=Zex xs a2 i) (λk=>k) (λk=>¬cmpL (ix a2 (k-1)) (ix xs i)>0) (i:=a2.length) (m:=0) Z (λk a b c=>by
   have v:=a5 _ (Zl (xs:=a2) (i:=k-1) Z Z);have c':=Classical.not_not.1 c;grind [pz,Zex,Za7]) with ⟨k,a,b,c,d,e⟩|⟨a,b⟩
 .rw [e];have v:=a5 _ (Zl (xs:=a2) (i:=k-1) Z Z);have a4:=a6 (k:=k) Z Z (λy hy=>?_) (λy hy=>?_)
  .refine Ze ?_;simp (disch:=omega) only [pz,Zex,Za7,a4]
  .obtain ⟨j,f,g,rfl⟩:=ZU hy;have w:j<k:=by rw [Jt] at g;omega
   rw [Zdo f w];by_cases aa:j=k-1
   .rw [aa,ZaQ];omega
   .have hp:=List.pairwise_iff_getElem.1 a9 j.toNat (k-1).toNat Z Z Z;have e1:a2[j.toNat]' Z=ix a2 j:=by have:=Z3 (xs:=a2) f Z;rw [JF Z] at this;exact Option.some.inj this
    have e2:a2[(k-1).toNat]' Z=ix a2 (k-1):=by have:=Z3 (xs:=a2) (i:=k-1) Z Z;rw [JF Z] at this;exact Option.some.inj this
    rw [e1,e2] at hp;exact (ZhD _ _ _ hp (by rw [ZaQ];omega)).1
  .obtain ⟨j,f,g,rfl⟩:=ZU hy;rw [JO] at g;rw [Zhh Z f];have l:=Classical.not_not.1 (d (k+j+1) Z Z);rw [show k+j+1-1=k+j by omega] at l;have o:=Zci (ix a2 (k+j)) (ix xs i);rw [ZaQ,ZaQ] at o;rw [ZaQ];omega
 .rw [b];have a4:=a6 (k:=0) Z Z (λy hy=>by simp at hy) (λy hy=>?_)
  .refine Ze ?_;simp (disch:=omega) only [pz,Zex,a4]
  .obtain ⟨j,f,g,rfl⟩:=ZU hy;rw [show (0:Int).toNat=0 from rfl,List.drop_zero] at *;have l:=Classical.not_not.1 (a (j+1) Z Z);rw [show j+1-1=j by omega] at l;have o:=Zci (ix a2 j) (ix xs i);rw [ZaQ,ZaQ] at o;rw [ZaQ];omega
theorem Zmp {xs:Ja} (h:(Jk xs:Int)<=1000000) (g:∀b∈xs,(Jk b:Int)<=1048576):ZaC xs=Jg (sortRows xs):=by
 unfold ZaC;have e:(([]:Ja),(0:Int))=(λj:Int=>(sortRows (xs.take j.toNat),j)) 0:=by simp [sortRows]
 rw [e,Zj (B:=ZdQ xs) (λj=>(sortRows (xs.take j.toNat),j)) (i:=0) (n:=xs.length) Z λj a b=>ZLY h g a b];refine Ze ?_;unfold ZdQ;simp
set_option maxRecDepth 100000
def permB (n:Int) (r:Jb):Bool:=decide ((Jk r:Int)=n)&&(r.all (λx=>decide (0<=x)&&decide (x<n))&&decide r.Nodup)
noncomputable def turnT (n a b:Int):Bool:=match ZqG 400 n a b with
 | some r=>permB n r
 | none=>Jj
theorem Zrr:([1,2,3,4,5,6,7,8,9,10,11,12,13]:Jb).all (λn=>turnT n 1 1)=true:=κ
theorem ZL7:([1,2,3,4,5,6,7,8]:Jb).all (λn=>turnT n (n-1) 0)=true:=κ
theorem ZNj:([5,7,11,13]:Jb).all (λn=>([2,3,4]:Jb).all λa=>turnT n a 0)=true:=κ
def Bytes (code:Jb):Prop:=code.length<=1048576/\∀x∈code,0<=x/\x<=255
structure Src (code:Jb) (n:Int) (s:Za):Prop where
 c:s.qcode=code
 a0:0<=s.qat
 a1:s.qat<=n
theorem Src.mono {code:Jb} {n m:Int} {s:Za} (h:Src code n s) (e:n<=m):Src code m s:=⟨h.c,h.a0,by have:=h.a1;omega⟩
section
variable {code:Jb} {n:Int} {s:Za}
theorem ZJg:∃s,Zpw code=Jg s/\s.qcode=code/\Src code 0 s:=⟨_,rfl,rfl,rfl,JY _,JY _⟩
theorem ZzX (h:Src code n s) (g:n<=1000000000) {b:Int} (e:0<=b) (f:b<=255):∃x s',Zgz s b=Jg (x,s')/\(0<=x/\x<=255)/\Src code (n+1) s':=by
 have a0:=h.a0;have a1:=h.a1;have j:Y.wrap (s.qat+1)=s.qat+1:=wr64 Z Z;unfold Zgz;rw [j];cases decide (s.qat+1<=(Jk s.qcode:Int))
 .refine ⟨_,_,rfl,?_,h.c,by show 0<=s.qat+1;omega,by show s.qat+1<=n+1;omega⟩;generalize BitVec.ofInt IntKind.u64.bits _=v;have h1:(v&&&BitVec.ofInt IntKind.u64.bits 255).toNat<=255:=by
   rw [BitVec.toNat_and];exact Nat.le_trans Nat.and_le_right (by decide)
  generalize (v&&&BitVec.ofInt IntKind.u64.bits 255).toNat=z at h1 ⊢;have i:IntKind.u64.wrap (z:Int)=(z:Int):=by
   have:IntKind.u64.wrap (z:Int)=(z:Int)%18446744073709551616:=rfl;omega
  grind [wr64]
 .exact ⟨_,_,rfl,⟨e,f⟩,h.c,by show 0<=s.qat+1;omega,by show s.qat+1<=n+1;omega⟩
theorem ZD3 (e:Bytes code) (h:Src code n s) (g:n<=1000000000):∃x s',Zff s=Jg (x,s')/\(0<=x/\x<=255)/\Src code (n+1) s':=by
 have a0:=h.a0;have a1:=h.a1;have f:=h.c;unfold Zff;by_cases j:s.qat<(Jk s.qcode:Int)
 .have k:0<=ix s.qcode s.qat/\ix s.qcode s.qat<=255:=e.2 (ix s.qcode s.qat) (by rw [<-f];exact Zl a0 j);rw [decide_eq_true j,ZaO a0 j];simp only [cond_true,Jr];grind [wr64,ZzX]
 .simp_all [decide_eq_false,ZzX]
theorem Zcf (i:Bytes code) (h:Src code n s) (r:n<=900000000) {k:Int}:∃x s',ZG s k=Jg (x,s')/\(0<=x/\(1<=k->x<k)/\x<=65535)/\Src code (n+2) s':=by
 unfold ZG;by_cases hk:k<=1
 .rw [decide_eq_true hk];exact ⟨0,s,rfl,by omega,h.mono Z⟩
 .rw [decide_eq_false hk];obtain ⟨x,s',l,u,w⟩:=ZD3 i h Z;have a3:Zff (Za.mk s.qcode s.qat s.qseed)=Jg (x,s'):=l;simp only [cond_false,a3,Jr];have tm:∀z:Int,0<=z->z<=65535->0<=Jq z k/\(1<=k->Jq z k<k)/\Jq z k<=65535:=λz f h1=>by
   have:=XL k f;have j:=Xx z (show 0<k by omega);have g:Jq z k<=z:=by
    rw [Int.tmod_eq_emod_of_nonneg f];by_cases hz:z<k
    .rw [Int.emod_eq_of_lt f hz];omega
    .grind
   omega
  by_cases e:k>200
  .rw [decide_eq_true e];have j:Src code (n+1) (Za.mk s.qcode s'.qat s'.qseed):=⟨h.c,w.a0,w.a1⟩
   obtain ⟨y,s2,o,hy,g⟩:=ZD3 i j Z;simp only [cond_true,o,Jr,Zfe (show ¬k=0 by omega)];rw [wr64 (x:=x*256) Z Z,wr64 (x:=x*256+y) Z Z];exact ⟨_,_,rfl,tm _ Z Z,h.c,g.a0,by have:=g.a1;show s2.qat<=n+2;omega⟩
  .rw [decide_eq_false e];simp only [cond_false,Zfe (show ¬k=0 by omega),Jr];exact ⟨_,_,rfl,tm _ Z Z,h.c,w.a0,by have:=w.a1;show s'.qat<=n+2;omega⟩
theorem ZK4 (e:Bytes code) (h:Src code n s) (f:n<=900000000) {k:Int}:∃x s',ZaR s k=Jg (x,s')/\Src code (n+2) s':=by
 obtain ⟨x,s',g,i,l⟩:=Zcf e h f (k:=k);unfold ZaR;have j:ZG (Za.mk s.qcode s.qat s.qseed) k=Jg (x,s'):=g;simp only [j,Jr];exact ⟨_,_,rfl,h.c,l.a0,l.a1⟩
theorem ZpR (e:Bytes code) (h:Src code n s) (f:n<=900000000) {l:Jb} (hl:1<=(Jk l:Int)) (j:(Jk l:Int)<=60000):∃x s',ZaT s l=Jg (x,s')/\x∈l/\Src code (n+2) s':=by
 obtain ⟨x,s',g,o,w⟩:=Zcf e h f (k:=(Jk l:Int));unfold ZaT;have u:ZG (Za.mk s.qcode s.qat s.qseed) (Jk l:Int)=Jg (x,s'):=g;have hi:=ZaO (xs:=l) (i:=x) Z Z;simp only [u,Jr,hi];exact ⟨_,_,rfl,Zl Z Z,h.c,w.a0,w.a1⟩
theorem Src.of {m:Int} {s s':Za} (h:Src code n s) (e:Src code m s'):Src code m (Za.mk s.qcode s'.qat s'.qseed):=⟨h.c,e.a0,e.a1⟩
end
theorem ZpO {σ β:Type} {B:σ->Jm (σ ⊕ β)} {I:Nat->σ->Prop} {Q:β->Prop} (step:∀n s,I n s->(∃s' m,B s=Jg (.inl s')/\m<n/\I m s')\/(∃r,B s=Jg (.inr r)/\Q r)):∀(n:Nat) (s:σ),I n s->∃r,loop B s=Jg r/\Q r:=by
 intro n;induction n using Nat.strongRecOn with
 | ind n ih=>
  intro s hs;rcases step n s hs with ⟨s',m,e,hm,hI⟩|⟨r,e,f⟩
  .grind [ZJ]
  .grind [Ze]
section
variable {code:Jb} {n:Int} {s:Za}
end
theorem Zgn {n a b:Int} (h:turnT n a b=Ji):∃r,Zcs n a b=Jg r/\Vc.Perm r n:=by
 unfold turnT at h;split at h
 .rename_i r e;unfold permB at h;rw [Jz,Jz,JZ] at h;exact ⟨r,ZNS _ _ _ _ e,of_decide_eq_true h.1,λx f=>by have:=h.2.1 x f;simpa using this,of_decide_eq_true h.2.2⟩
 .cases h
section
variable {code:Jb} {n:Int} {s:Za}
theorem ZwH (e:Bytes code) (h:Src code n s) (l:n<=100000000) {m:Int} (o:1<=m) (f:m<=32):∃p s',Zcb s m=Jg (p,s')/\Vc.Perm p m/\Src code (n+64) s':=by
 unfold Zcb;rw [Zre Z f];simp only [Jr];rw [wr64 Z Z];have a7:=ZpO (B:=Zmh s) (Q:=λr=>Vc.Perm r.1 m/\Src code (n+64) r.2)
  (I:=λk st=>∃(i a b:Int) (xs:Jb),st=(i,a,b,xs)/\0<=i/\i<=m-1/\k=i.toNat/\Vc.Perm xs m/\Src code (n+2*(m-1-i)) (Za.mk s.qcode a b))
  (by
   rintro k st ⟨i,a,b,xs,rfl,u,v,hk,hp,a3⟩;by_cases hi:i>0
   .left;obtain ⟨r,s',w,hr,h'⟩:=Zcf e a3 Z (k:=i+1);have j:=hr.2.1 Z;have hl:=hp.len;have y:=ZaO (xs:=xs) (i:=i) Z Z;have g2:=ZaO (xs:=xs) (i:=r) Z Z;have g3:=ZaO (xs:=xs.set i.toNat (ix xs r)) (i:=r) Z (by rw [JC];omega);have a2:((xs.set i.toNat (ix xs r)).set r.toNat (ix xs i)).Perm xs:=by
     grind [ix,Z3,List.getElem?_eq_getElem,Option.some.inj,List.set_set_perm]
    refine ⟨(i-1,s'.qat,s'.qseed,(xs.set i.toNat (ix xs r)).set r.toNat (ix xs i)),(i-1).toNat,?_,by omega,i-1,s'.qat,s'.qseed,_,rfl,by omega,by omega,rfl,⟨by rw [a2.length_eq];exact hl,fun x g=>hp.rng x (a2.mem_iff.1 g),a2.nodup_iff.2 hp.nd⟩,⟨h.c,h'.a0,by have:=h'.a1;show s'.qat<=_;omega⟩⟩;unfold Zmh;simp only [decide_eq_true hi,cond_true];grind [wr64]
   .right;refine ⟨(xs,Za.mk s.qcode a b),?_,hp,Src.mono (m:=n+64) a3 Z⟩;unfold Zmh;grind)
  (m-1).toNat _ ⟨m-1,s.qat,s.qseed,idP m,rfl,by omega,by omega,rfl,ZFR m Z,⟨h.c,h.a0,by have:=h.a1;show s.qat<=_;omega⟩⟩
 grind
theorem ZKK (e:Bytes code) (h:Src code n s) (hn:n<=10000000):∃m l s',Zij s=Jg (m,l,s')/\GOk m l/\Src code (n+400) s':=by
 unfold Zij;obtain ⟨a,s1,e1,ha,h1⟩:=Zcf e h Z (k:=8);have ab:ZG (Za.mk s.qcode s.qat s.qseed) 8=Jg (a,s1):=e1;have g1:=h.of h1;obtain ⟨b,s2,e2,ag,h2⟩:=Zcf e g1 Z (k:=4);have ad:ZG (Za.mk s.qcode s1.qat s1.qseed) 4=Jg (b,s2):=e2;have u:=h.of h2;have ah:=ha.2.1 Z;have hw:Y.wrap (1+a)=a+1:=by rw [wr64 Z Z];omega
 have a8:Y.wrap (a+1-1)=a+1-1:=wr64 Z Z;simp only [ab,ad,Jr,hw,a8];cases (b==0)
 .cases (b==1)
  .cases (b==2)
   .obtain ⟨c,f,e3,v,h3⟩:=Zcf e u Z (k:=5);have g3:=h.of h3;obtain ⟨d,g,e4,hd,j⟩:=Zcf e g3 Z (k:=3);have g4:=h.of j;have a3:ZG (Za.mk s.qcode f.qat f.qseed) 3=Jg (d,g):=e4;have ai:=v.2.1 Z;have aj:=hd.2.1 Z;simp only [cond_false,e3,a3,Jr];have y:Y.wrap (1+c)=c+1:=by rw [wr64 Z Z];omega
    have aw:=ZpO (B:=Zjk s (c,f)) (Q:=λr=>r.1=c+1/\GOk (c+1) r.2.1/\Src code (n+400) r.2.2)
     (I:=λk st=>∃(l:Ja) (i a b:Int),st=(l,i,a,b)/\0<=i/\i<=d/\k=i.toNat/\(Jk l:Int)=d-i/\(∀p∈l,Vc.Perm p (c+1))/\Src code (n+8+64*(d-i)) (Za.mk s.qcode a b))
     (by
      rintro k st ⟨l,i,a,b,rfl,i0,i1,hk,hl,hp,a2⟩;by_cases hi:i>0
      .left;obtain ⟨p,s',e5,ak,h'⟩:=ZwH e a2 Z (m:=c+1) Z Z;refine ⟨(l++[p],i-1,s'.qat,s'.qseed),(i-1).toNat,?_,by omega,l++[p],i-1,s'.qat,s'.qseed,rfl,by omega,by omega,rfl,by rw [Jo];simp;omega,λx w=>?_,⟨h.c,h'.a0,by have:=h'.a1;show s'.qat<=_;omega⟩⟩
       .unfold Zjk;simp only [decide_eq_true hi,cond_true,y,e5,Jr];grind [gApp1,wr64]
       .grind
      .right;refine ⟨(Y.wrap (1+c),l,Za.mk s.qcode a b),?_,y,⟨by omega,by omega,by show (Jk l:Int)<=_;omega,hp⟩,Src.mono (m:=n+400) a2 Z⟩;unfold Zjk;grind)
     d.toNat _ ⟨[],d,g.qat,g.qseed,rfl,by omega,JY _,rfl,by simp,by simp,⟨h.c,j.a0,by have:=j.a1;show g.qat<=_;omega⟩⟩
    grind
   .obtain ⟨c,f,e3,v,h3⟩:=ZpR e u Z (l:=[5,7,11,13]) (by simp) (by simp);have g3:=h.of h3;obtain ⟨d,g,e4,hd,j⟩:=ZpR e g3 Z (l:=[2,3,4]) (by simp) (by simp);have a3:ZaT (Za.mk s.qcode f.qat f.qseed) [2,3,4]=Jg (d,g):=e4;have a9:1<=c/\c<=13:=by simp at v;omega
    obtain ⟨r1,o,p1⟩:=Zgn (List.all_eq_true.1 Zrr c (by simp;omega));obtain ⟨r2,t2,p2⟩:=Zgn (List.all_eq_true.1 (List.all_eq_true.1 ZNj c v) d hd);simp only [cond_false,cond_true,e3,o,a3,t2,Jr];refine ⟨_,_,_,rfl,⟨a9.1,by omega,by simp,λx w=>?_⟩,(h.of j).mono Z⟩;grind
  .obtain ⟨r1,o,p1⟩:=Zgn (List.all_eq_true.1 Zrr (a+1) (by simp;omega));obtain ⟨r2,t2,p2⟩:=Zgn (List.all_eq_true.1 ZL7 (a+1) (by simp;omega));simp only [cond_false,cond_true,o,t2,Jr];refine ⟨_,_,_,rfl,⟨by omega,by omega,by simp,λx w=>?_⟩,u.mono Z⟩;grind
 .obtain ⟨r1,o,p1⟩:=Zgn (List.all_eq_true.1 Zrr (a+1) (by simp;omega));simp only [cond_true,o,Jr];exact ⟨_,_,_,rfl,⟨by omega,by omega,by simp,λx w=>by rw [List.mem_singleton.1 w];exact p1⟩,u.mono Z⟩
theorem ZGZ (e:Bytes code) (h:Src code n s) (j:n<=1000000):∃g s',Zl2 s=Jg (g,s')/\(1<=(Jk g.Elements:Int)/\(Jk g.Elements:Int)<=1000/\∀b∈g.Elements,(Jk b:Int)<=32)/\Src code (n+400) s':=by
 unfold Zl2;obtain ⟨m,l,s1,i,o,h1⟩:=ZKK e h Z;have u:Zij (Za.mk s.qcode s.qat s.qseed)=Jg (m,l,s1):=i;have n0:=o.n0;have n1:=o.n1;have f:=ZrU o (most:=720) Z Z;rw [show ((720:Nat):Int)=720 from rfl] at f;rcases f with ⟨L,hL,hlen,ec⟩|⟨_,ec⟩
 .have k:∀b∈L,(Jk b:Int)<=32:=λb e=>by
   have:=(o.rng ((hL.2 b).1 e)).1;omega
  have hs:=Zmp (xs:=sortRows L) (by rw [Za4];omega) (λb e=>by have:=k b (Zau.1 e);omega);have w:0<Jk L:=List.length_pos_of_mem ((hL.2 _).2 .one);simp only [u,ec,Jr,Bool.not_true,cond_false];unfold Zi5;simp only [hs,Jr];refine ⟨_,_,rfl,⟨?_,?_,λb e=>k b (Zau.1 (Zau.1 e))⟩,h.c,h1.a0,h1.a1⟩
  .grind [sortRows,Za4]
  .grind [sortRows,Za4]
 .have hs:=Zmp (xs:=[idP m]) (by simp) (λb e=>by rw [List.mem_singleton.1 e,Zaj];omega);simp only [u,ec,Jr,Bool.not_false,cond_true,Zre (show 0<=m by omega) n1];unfold Zi5;simp only [hs,Jr];refine ⟨_,_,rfl,⟨?_,?_,λb e=>?_⟩,h.c,h1.a0,h1.a1⟩
  .simp [sortRows,idP,Za4]
  .simp [sortRows,idP,Za4]
  .grind [List.mem_singleton,Zau,Zaj]
end
set_option maxHeartbeats 4000000
def Ex {α:Type} (o:Jm α) (Q:α->Prop):Prop:=∃r,o=Jg r/\Q r
section
variable {α β σ:Type} {Q:β->Prop} {a b:Jm β}
theorem Zi {r:β} (h:Q r):Ex (Jg r) Q:=⟨r,rfl,h⟩
theorem ZC {o:Jm α} {f:α->Jm β} {R:α->Prop} (h:Ex o R) (k:∀r,R r->Ex (f r) Q):Ex (o.bind f) Q:=by
 obtain ⟨r,rfl,h⟩:=h;exact k r h
theorem ZK [Inhabited α] {xs:List α} {i:Int} {f:α->Jm β} (h:0<=i/\i<(Jk xs:Int)) (k:Ex (f (ix xs i)) Q):Ex ((gIdx xs i).bind f) Q:=by
 grind [ZaO]
theorem ex_d {p:Prop} [Decidable p] (h:p->Ex a Q) (e:¬p->Ex b Q):Ex (bif decide p then a else b) Q:=by
 grind
theorem ex_e {x y:Int} (h:x=y->Ex a Q) (e:¬x=y->Ex b Q):Ex (bif x==y then a else b) Q:=by
 grind
theorem ex_n {x y:Int} (h:¬x=y->Ex a Q) (e:x=y->Ex b Q):Ex (bif x !=y then a else b) Q:=by
 grind
theorem ex_c {c:Bool} (h:Ex a Q) (e:Ex b Q):Ex (bif c then a else b) Q:=by cases c<;>assumption
theorem ex_nz {z:Int} {f:Unit->Jm β} (h:¬z=0) (k:Ex (f ()) Q):Ex ((gNz z).bind f) Q:=by rw [Zfe h];exact k
theorem Zkz {n:Nat} {xs e:List α} {f:List α->Jm β} (h:(Jk xs+Jk e)*n<=140737488355328/\(Jk xs)+Jk e<=4611686018427387904) (k:Ex (f (xs++e)) Q):Ex ((gApp n xs e).bind f) Q:=by rw [ZaE h.1 h.2];exact k
theorem ex_ap {n:Nat} {xs e:List α} {f:List α->Jm β} (k:Ex (f (xs++e)) Q) (h:(Jk xs+Jk e)*n<=140737488355328/\(Jk xs)+Jk e<=4611686018427387904:=by exact ⟨by simp only [List.length_cons,List.length_nil];omega,by simp only [List.length_cons,List.length_nil];omega⟩):Ex ((gApp n xs e).bind f) Q:=Zkz h k
theorem ZA9 {n:Nat} {z:α} {m:Int} {f:List α->Jm β} (h:0<=m/\m.toNat*n<=140737488355328/\m<=4611686018427387904) (k:Ex (f (Jn m.toNat z)) Q):Ex ((gMake n z m m).bind f) Q:=by rw [Zaq h.1 h.2.1 h.2.2];exact k
theorem ex_sl {xs:List α} {lo hi:Int} {f:List α->Jm β} (h:0<=lo/\lo<=hi/\hi<=(Jk xs:Int)) (k:Ex (f ((xs.take hi.toNat).drop lo.toNat)) Q):Ex ((gSl xs lo hi).bind f) Q:=by rw [Zba h.1 h.2.1 h.2.2];exact k
def Tn (I:Nat->σ->Prop) (Q:β->Prop) (n:Nat):σ ⊕ β->Prop
 | .inl s=>∃m,m<n/\I m s
 | .inr r=>Q r
theorem ZR {B:σ->Jm (σ ⊕ β)} (I:Nat->σ->Prop) (n:Nat) {s:σ} (h:I n s) (step:∀n s,I n s->Ex (B s) (Tn I Q n)):Ex (loop B s) Q:=by
 obtain ⟨r,e,q⟩:=ZpO (B:=B) (I:=I) (Q:=Q) (λn s hs=>by
  obtain ⟨z,e,q⟩:=step n s hs;cases z with
  | inl s'=>obtain ⟨m,g,hi⟩:=q;exact .inl ⟨s',m,e,g,hi⟩
  | inr r=>exact .inr ⟨r,e,q⟩) n s h
 exact ⟨r,e,q⟩
end
section
variable {code:Jb} {n:Int} {β:Type} {Q:β->Prop}
theorem ZT (g:Bytes code) {q:Jb} {u v k:Int} {f:Int×Za->Jm β} (h:Src code n (Za.mk q u v)) (i:n<=900000000) (K:∀x s',0<=x->(1<=k->x<k)->x<=65535->Src code (n+2) (Za.mk q s'.qat s'.qseed)->Ex (f (x,s')) Q):Ex ((ZG (Za.mk q u v) k).bind f) Q:=by
 obtain ⟨x,s',e,h1,j⟩:=Zcf g h i (k:=k);rw [e];exact K x s' h1.1 h1.2.1 h1.2.2 (h.of j)
theorem Zew (g:Bytes code) {q:Jb} {u v k:Int} {f:Bool×Za->Jm β} (h:Src code n (Za.mk q u v)) (i:n<=900000000) (K:∀x s',Src code (n+2) (Za.mk q s'.qat s'.qseed)->Ex (f (x,s')) Q):Ex ((ZaR (Za.mk q u v) k).bind f) Q:=by
 obtain ⟨x,s',e,j⟩:=ZK4 g h i (k:=k);rw [e];exact K x s' (h.of j)
theorem Zd1 (g:Bytes code) {q:Jb} {u v:Int} {l:Jb} {f:Int×Za->Jm β} (h:Src code n (Za.mk q u v)) (i:n<=900000000) (k:1<=(Jk l:Int)/\(Jk l:Int)<=60000) (K:∀x s',x∈l->Src code (n+2) (Za.mk q s'.qat s'.qseed)->Ex (f (x,s')) Q):Ex ((ZaT (Za.mk q u v) l).bind f) Q:=by
 obtain ⟨x,s',e,h1,j⟩:=ZpR g h i k.1 k.2;rw [e];exact K x s' h1 (h.of j)
theorem ZjO (g:Bytes code) {q:Jb} {u v m:Int} {f:Jb×Za->Jm β} (h:Src code n (Za.mk q u v)) (i:n<=100000000) (k:1<=m/\m<=32) (K:∀x s',Vc.Perm x m->Src code (n+64) (Za.mk q s'.qat s'.qseed)->Ex (f (x,s')) Q):Ex ((Zcb (Za.mk q u v) m).bind f) Q:=by
 obtain ⟨x,s',e,h1,j⟩:=ZwH g h i k.1 k.2;rw [e];exact K x s' h1 (h.of j)
end
structure Sq (n:Int) (a:Ja):Prop where
 len:(Jk a:Int)=n
 row:∀i,0<=i->i<n->((ix a i).length:Int)=n
 ent:∀i j,0<=i->i<n->0<=j->j<n->0<=ix (ix a i) j/\ix (ix a i) j<n
theorem Sq.set {n:Int} {a:Ja} (h:Sq n a) {x y v:Int} (x0:0<=x) (x1:x<n) (y0:0<=y) (o:y<n) (v0:0<=v) (v1:v<n):Sq n (a.set x.toNat ((ix a x).set y.toNat v)):=by
 have u:=h.len;have r:=h.row x x0 x1;refine ⟨by rw [JC];exact u,λi f g=>?_,λi j f g k l=>?_⟩
 .by_cases e:x=i
  .grind [ZaY,JC]
  .rw [ZbQ x0 f e];exact h.row i f g
 .by_cases e:x=i
  .subst e;rw [ZaY x0 Z];by_cases e:y=j
   .grind [ZaY]
   .rw [ZbQ y0 k e];exact h.ent x j x0 x1 k l
  .rw [ZbQ x0 f e];exact h.ent i j f g k l
theorem Sq.sz {n:Int} {a:Ja} (h:Sq n a) (h1:n<=1000):Sz2 a:=by
 refine ⟨by have:=h.len;omega,λb e=>?_⟩;obtain ⟨i,f,g,rfl⟩:=ZU e;have:=h.row i f (by rw [<-h.len];exact g);omega
theorem Zl3 {r c:Int} (f:0<=r) (g:r<=1000) (h:0<=c) (c1:c<=1000):Zd2 r c=Jg (Jn r.toNat (Jn c.toNat 0)):=by
 unfold Zd2;have:=Zj (B:=Zku r c) (λi=>(Jn i.toNat (Jn c.toNat 0),i)) (i:=0) (n:=r) f λk k0 k1=>by
  have e:(Jn k.toNat (Jn c.toNat (0:Int))).length=k.toNat:=JD;simp (disch:=omega) only [pz,Zku,Zaq,gApp1,e];rw [show (k+1).toNat=k.toNat+1 by omega,List.replicate_succ']
 rw [show (([]:Ja),(0:Int))=(λi:Int=>(Jn i.toNat (Jn c.toNat (0:Int)),i)) 0 from rfl,this];simp [Ze,pz,Zku]
theorem ZkK {n:Int} (h:1<=n):Sq n (Jn n.toNat (Jn n.toNat 0)):=
 ⟨by rw [JD];omega,λi e f=>by rw [ZaZ e Z,JD];omega,λi j e f g k=>by rw [ZaZ e Z,ZaZ g Z];omega⟩
theorem ZoL {n:Int} (n0:1<=n) (n1:n<=30):Ex (Za5 n) (Sq n):=by
 unfold Za5;rw [Zl3 Z Z Z Z];refine ZR (λk s=>0<=s.1/\s.1<=n/\k=(n-s.1).toNat/\Sq n s.2) n.toNat ⟨by show (0:Int)<=0;omega,by show (0:Int)<=n;omega,by show _=(n-0).toNat;omega,ZkK n0⟩ ?_;rintro k ⟨x,xs⟩ ⟨x0,x1,j,h⟩;dsimp only at x0 x1 j h;unfold ZAT;refine ex_d (λe=>?_) λ_=>Zi h;refine ZR (λk s=>0<=s.1/\s.1<=n/\k=(n-s.1).toNat/\Sq n s.2) n.toNat ⟨by show (0:Int)<=0;omega,by show (0:Int)<=n;omega,by show _=(n-0).toNat;omega,h⟩ ?_;rintro k2 ⟨y,w⟩ ⟨y0,g,f,h⟩;dsimp only at y0 g f h;unfold ZDH;have u:=h.len;refine ex_d (λl=>?_) λ_=>?_
 .have o:=h.row x x0 e;refine ZK ⟨x0,by omega⟩ (ex_nz Z (ZK ⟨y0,by omega⟩ (Zi ⟨(n-(y+1)).toNat,by omega,?_⟩)));rw [wr64 Z Z,wr64 Z Z];exact ⟨by omega,by omega,rfl,h.set x0 e y0 l (XL _ Z) (Xx _ Z)⟩
 .refine Zi ⟨(n-(x+1)).toNat,by omega,?_⟩;rw [wr64 Z Z];grind
theorem ZJc {n m:Int} {a b:Ja} (ha:Sq n a) (e:Sq m b) (n0:1<=n) (n1:n<=5) (m0:1<=m) (m1:m<=5):Ex (Zdn a b) (Sq (n*m)):=by
 have la:=ha.len;have lb:=e.len;have b0:1<=n*m:=by have:=J0 n0 m0 Z (by omega:(0:Int)<=n);simpa using this
 have b1:n*m<=25:=by have:=J0 n1 m1 Z (by omega:(0:Int)<=5);simpa using this
 unfold Zdn;rw [la,lb,wr64 Z Z,Zl3 Z Z Z Z];generalize hN:n*m=N at *;have a3:∀z,0<=z->z<N->0<=Jw z m/\Jw z m<n/\0<=Jq z m/\Jq z m<m:=λz f z1=>by
  rw [Xp f];refine ⟨XI f Z,YA Z (by rw [hN];exact z1),XL _ f,Xx _ Z⟩
 refine ZR (λk s=>0<=s.1/\s.1<=N/\k=(N-s.1).toNat/\Sq N s.2) N.toNat ⟨by show (0:Int)<=0;omega,by show (0:Int)<=N;omega,by show _=(N-0).toNat;omega,ZkK b0⟩ ?_;rintro k ⟨x,xs⟩ ⟨x0,x1,hk,h⟩;dsimp only at x0 x1 hk h;unfold ZDk;rw [la,lb,hN,wr64 Z Z];refine ex_d (λg=>?_) λ_=>Zi h;refine ZR (λk s=>0<=s.1/\s.1<=N/\k=(N-s.1).toNat/\Sq N s.2) N.toNat ⟨by show (0:Int)<=0;omega,by show (0:Int)<=N;omega,by show _=(N-0).toNat;omega,h⟩ ?_;rintro k2 ⟨y,ys⟩ ⟨y0,y1,l,h⟩;dsimp only at y0 y1 l h;unfold Zt8;rw [la,lb,hN,wr64 (x:=N) Z Z];have hl:=h.len;refine ex_d (λhy=>?_) λ_=>?_
 .obtain ⟨i,o,j,r⟩:=a3 x x0 g;obtain ⟨w,e2,e3,e4⟩:=a3 y y0 hy;have r1:=h.row x x0 g;have r2:=ha.row _ i o;have r3:=e.row _ j r;have v1:=ha.ent _ _ i o w e2;have v2:=e.ent _ _ j r e3 e4;rw [wr64 (x:=Jw x m) Z Z,wr64 (x:=Jw y m) Z Z];refine ZK ⟨x0,by omega⟩ (ex_nz Z (ZK ⟨i,by omega⟩ (ex_nz Z (ZK ⟨w,by omega⟩ (ex_nz Z (ZK ⟨j,by omega⟩ (ex_nz Z (ZK ⟨e3,by omega⟩ (ZK ⟨y0,by omega⟩ (Zi ⟨(N-(y+1)).toNat,by omega,?_⟩))))))))));generalize ix (ix a (Jw x m)) (Jw y m)=u at v1;generalize ix (ix b (Jq x m)) (Jq y m)=v at v2;have q1:0<=m*u:=J8 Z v1.1;have q2:m*u<=m*(n-1):=Int.mul_le_mul_of_nonneg_left Z Z;have q3:m*(n-1)=N-m:=by rw [Int.mul_sub,<-hN,Int.mul_comm n m,Int.mul_one]
  rw [wr64 (x:=y+1) Z Z,wr64 (x:=m*u) Z Z,wr64 Z Z];exact ⟨by omega,by omega,rfl,h.set x0 g y0 hy Z Z⟩
 .refine Zi ⟨(N-(x+1)).toNat,by omega,?_⟩;rw [wr64 Z Z];grind
theorem ZAW {a:Ja} (h:Sz2 a):ZgF a=Jg a:=by
 have g:=h.1;unfold ZgF;have:=Zj (B:=Znl a) (λi=>(a.take i.toNat,i)) (i:=0) (n:=a.length) Z λk k0 k1=>by
  have f:=h.2 _ (Zl k0 k1);have e:(a.take k.toNat).length=k.toNat:=by rw [Jt];omega
  grind [Zjc,ix,pz,Znl,gApp1,Zai]
 rw [show (([]:Ja),(0:Int))=(λi:Int=>(a.take i.toNat,i)) 0 from rfl,this];simp [Ze,Jp,Jx,pz,Znl]
theorem ZFr {code:Jb} {N:Int} {y0:Za} (o:Bytes code) (hs:Src code (N-6) y0) (hN:N<=100000000) {n:Int} {a:Ja} (h:Sq n a) (n0:1<=n) (n1:n<=100):Ex (ZlV y0 a) λr=>Sq n r.1/\Src code N r.2:=by
 have hl:=h.len;unfold ZlV;rw [ZAW (h.sz Z)];refine ZT o hs Z λx s1 x0 x1 _ h1=>?_;dsimp only;refine ZT o h1 Z λz s2 f z1 _ h2=>?_;dsimp only;refine ex_e (λ_=>Zi ⟨h,h2.mono Z⟩) λ_=>?_;refine ZT o h2 Z λy s3 a2 e _ h3=>?_;dsimp only;have x1:=x1 Z;have z1:=z1 Z;have e:=e Z;have hx:=h.row x x0 Z;refine ZK ⟨x0,x1⟩ (ZK ⟨a2,by omega⟩ ?_);refine ZR (λk s=>(0<=s.1/\s.1<n)/\(0<=s.2.1/\s.2.1<=n)/\k=(n-s.2.1).toNat/\Sq n s.2.2) n.toNat ⟨⟨a2,by show y<n;omega⟩,⟨by show (0:Int)<=0;omega,by show (0:Int)<=n;omega⟩,by show _=(n-0).toNat;omega,h⟩ ?_;rintro k ⟨y,c,xs⟩ ⟨⟨y0,e⟩,⟨c0,c1⟩,hk,g⟩;dsimp only at y0 e c0 c1 hk g;have gl:=g.len;unfold Zp9;dsimp only;refine ex_d (λhc=>?_) λ_=>Zi ⟨g,h3.mono Z⟩;have rx:=g.row x x0 Z;have rz:=g.row z f Z;have vx:=g.ent x y x0 Z y0 e;have vz:=g.ent z y f Z y0 e;have v:=g.set (x:=x) (y:=y) x0 Z y0 e vz.1 vz.2;have r1:=v.row z f Z;have l1:=v.len;have g2:=v.set (x:=z) (y:=y) f Z y0 e vx.1 vx.2;have r2:=g2.row x x0 Z;have l2:=g2.len;refine ZK ⟨x0,by omega⟩ (ZK ⟨y0,by omega⟩ (ZK ⟨f,by omega⟩ (ZK ⟨y0,by omega⟩ (ZK ⟨x0,by omega⟩ (ZK ⟨y0,by omega⟩ (ZK ⟨f,by omega⟩ (ZK ⟨y0,by omega⟩ ?_)))))));refine ex_e (λ_=>Zi ⟨g2,h3.mono Z⟩) λ_=>?_;refine ZR (λk s=>(0<=s.1/\s.1<n)/\(0<=s.2/\s.2<=n)/\k=(n-s.2).toNat) n.toNat ⟨⟨by show (0:Int)<=0;omega,by show (0:Int)<n;omega⟩,⟨by show (0:Int)<=0;omega,by show (0:Int)<=n;omega⟩,by show _=(n-0).toNat;omega⟩ ?_;rintro k2 ⟨u,i⟩ ⟨⟨j,l⟩,⟨i0,i1⟩,a6⟩;dsimp only at j l i0 i1 a6;unfold Zpv;dsimp only;refine ex_d (λhi=>?_) λ_=>Zi ⟨(n-(c+1)).toNat,by omega,⟨j,l⟩,?_⟩
 .have w:Y.wrap (i+1)=i+1:=wr64 Z Z;rw [w];refine ex_n (λ_=>?_) λ_=>Zi ⟨(n-(i+1)).toNat,by omega,⟨j,l⟩,⟨by show 0<=i+1;omega,by show i+1<=n;omega⟩,rfl⟩;refine ZK ⟨x0,by omega⟩ (ZK ⟨i0,by omega⟩ (ex_e (λ_=>Zi ⟨(n-(i+1)).toNat,by omega,⟨i0,by show i<n;omega⟩,⟨by show 0<=i+1;omega,by show i+1<=n;omega⟩,rfl⟩) λ_=>Zi ⟨(n-(i+1)).toNat,by omega,⟨j,l⟩,⟨by show 0<=i+1;omega,by show i+1<=n;omega⟩,rfl⟩))
 .have w:Y.wrap (c+1)=c+1:=wr64 Z Z;grind
theorem ZJ0 {n:Int} {a:Ja} {p q r:Jb} (h:Sq n a) (hp:Vc.Perm p n) (e:Vc.Perm q n) (hr:Vc.Perm r n) (n0:1<=n) (n1:n<=100):Ex (Zkf a p q r) (Sq n):=by
 have o:=h.len;have lp:=hp.len;have lq:=e.len;have lr:=hr.len;unfold Zkf;rw [o,Zl3 Z Z Z Z];refine ZR (λk s=>0<=s.1/\s.1<=n/\k=(n-s.1).toNat/\Sq n s.2) n.toNat ⟨by show (0:Int)<=0;omega,by show (0:Int)<=n;omega,by show _=(n-0).toNat;omega,ZkK n0⟩ ?_;rintro k ⟨x,xs⟩ ⟨x0,x1,hk,g⟩;dsimp only at x0 x1 hk g;unfold ZAw;rw [o];refine ex_d (λf=>?_) λ_=>Zi g;refine ZR (λk s=>0<=s.1/\s.1<=n/\k=(n-s.1).toNat/\Sq n s.2) n.toNat ⟨by show (0:Int)<=0;omega,by show (0:Int)<=n;omega,by show _=(n-0).toNat;omega,g⟩ ?_;rintro k2 ⟨y,ys⟩ ⟨y0,j,i,g⟩;dsimp only at y0 j i g;unfold ZCr;rw [o];have gl:=g.len;refine ex_d (λhy=>?_) λ_=>?_
 .have l:=hp.rng _ (Zl x0 (by omega:x<(Jk p:Int)));have u:=e.rng _ (Zl y0 (by omega:y<(Jk q:Int)));have ra:=h.row x x0 f;have va:=h.ent x y x0 f y0 hy;have rr:=g.row _ l.1 l.2;have w:=hr.rng _ (Zl va.1 (by omega:ix (ix a x) y<(Jk r:Int)));refine ZK ⟨x0,by omega⟩ (ZK ⟨l.1,by omega⟩ (ZK ⟨y0,by omega⟩ (ZK ⟨x0,by omega⟩ (ZK ⟨y0,by omega⟩ (ZK ⟨va.1,by omega⟩ (ZK ⟨u.1,by omega⟩ (Zi ⟨(n-(y+1)).toNat,by omega,?_⟩)))))));rw [wr64 Z Z];exact ⟨by omega,by omega,rfl,g.set l.1 l.2 u.1 u.2 w.1 w.2⟩
 .refine Zi ⟨(n-(x+1)).toNat,by omega,?_⟩;rw [wr64 Z Z];grind
section
variable {code:Jb} {N:Int} {y0:Za}
theorem ZsP (e:Bytes code) (hN:N<=100000000) {n:Int} (n0:1<=n) (n1:n<=5) {a:Ja} (h:Sq n a) {u v:Int} (hs:Src code (N-300) (Za.mk y0.qcode u v)):Ex (Zbc y0 n a u v) λr=>Sq n r.1/\Src code N r.2:=by
 unfold Zbc;refine ZT e hs Z λc s1 x c1 _ h1=>?_;dsimp only;have c1:=c1 Z;refine ZR (λk s=>Sq n s.1/\(0<=s.2.1/\s.2.1<=4)/\k=s.2.1.toNat/\Src code (N-200-6*s.2.1) (Za.mk y0.qcode s.2.2.1 s.2.2.2)) c.toNat ⟨h,⟨x,by show c<=4;omega⟩,rfl,h1.mono (by show _<=N-200-6*c;omega)⟩ ?_;rintro k ⟨b,i,p,q⟩ ⟨g,⟨y,i1⟩,hk,hs⟩;dsimp only at g y i1 hk hs;unfold Ztn;refine ex_d (λhi=>?_) λ_=>?_
 .refine ZC (ZFr e (N:=N-200-6*(i-1)) (hs.mono Z) Z g n0 Z) λr hr=>Zi ⟨(i-1).toNat,by omega,?_⟩;rw [wr64 Z Z];exact ⟨hr.1,⟨by show 0<=i-1;omega,by show i-1<=4;omega⟩,rfl,hs.of hr.2⟩
 .refine ZjO e hs Z ⟨n0,by omega⟩ λp1 s1 f h1=>?_;refine ZjO e h1 Z ⟨n0,by omega⟩ λp2 s2 j h2=>?_;dsimp only;refine ZjO e h2 Z ⟨n0,by omega⟩ λp3 s3 l h3=>?_;dsimp only;refine Zew e h3 Z λo s4 w=>?_;dsimp only;refine ex_c (Zi ⟨g,w.mono Z⟩) ?_;exact ZC (ZJ0 g f j l n0 Z) λr hr=>Zi ⟨hr,w.mono Z⟩
theorem ZLA (e:Bytes code) (hs:Src code (N-310) y0) (j:N<=100000000) {n:Int} (n0:1<=n) (n1:n<=5):Ex (Zmd y0 n) λr=>Sq n r.1/\Src code N r.2:=by
 unfold Zmd;refine ZC (ZoL n0 Z) λa k=>?_;refine ex_e (λg=>?_) λ_=>ex_e (λ_=>by omega) λ_=>ex_e (λ_=>by omega) λ_=>ex_e (λ_=>by omega) λ_=>ZsP e j n0 n1 k (Src.mono (s:=y0) hs Z);refine Zew e (show Src code (N-310) (Za.mk y0.qcode y0.qat y0.qseed) from hs) Z λo s1 h1=>?_;dsimp only;refine ex_c ?_ (ZsP e j n0 n1 k (h1.mono Z));refine ZC (ZoL (n:=2) Z Z) λb f=>ZC (ZoL (n:=2) Z Z) λc h=>ZC (ZJc f h Z Z Z Z) λd i=>?_;exact ZsP e j n0 n1 (by rw [g];exact i) (h1.mono Z)
end
structure Md (m:Int) (a:Ja):Prop where
 len:(Jk a:Int)<=m
 row:∀b∈a,(Jk b:Int)<=100
theorem Md.mono {m e:Int} {a:Ja} (h:Md m a) (g:m<=e):Md e a:=⟨by have:=h.len;omega,h.row⟩
theorem Md.nil {m:Int} (h:0<=m):Md m []:=⟨h,λ_ h=>by simp at h⟩
theorem Md.app {m k:Int} {a b:Ja} (g:Md m a) (e:Md k b):Md (m+k) (a++b):=⟨by have:=g.len;have:=e.len;rw [Jo];omega,λx f=>(List.mem_append.1 f).elim (g.row x) (e.row x)⟩
theorem Md.one {r:Jb} (h:(Jk r:Int)<=100):Md 1 [r]:=⟨JY _,λx e=>by rw [List.mem_singleton.1 e];exact h⟩
theorem Md.sz {m:Int} {a:Ja} (h:Md m a) (g:m<=1000000):Sz2 a:=⟨by have:=h.len;omega,λb e=>by have:=h.row b e;omega⟩
theorem Md.sort {m:Int} {a:Ja} (h:Md m a) (g:m<=1000000):Ex (ZaC a) (Md m):=
 ⟨_,Zmp (by have:=h.len;omega) (λb e=>by have:=h.row b e;omega),by rw [Za4];exact h.len,λb e=>h.row b (Zau.1 e)⟩
theorem ZAG {β:Type} {Q:β->Prop} {l:Jb} {x:Int} {f:Jb->Jm β} (h:(Jk l:Int)<=1000) (k:∀l',(Jk l':Int)<=Jk l+1->Ex (f l') Q):Ex ((Za3 l x).bind f) Q:=by
 grind [ZtA,Zii]
section
variable {code:Jb} {N:Int} {s:Za}
theorem ZxX (e:Bytes code) (hs:Src code (N-200) s) (hN:N<=100000000) {a2:Int}:Ex (Zjz s a2) λr=>Md 10 r.1/\Src code N r.2:=by
 unfold Zjz;refine ZT e (show Src code (N-200) (Za.mk s.qcode s.qat s.qseed) from hs) Z λc s1 u c1 _ h1=>?_;dsimp only;have c1:=c1 Z;refine ZR (λk st=>Md (9-st.2.1) st.1/\(0<=st.2.1/\st.2.1<=9)/\k=st.2.1.toNat/\Src code (N-20*st.2.1) (Za.mk s.qcode st.2.2.1 st.2.2.2)) c.toNat ⟨Md.nil (by show 0<=9-c;omega),⟨u,by show c<=9;omega⟩,rfl,h1.mono (by show _<=N-20*c;omega)⟩ ?_;rintro k ⟨a,i,p,q⟩ ⟨g,⟨v,w⟩,hk,hs⟩;dsimp only at g v w hk hs;unfold Zqd;refine ex_d (λhi=>?_) λ_=>Zi ⟨g.mono Z,hs.mono Z⟩;refine ZT e hs Z λx s2 _ _ _ f=>?_;dsimp only;refine ZT e f Z λd s3 y h _ h3=>?_;dsimp only;have h:=h Z;refine ZR (λk st=>(Jk st.1:Int)<=5-st.2.1/\(0<=st.2.1/\st.2.1<=4)/\k=st.2.1.toNat/\Src code (N-20*i+14-2*st.2.1) (Za.mk s.qcode st.2.2.1 st.2.2.2)) d.toNat ⟨by show (1:Int)<=5-d;omega,⟨y,by show d<=4;omega⟩,rfl,h3.mono (by show _<=N-20*i+14-2*d;omega)⟩ ?_;rintro k2 ⟨l,j,p,q⟩ ⟨gl,⟨j0,j1⟩,o,hs⟩;dsimp only at gl j0 j1 o hs;unfold ZsN;refine ex_d (λhj=>?_) λ_=>?_
 .refine ZT e hs Z λx s2 _ _ _ f=>?_;dsimp only;refine ZAG Z λl' a8=>Zi ⟨(j-1).toNat,by omega,?_⟩;rw [wr64 Z Z];grind
 .have gn:=g.len;refine ex_ap (Zi ⟨(i-1).toNat,by omega,?_⟩);rw [wr64 Z Z];exact ⟨(g.app (Md.one Z)).mono (by show _<=9-(i-1);omega),⟨by show 0<=i-1;omega,by show i-1<=9;omega⟩,rfl,hs.mono (by show _<=N-20*(i-1);omega)⟩
theorem ZIA {r:Int×Za} (f:0<=r.1) (h:r.1<=3) {x:Int} (x0:0<=x) (x1:x<=6) {I:Nat->Ja×Int->Prop} {n:Nat} {Q:Zz×Za->Prop} {a:Ja} (g:Md (10*x) a) (K:∀l,Md (10*(x+1)) l->Tn I Q n (.inl (l,x+1))):
  Ex (loop (Zll r x) (a,Y.wrap (x+1))) (Tn I Q n):=by
 rw [wr64 Z Z];have w:Y.wrap (3+r.1)=3+r.1:=wr64 Z Z;refine ZR (λk st=>Md (10*x+st.2-(x+1)) st.1/\(x+1<=st.2/\st.2<=7)/\k=(7-st.2).toNat) (7-(x+1)).toNat ⟨g.mono (by show 10*x<=10*x+(x+1)-(x+1);omega),⟨JY _,by show x+1<=7;omega⟩,rfl⟩ ?_;rintro k ⟨b,y⟩ ⟨j,⟨y0,e⟩,o⟩;dsimp only at j y0 e o;unfold Zll;rw [w];have u:=j.len;refine ex_d (λhy=>?_) λ_=>?_
 .refine ex_ap (Zi ⟨(7-(y+1)).toNat,by omega,?_⟩);rw [wr64 Z Z];exact ⟨(j.app (Md.one (by simp))).mono (by show _<=10*x+(y+1)-(x+1);omega),⟨by show x+1<=y+1;omega,by show y+1<=7;omega⟩,rfl⟩
 .refine Zi ?_;rw [wr64 Z Z];exact K b (j.mono Z)
theorem Zy2 {m:Int} (j:1<=m) (o:m<=20) {z:Int} (v:0<=z) (z1:z<=20) {l:Jb} (hl:(Jk l:Int)<=5) (hr:∀x∈l,0<=x/\x<=20) {I:Nat->Ja×Int->Prop} {n:Nat} {Q:Zz×Za->Prop} {a:Ja} (g:Md z a) (K:∀a',Md (z+1) a'->Tn I Q n (.inl (a',z+1))) {B:Jb×Int->Jm ((Jb×Int) ⊕ ((Ja×Int) ⊕ (Zz×Za)))}
  (hB:∀u i,B (u,i)=bif i<(Jk l:Int) then (gIdx l i).bind λe=>(gNz m).bind λ_=>(Za3 u (Jq (Y.wrap (e+z)) m)).bind λr=>Jg (.inl (r,Y.wrap (i+1))) else (gApp 24 a [u]).bind λw=>Jg (.inr (.inl (w,Y.wrap (z+1))))):
  Ex (loop B ([],0)) (Tn I Q n):=by
 refine ZR (λk st=>(Jk st.1:Int)<=st.2/\(0<=st.2/\st.2<=(Jk l:Int))/\k=((Jk l:Int)-st.2).toNat) (Jk l) ⟨by show (0:Int)<=0;omega,⟨by show (0:Int)<=0;omega,by show (0:Int)<=_;omega⟩,by show _=((Jk l:Int)-0).toNat;omega⟩ ?_;rintro k ⟨u,i⟩ ⟨gu,⟨f,h⟩,hk⟩;dsimp only at gu f h hk;rw [hB];have gn:=g.len;refine ex_d (λhi=>?_) λ_=>?_
 .refine ZK ⟨f,hi⟩ (ex_nz Z (ZAG Z λl' a6=>Zi ⟨((Jk l:Int)-(i+1)).toNat,by omega,?_⟩));rw [wr64 (x:=i+1) Z Z];exact ⟨by show (Jk l':Int)<=i+1;omega,⟨by show 0<=i+1;omega,by show i+1<=_;omega⟩,rfl⟩
 .refine ex_ap (Zi ?_);rw [wr64 Z Z];exact K _ (g.app (Md.one Z))
theorem ZOB (e:Bytes code) (hs:Src code (N-10) s) (hN:N<=100000000):Ex (ZjP s) λr=>Md 100 r.1.Blocks/\Src code N r.2:=by
 unfold ZjP;refine ZT e (show Src code (N-10) (Za.mk s.qcode s.qat s.qseed) from hs) Z λc s1 v c1 _ h1=>?_;dsimp only;refine ex_e (λ_=>?_) λ_=>ex_e (λ_=>?_) λ_=>ex_e (λ_=>?_) λ_=>?_
 .refine ZC (Md.sort (m:=7) ⟨by simp,by simp⟩ Z) λr hr=>Zi ⟨hr.mono Z,h1.mono Z⟩
 .refine ZT e h1 Z λd s2 j f _ o=>?_;have f:=f Z;have w:Y.wrap (3+d)=3+d:=wr64 Z Z;refine ZR (λk st=>Md (10*st.2) st.1/\(0<=st.2/\st.2<=7)/\k=(7-st.2).toNat) 7 ⟨Md.nil (by show (0:Int)<=10*0;omega),⟨by show (0:Int)<=0;omega,by show (0:Int)<=7;omega⟩,rfl⟩ ?_;rintro k ⟨a,x⟩ ⟨g,⟨x0,x1⟩,hk⟩;dsimp only at g x0 x1 hk;unfold ZrP;dsimp only;rw [w];refine ex_d (λh=>?_) λ_=>ZC (g.sort Z) λr hr=>Zi ⟨hr.mono Z,o.mono Z⟩;exact ZIA (r:=(d,s2)) j (by show d<=3;omega) x0 Z g λa' a2=>⟨(7-(x+1)).toNat,by omega,a2,⟨by show 0<=x+1;omega,by show x+1<=7;omega⟩,rfl⟩
 .refine ZR (λk st=>Md st.2 st.1/\(0<=st.2/\st.2<=11)/\k=(11-st.2).toNat) 11 ⟨Md.nil (by show (0:Int)<=0;omega),⟨by show (0:Int)<=0;omega,by show (0:Int)<=11;omega⟩,rfl⟩ ?_;rintro k ⟨a,x⟩ ⟨g,⟨x0,x1⟩,hk⟩;dsimp only at g x0 x1 hk;unfold ZrE;refine ex_d (λh=>?_) λ_=>ZC (g.sort Z) λr hr=>Zi ⟨hr.mono Z,h1.mono Z⟩;exact Zy2 (m:=11) (l:=[1,3,4,5,9]) Z Z x0 Z (by simp) (by simp) g (λa' a2=>⟨(11-(x+1)).toNat,by omega,a2,⟨by show 0<=x+1;omega,by show x+1<=11;omega⟩,rfl⟩) λu i=>by unfold Zst;rfl
 .refine ZR (λk st=>Md st.2 st.1/\(0<=st.2/\st.2<=13)/\k=(13-st.2).toNat) 13 ⟨Md.nil (by show (0:Int)<=0;omega),⟨by show (0:Int)<=0;omega,by show (0:Int)<=13;omega⟩,rfl⟩ ?_;rintro k ⟨a,x⟩ ⟨g,⟨x0,x1⟩,hk⟩;dsimp only at g x0 x1 hk;unfold Zql;refine ex_d (λh=>?_) λ_=>ZC (g.sort Z) λr hr=>Zi ⟨hr.mono Z,h1.mono Z⟩;exact Zy2 (m:=13) (l:=[0,1,3,9]) Z Z x0 Z (by simp) (by simp) g (λa' a2=>⟨(13-(x+1)).toNat,by omega,a2,⟨by show 0<=x+1;omega,by show x+1<=13;omega⟩,rfl⟩) λu i=>by unfold Zo6;rfl
theorem ZFq (e:Bytes code) (hs:Src code (N-250) s) (j:N<=100000000):Ex (ZlE s) λr=>Md 100 r.1.Blocks/\Src code N r.2:=by
 unfold ZlE;refine Zew e (show Src code (N-250) (Za.mk s.qcode s.qat s.qseed) from hs) Z λo s1 h1=>?_;dsimp only;refine ex_c ?_ ?_
 .exact ZC (ZOB e (h1.mono (m:=N-10) Z) j) λr h=>Zi ⟨h.1,h1.of h.2⟩
 .refine ZT e h1 Z λc s2 _ _ _ f=>?_;dsimp only;refine ZC (ZxX e (f.mono (m:=N-200) Z) j) λr h=>ZC (h.1.sort Z) λr2 g=>Zi ⟨g.mono Z,f.of h.2⟩
theorem ZKV (e:Bytes code) (hs:Src code (N-300) s) (hN:N<=100000000):Ex (Zlq s) λr=>Md 150 r.1.Blocks/\Src code N r.2:=by
 unfold Zlq;refine ZC (ZFq e (N:=N-50) (show Src code _ (Za.mk s.qcode s.qat s.qseed) from hs.mono Z) Z) λr hr=>?_;have i:Src code (N-50) (Za.mk s.qcode r.2.qat r.2.qseed):=hs.of hr.2;have u:=hr.1;have j:=u.len;refine ZT e i Z λc s1 _ _ _ h1=>?_;dsimp only;refine ex_e (λ_=>?_) λ_=>ex_e (λ_=>?_) λ_=>ex_e (λ_=>?_) λ_=>ex_e (λ_=>?_) λ_=>ex_e (λ_=>?_) λ_=>?_
 .refine Zd1 e h1 Z (by simp) λx s2 _ f=>?_;dsimp only;exact Zi ⟨u.mono Z,f.mono Z⟩
 .exact ex_ap (Zi ⟨(u.app (Md.one (by simp))).mono Z,h1.mono Z⟩)
 .exact ex_ap (Zi ⟨(u.app (Md.one (by simp))).mono Z,h1.mono Z⟩)
 .exact ex_ap (Zi ⟨(u.app (Md.one (by simp))).mono Z,h1.mono Z⟩)
 .refine ZT e h1 Z λd s2 l h _ f=>?_;have h:=h Z;have w:Y.wrap (127+d)=127+d:=wr64 Z Z;refine ZR (λk a=>Md 140 a/\k=(140-(Jk a:Int)).toNat) 140 ⟨Md.nil Z,by simp⟩ ?_;rintro k a ⟨g,hk⟩;have gn:=g.len;unfold ZsA;dsimp only;rw [w];refine ex_d (λo=>ex_ap (Zi ⟨_,?_,⟨?_,?_⟩,rfl⟩)) λ_=>Zi ⟨g.mono Z,f.mono Z⟩
  .grind
  .grind
  .exact (g.app (Md.one (by simp))).row
 .exact Zi ⟨u.mono Z,h1.mono Z⟩
def setB (n:Int):Jb->Bool
 | []=>Ji
 | x::r=>decide (0<=x)&&decide (x<n)&&(match r with|[]=>Ji|y::_=>decide (x<y))&&setB n r
theorem Zvm {n:Int}:∀{l:Jb},setB n l=Ji->SetIn l n
 | [],_=>⟨.nil,by simp⟩
 | [x],h=>by
  simp [setB] at h;exact ⟨by simp,by simp;omega⟩
 | x::y::r,h=>by
  simp only [setB,Jz,decide_eq_true_eq] at h;have e:=Zvm (n:=n) (l:=y::r) (by simp only [setB,Jz,decide_eq_true_eq];exact h.2);refine ⟨List.pairwise_cons.2 ⟨λz hz=>?_,e.srt⟩,λz hz=>?_⟩
  .rcases List.mem_cons.1 hz with rfl|hz
   .exact h.1.2
   .have:=(List.pairwise_cons.1 e.srt).1 z hz;omega
  .rcases List.mem_cons.1 hz with rfl|hz
   .exact h.1.1
   .exact e.rng z hz
noncomputable def fanoT:Bool:=match ZoQ 200 7 with
 | some d=>JJ (Jk d.Blocks) 100&&d.Blocks.all λb=>JJ (Jk b) 100&&setB 7 b
 | none=>Jj
theorem ZLy:fanoT=true:=κ
theorem ZMl:Ex (Zjh 7) λd=>Md 100 d.Blocks/\∀b∈d.Blocks,SetIn b 7:=by
 have h:=ZLy;unfold fanoT at h;split at h
 .rename_i d e;rw [Jz,XH,JZ] at h;refine ⟨d,ZMI _ _ e,⟨by omega,λb f=>?_⟩,λb f=>?_⟩
  .have:=h.2 b f;rw [Jz,XH] at this;omega
  .simp_all [Jz,Zvm]
 .cases h
theorem ZPk {d:Zz} {p:Jb} {n:Int} (hp:Vc.Perm p n) (g:∀b∈d.Blocks,SetIn b n) (l:Md 1000 d.Blocks):Zmj d p=Jg ⟨d.Points,sortRows (d.Blocks.map (imgS p))⟩:=by
 have w:=l.len;unfold Zmj;have:=Zj (B:=Zn3 d p) (λi=>((d.Blocks.take i.toNat).map (imgS p),i)) (i:=0) (n:=d.Blocks.length) Z λk k0 k1=>by
  have f:=Zl k0 k1;have u:=l.row _ f;have e:((d.Blocks.take k.toNat).map (imgS p)).length=k.toNat:=by rw [Ju,Jt];omega
  have o:=ZLz hp (g _ f) Z;simp (disch:=omega) only [pz,Zn3,o,gApp1,e];grind [Zai]
 rw [show (([]:Ja),(0:Int))=(λi:Int=>((d.Blocks.take i.toNat).map (imgS p),i)) 0 from rfl,this];refine Ze ?_;rw [Jp,Jx];have es:=Zmp (xs:=d.Blocks.map (imgS p)) (by rw [Ju];omega) (λb h=>by
  obtain ⟨c,j,rfl⟩:=List.mem_map.1 h;rw [ZuA];have:=l.row c j;omega)
 grind [pz,Zn3]
theorem ZJn (e:Bytes code) (hs:Src code (N-350) s) (l:N<=100000000):Ex (Zm8 s) λr=>Md 150 r.1.Blocks/\Src code N r.2:=by
 unfold Zm8;refine ZT e (show Src code (N-350) (Za.mk s.qcode s.qat s.qseed) from hs) Z λc s1 _ _ _ h1=>?_;dsimp only;refine ex_e (λ_=>?_) λ_=>ex_e (λ_=>?_) λ_=>?_
 .refine ZC ZMl λd f=>?_;refine ZjO e h1 Z Z λp s2 hp h=>?_;dsimp only;refine ZC ⟨_,ZPk (d:=⟨d.Points,d.Blocks⟩) hp f.2 (f.1.mono Z),rfl⟩ λr j=>?_;subst j;refine Zi ⟨⟨?_,λb e=>?_⟩,h.mono Z⟩
  .have:=f.1.len;grind [sortRows,imgS,Za4,Ju]
  .obtain ⟨z,hz,rfl⟩:=List.mem_map.1 (Zau.1 e);rw [ZuA];exact f.1.row z hz
 .exact ZC (ZKV e (N:=N) (h1.mono Z) l) λr j=>Zi ⟨j.1,h1.of j.2⟩
 .refine ZT e h1 Z λx s2 _ _ _ h=>?_;dsimp only;refine ZC (ZxX e (h.mono (m:=N-200) Z) l) λr j=>?_;refine ZR (λk a=>Md 10 a/\k=Jk a) (Jk r.1) ⟨j.1,rfl⟩ ?_;rintro k a ⟨g,rfl⟩;unfold Zqc;refine ex_d (λf=>ex_sl ⟨by omega,by omega,JY _⟩ (Zi ⟨_,?_,⟨?_,?_⟩,rfl⟩)) λ_=>ZC (g.sort Z) λr2 i=>Zi ⟨i.mono Z,h.of j.2⟩
  .grind
  .have:=g.len;grind
  .exact λb e=>g.row b (Xq (Ym e))
end
noncomputable def splT (q:Int):Bool:=match ZdJ 100 q with
 | some r=>!(r.1==0)
 | none=>Jj
theorem spl_t:([2,3,4,5,7,8,9]:Jb).all splT=true:=κ
theorem Zp3 {q:Int} (h:q∈([2,3,4,5,7,8,9]:Jb)):∃f j,Made q f/\Ff f q j:=by
 rcases Zky q with ⟨f,hm⟩|⟨h1,_⟩
 .obtain ⟨j,k⟩:=Zk7 hm.gf;grind
 .exfalso;have:=List.all_eq_true.1 spl_t q h;unfold splT at this;split at this
  .rename_i r e;have g:=Zi9 _ _ e;grind
  .cases this
theorem ZA8 {β:Type} {Q:β->Prop} {f:Zd} {q:Int} {l:Jb} (j:Ff f q l) {a b:Int} (o:0<=a/\a<q) (e:0<=b/\b<q) {g:Int->Jm β} (k:∀c,0<=c->c<q->Ex (g c) Q):Ex ((Zc4 (Zd.mk f.Prime f.Degree f.Poly) a b 1).bind g) Q:=by
 have h:=j.q64;have hp:=j.fd.p2;rw [show Zd.mk f.Prime f.Degree f.Poly=f from rfl,ZrV j.fd o.1 Z e.1 Z Z Z];have r:=ZiF j.fd j.pw a b 1;grind
theorem ZyD {β:Type} {Q:β->Prop} {f:Zd} {q:Int} {l:Jb} (j:Ff f q l) {a b:Int} (o:0<=a/\a<q) (e:0<=b/\b<q) {g:Int->Jm β} (k:∀c,0<=c->c<q->Ex (g c) Q):Ex ((Zb7 (Zd.mk f.Prime f.Degree f.Poly) a b).bind g) Q:=by
 have h:=j.q64;rw [show Zd.mk f.Prime f.Degree f.Poly=f from rfl,Zil j.fd o.1 Z e.1 Z];have r:=Zb2 j.fd j.pw a b;grind
theorem ZGf {q m:Int} (i:q∈([2,3,4,5,7,8,9]:Jb)) (j:0<=m) (l:m<q):Ex (Zop q m) (Sq q):=by
 obtain ⟨f,a6,hM,hF⟩:=Zp3 i;have q2:=hF.q2;have w:=hF.q64;unfold Zop;rw [hM.mks,Zl3 Z Z Z Z];refine ZR (λk s=>0<=s.1/\s.1<=q/\k=(q-s.1).toNat/\Sq q s.2) q.toNat ⟨by show (0:Int)<=0;omega,by show (0:Int)<=q;omega,by show _=(q-0).toNat;omega,ZkK Z⟩ ?_;rintro k ⟨x,xs⟩ ⟨x0,x1,hk,h⟩;dsimp only at x0 x1 hk h;unfold ZBE;refine ex_d (λe=>?_) λ_=>Zi h;refine ZyD hF ⟨j,l⟩ ⟨x0,e⟩ λc o c1=>?_;refine ZR (λk s=>0<=s.1/\s.1<=q/\k=(q-s.1).toNat/\Sq q s.2) q.toNat ⟨by show (0:Int)<=0;omega,by show (0:Int)<=q;omega,by show _=(q-0).toNat;omega,h⟩ ?_;rintro k2 ⟨y,ys⟩ ⟨y0,r,g,h⟩;dsimp only at y0 r g h;unfold ZBQ;have hl:=h.len;refine ex_d (λhy=>?_) λ_=>?_
 .have hr:=h.row x x0 e;refine ZA8 hF ⟨o,c1⟩ ⟨y0,hy⟩ λd u v=>ZK ⟨x0,by omega⟩ (ZK ⟨y0,by omega⟩ (Zi ⟨(q-(y+1)).toNat,by omega,?_⟩));rw [wr64 Z Z];exact ⟨by omega,by omega,rfl,h.set x0 e y0 hy u v⟩
 .refine Zi ⟨(q-(x+1)).toNat,by omega,?_⟩;rw [wr64 Z Z];grind
structure Sqs (q:Int) (l:List Ja):Prop where
 one:1<=(Jk l:Int)
 len:(Jk l:Int)<=q-1
 all:∀a∈l,Sq q a
theorem ZNb {q:Int} (e:q∈([2,3,4,5,7,8,9]:Jb)):Ex (ZlG q) λl=>(Jk l:Int)=q-1/\∀a∈l,Sq q a:=by
 have i:2<=q/\q<=9:=by simp at e;omega
 unfold ZlG;refine ZR (λk s=>(1<=s.2/\s.2<=q)/\k=(q-s.2).toNat/\(Jk s.1:Int)=s.2-1/\∀a∈s.1,Sq q a) q.toNat.pred ⟨⟨by show (1:Int)<=1;omega,by show (1:Int)<=q;omega⟩,by show _=(q-1).toNat;simp,rfl,by simp⟩ ?_;rintro k ⟨l,m⟩ ⟨⟨f,g⟩,o,u,h⟩;dsimp only at f g o u h;unfold Zum;refine ex_d (λj=>?_) λ_=>Zi ⟨by omega,h⟩;refine ZC (ZGf e Z j) λa w=>ex_ap (Zi ⟨(q-(m+1)).toNat,by omega,?_⟩);rw [wr64 Z Z];grind
section
variable {code:Jb} {N:Int} {s:Za}
theorem ZKX (e:Bytes code) (hs:Src code (N-10) s) (hN:N<=100000000) {q:Int} (f:q∈([2,3,4,5,7,8,9]:Jb)):Ex (Zkr s q) λr=>Sqs q r.1/\Src code N r.2:=by
 have o:2<=q/\q<=9:=by simp at f;omega
 unfold Zkr;refine ZC (ZNb f) λl hl=>?_;have u:=hl.1;refine ZT e (show Src code (N-10) (Za.mk s.qcode s.qat s.qseed) from hs) Z λc s1 h c1 _ h1=>?_;dsimp only;have c1:=c1 Z;have v:(((l.take (Jk l:Int).toNat).drop c.toNat).length:Int)=Jk l-c:=by rw [JO,Jt];omega
 have w:(((l.take c.toNat).drop (0:Int).toNat).length:Int)=c:=by rw [JO,Jt];omega
 refine ex_sl ⟨h,by omega,JY _⟩ (Zkz ⟨by simp only [Xn];omega,by simp only [Xn];omega⟩ (ex_sl ⟨by omega,h,by omega⟩ (Zkz ⟨by simp only [Xm];omega,by simp only [Xm];omega⟩ ?_)));generalize hg:[]++(l.take (Jk l:Int).toNat).drop c.toNat++(l.take c.toNat).drop (0:Int).toNat=g;have x:(Jk g:Int)=q-1:=by rw [<-hg,Jo,Xm];omega
 have j:∀a∈g,Sq q a:=λa ha=>by
  grind
 refine ZT e h1 Z λd s2 y i _ k=>?_;dsimp only;have i:=i Z;rw [wr64 Z Z];refine ex_sl ⟨by omega,by omega,by omega⟩ (Zi ⟨⟨?_,?_,λa ha=>j a (Xq (Ym ha))⟩,k.mono Z⟩)
 .grind
 .grind
end
structure Mn (m:Int) (a:Ja):Prop where
 md:Md m a
 ne:∀b∈a,1<=(Jk b:Int)
theorem Mn.mono {m e:Int} {a:Ja} (h:Mn m a) (g:m<=e):Mn e a:=⟨h.md.mono g,h.ne⟩
theorem Mn.nil {m:Int} (h:0<=m):Mn m []:=⟨Md.nil h,by simp⟩
theorem Mn.app {m k:Int} {a b:Ja} (g:Mn m a) (e:Mn k b):Mn (m+k) (a++b):=⟨g.md.app e.md,λx f=>(List.mem_append.1 f).elim (g.ne x) (e.ne x)⟩
theorem Mn.one {r:Jb} (h:1<=(Jk r:Int)) (e:(Jk r:Int)<=100):Mn 1 [r]:=⟨Md.one e,λx f=>by rw [List.mem_singleton.1 f];exact h⟩
theorem ZMC {q:Int} {l:List Ja} (h:Sqs q l) (q0:2<=q) (u:q<=9):Ex (Zlh l) λa=>Mn 100 a.Rows/\a.Columns=Jk l+2:=by
 have h1:=h.one;have h2:=h.len;unfold Zlh;refine ZK ⟨by omega,by omega⟩ ?_;have hs:=h.all _ (Zl (xs:=l) (i:=0) Z Z);have hl:=hs.len;generalize hn:(ix l 0)=e at hs hl;have qq:q*q<=81:=by have:=J0 u u Z (by omega:(0:Int)<=9);simpa using this
 have a4:0<=q*q:=J8 Z Z;refine ZR (λk s=>(0<=s.1/\s.1<=q*q)/\k=(q*q-s.1).toNat/\Mn s.1 s.2) (q*q).toNat ⟨⟨by show (0:Int)<=0;omega,by show (0:Int)<=q*q;omega⟩,by show _=(q*q-0).toNat;omega,Mn.nil (by show (0:Int)<=0;omega)⟩ ?_;rintro k ⟨c,xs⟩ ⟨⟨f,c1⟩,hk,g⟩;dsimp only at f c1 hk g;unfold ZyQ;rw [hl,wr64 (x:=q*q) Z Z];have gn:=g.md.len;have w2:Y.wrap ((Jk l:Int)+2)=Jk l+2:=wr64 Z Z;refine ex_d (λy=>ex_nz Z (ex_nz Z ?_)) λ_=>Zi ⟨g.mono Z,w2⟩;have j:0<=Jw c q/\Jw c q<q:=by
  rw [Xp f];exact ⟨XI f Z,YA Z y⟩
 have d2:0<=Jq c q/\Jq c q<q:=⟨XL _ f,Xx _ Z⟩
 refine ZR (λk s=>(Jk s.1:Int)=2+s.2/\(0<=s.2/\s.2<=(Jk l:Int))/\k=((Jk l:Int)-s.2).toNat) (Jk l) ⟨rfl,⟨by show (0:Int)<=0;omega,by show (0:Int)<=_;omega⟩,by show _=((Jk l:Int)-0).toNat;omega⟩ ?_;rintro k2 ⟨r,i⟩ ⟨gr,⟨o,i1⟩,v⟩;dsimp only at gr o i1 v;unfold Zvo;rw [hl];refine ex_d (λhi=>?_) λ_=>?_
 .have w:=h.all _ (Zl (xs:=l) (i:=i) o hi);have a9:=w.len;have a8:=w.row _ j.1 j.2;rw [wr64 (x:=Jw c q) Z Z];refine ZK ⟨o,hi⟩ (ex_nz Z (ZK ⟨j.1,by omega⟩ (ex_nz Z (ZK ⟨d2.1,by omega⟩ (ex_ap (Zi ⟨((Jk l:Int)-(i+1)).toNat,by omega,?_⟩))))));rw [wr64 (x:=i+1) Z Z];grind
 .refine ex_ap (Zi ⟨(q*q-(c+1)).toNat,by omega,?_⟩);rw [wr64 (x:=c+1) Z Z];exact ⟨⟨by show 0<=c+1;omega,by show c+1<=q*q;omega⟩,rfl,g.app (Mn.one Z Z)⟩
theorem Zph {b m:Int} (f:1<=b) (g:b<=20) (h:0<=m) (o:m<=1000):Ex (ZeO b m) λc=>1<=c/\c<=257:=by
 unfold ZeO;refine ZR (λk s=>(1<=s.1/\s.1<=256)/\(0<=s.2/\s.2<=m)/\k=(m-s.2).toNat) m.toNat ⟨⟨by show (1:Int)<=1;omega,by show (1:Int)<=256;omega⟩,⟨by show (0:Int)<=0;omega,h⟩,by show _=(m-0).toNat;omega⟩ ?_;rintro k ⟨c,i⟩ ⟨⟨e,c1⟩,⟨j,l⟩,w⟩;dsimp only at e c1 j l w;unfold Zvu;dsimp only;have r:1<=c*b:=by have:=J0 e f Z (by omega:(0:Int)<=c);simpa using this
 have u:c*b<=5120:=by have:=J0 c1 g Z (by omega:(0:Int)<=256);simpa using this
 rw [wr64 (x:=c*b) Z Z];refine ex_d (λhi=>ex_d (λ_=>Zi ⟨by omega,by omega⟩) λv=>Zi ⟨(m-(i+1)).toNat,by omega,?_⟩) λ_=>Zi ⟨e,by omega⟩;rw [wr64 (x:=i+1) Z Z];omega
theorem ZCp {n b m:Int} (n0:0<=n) (n1:n<=100000) (v:1<=b) (r:0<=m) (w:m<=100):Ex (ZiI n b m) λl=>(Jk l:Int)=m/\∀i,0<=i->i<m->0<=ix l i/\ix l i<b:=by
 unfold ZiI;refine ZA9 ⟨r,by omega,by omega⟩ ?_;rw [wr64 Z Z];refine ZR (λk s=>(0<=s.1/\s.1<=100000)/\(-1<=s.2.1/\s.2.1<m)/\k=(s.2.1+1).toNat/\(Jk s.2.2:Int)=m/\∀i,0<=i->i<m->0<=ix s.2.2 i/\ix s.2.2 i<b) m.toNat ⟨⟨n0,n1⟩,⟨by show -1<=m-1;omega,by show m-1<m;omega⟩,by show _=(m-1+1).toNat;omega,by show ((Jn m.toNat (0:Int)).length:Int)=m;rw [JD];omega,λi g o=>by show 0<=ix (Jn m.toNat 0) i/\_;rw [ZaZ g Z];omega⟩ ?_;rintro k ⟨c,i,xs⟩ ⟨⟨f,c1⟩,⟨g,o⟩,hk,hl,h⟩;dsimp only at f c1 g o hk hl h;unfold Zxh;refine ex_d (λhi=>ex_nz Z (ZK ⟨hi,by omega⟩ (ex_nz Z (Zi ⟨(i-1+1).toNat,by omega,?_⟩)))) λ_=>Zi ⟨hl,h⟩;have u:0<=Jw c b/\Jw c b<=c:=by
  rw [Xp f];exact ⟨XI f Z,Int.ediv_le_self _ f⟩
 rw [wr64 (x:=Jw c b) Z Z,wr64 (x:=i-1) Z Z];refine ⟨⟨u.1,by show Jw c b<=100000;omega⟩,⟨by show -1<=i-1;omega,by show i-1<m;omega⟩,rfl,by rw [JC];exact hl,λj y j1=>?_⟩;show 0<=ix (xs.set i.toNat (Jq c b)) j/\_;by_cases e:i=j
 .subst e;rw [ZaY hi Z];exact ⟨XL _ f,Xx _ Z⟩
 .grind [ZbQ]
theorem ZPo {l c:Int} (l0:1<=l) (l1:l<=20) (u:1<=c) (c1:c<=50):Ex (ZjV l c) λr=>Mn 300 r.1.Rows:=by
 unfold ZjV;refine ZC (R:=λ_=>True) ?_ λb _=>ex_c (Zi (Mn.nil Z)) ?_
 .unfold ZgD;rw [in_ok];refine ZC (R:=λ_=>True) ⟨_,rfl,trivial⟩ λb _=>ex_c ?_ (Zi trivial);rw [in_ok];exact ⟨_,rfl,trivial⟩
 refine ZC (Zph l0 l1 Z Z) λn v=>ex_d (λ_=>Zi (Mn.nil Z)) λj=>?_;refine ZR (λk s=>(0<=s.1/\s.1<=n)/\k=(n-s.1).toNat/\Mn s.1 s.2) n.toNat ⟨⟨by show (0:Int)<=0;omega,by show (0:Int)<=n;omega⟩,by show _=(n-0).toNat;omega,Mn.nil (by show (0:Int)<=0;omega)⟩ ?_;rintro k ⟨i,xs⟩ ⟨⟨e,f⟩,w,g⟩;dsimp only at e f w g;have x:=g.md.len;unfold ZCU;refine ex_d (λhi=>?_) λ_=>Zi (g.mono Z);refine ZC (ZCp e Z l0 Z Z) λd h=>ex_ap (Zi ⟨(n-(i+1)).toNat,by omega,?_⟩);have o:=h.1;rw [wr64 Z Z];exact ⟨⟨by show 0<=i+1;omega,by show i+1<=n;omega⟩,rfl,g.app (Mn.one Z Z)⟩
theorem ZN0 {q t c:Int} (j:q∈([2,3,4,5,7,8,9]:Jb)) (t0:1<=t) (t1:t<=10) (c0:1<=c) (c1:c<=50):Ex (Zl8 q t c) λa=>Mn 300 a.Rows:=by
 obtain ⟨f,al,hM,hF⟩:=Zp3 j;have q2:=hF.q2;have a8:q<=9:=by simp at j;omega
 unfold Zl8;rw [hM.mks];refine ZC (R:=λx=>x=f) ⟨f,rfl,rfl⟩ λ_ hf=>?_;subst hf;refine ZC (Zph Z Z Z Z) λn hn=>?_;refine ZR (λk s=>(0<=s.1/\s.1<=n)/\k=(n-s.1).toNat/\Mn s.1 s.2) n.toNat ⟨⟨by show (0:Int)<=0;omega,by show (0:Int)<=n;omega⟩,by show _=(n-0).toNat;omega,Mn.nil (by show (0:Int)<=0;omega)⟩ ?_;rintro k ⟨i,xs⟩ ⟨⟨l,i1⟩,hk,g⟩;dsimp only at l i1 hk g;have gn:=g.md.len;unfold Zyc;refine ex_d (λhi=>?_) λ_=>Zi (g.mono Z);refine ZC (ZCp l Z Z Z Z) λd o=>?_;have a9:=o.1;refine ZR (λk s=>(Jk s.1:Int)=s.2/\(0<=s.2/\s.2<=c)/\k=(c-s.2).toNat) c.toNat ⟨rfl,⟨by show (0:Int)<=0;omega,by show (0:Int)<=c;omega⟩,by show _=(c-0).toNat;omega⟩ ?_;rintro k2 ⟨r,y⟩ ⟨gr,⟨y0,y1⟩,a2⟩;dsimp only at gr y0 y1 a2;have fin:∀v,Ex (Zie r y v) (Tn (λk (s:Jb×Int)=>(Jk s.1:Int)=s.2/\(0<=s.2/\s.2<=c)/\k=(c-s.2).toNat) (Tn (λk (s:Int×Ja)=>(0<=s.1/\s.1<=n)/\k=(n-s.1).toNat/\Mn s.1 s.2) (λa:ZE=>Mn 300 a.Rows) k) k2)\/c<=y:=λv=>by
  by_cases hy:y<c
  .left;unfold Zie;refine ex_ap (Zi ⟨(c-(y+1)).toNat,by omega,?_⟩);rw [wr64 Z Z];grind
  .right;omega
 unfold Zve;refine ex_d (λhy=>ZK ⟨by omega,by omega⟩ (ex_d (λa5=>?_) λ_=>(fin _).resolve_right Z)) λ_=>?_
 .refine ZR (λk s=>(0<=s.1/\s.1<q)/\(0<=s.2/\s.2<=(Jk d:Int))/\k=((Jk d:Int)-s.2).toNat) (Jk d) ⟨⟨by show (0:Int)<=0;omega,by show (0:Int)<q;omega⟩,⟨by show (0:Int)<=0;omega,by show (0:Int)<=_;omega⟩,by show _=((Jk d:Int)-0).toNat;omega⟩ ?_;rintro k3 ⟨v,z⟩ ⟨⟨v0,v1⟩,⟨h,z1⟩,a3⟩;dsimp only at v0 v1 h z1 a3;unfold ZzH;refine ex_d (λhz=>?_) λ_=>?_
  .have a6:=o.2 z h Z;refine ZyD hF ⟨v0,v1⟩ ⟨y0,a5⟩ λu u0 u1=>ZK ⟨h,hz⟩ (ZA8 hF ⟨u0,u1⟩ a6 λw w0 w1=>Zi ⟨((Jk d:Int)-(z+1)).toNat,by omega,?_⟩);rw [wr64 Z Z];omega
  .obtain ⟨w,e,hw⟩:=(fin v).resolve_right Z;rw [e];exact ⟨_,rfl,hw⟩
 .refine ex_ap (Zi ⟨(n-(i+1)).toNat,by omega,?_⟩);rw [wr64 Z Z];exact ⟨⟨by show 0<=i+1;omega,by show i+1<=n;omega⟩,rfl,g.app (Mn.one Z Z)⟩
section
variable {code:Jb} {N:Int} {s:Za}
theorem ZiO (f:Bytes code) {q c u v:Int} {xs:Ja} (hs:Src code (N-50) (Za.mk s.qcode u v)) (hN:N<=100000000) (h:Mn 300 xs):Ex (Zcw s q c xs u v) λr=>Md 700 r.1.Rows/\Src code N r.2:=by
 unfold Zcw;refine ZT f hs Z λx s1 _ _ _ h1=>?_;dsimp only;refine ex_e (λ_=>?_) λ_=>ex_e (λ_=>?_) λ_=>ex_e (λ_=>?_) λ_=>ex_e (λ_=>?_) λ_=>?_
 .refine Zd1 f h1 Z (by simp) λx s2 _ e=>Zi ⟨h.md.mono Z,e.mono Z⟩
 .refine Zd1 f h1 Z (by simp) λx s2 _ e=>Zi ⟨h.md.mono Z,e.mono Z⟩
 .refine ex_d (λl=>?_) λ_=>?_
  .unfold Zlb;dsimp only;refine ex_d (λ_=>?_) λ_=>Zi ⟨h.md.mono Z,h1.mono Z⟩;refine ZK ⟨by omega,l⟩ (Zd1 f h1 Z (by simp) λy s2 _ e=>?_);have j:=Zl (xs:=xs) (i:=0) Z l;have hr:=h.md.row _ j;refine ZK ⟨by omega,by have:=h.ne _ j;omega⟩ (Zi ⟨⟨by have:=h.md.len;rw [JC];omega,λb f=>?_⟩,e.mono Z⟩);rcases WT f with f|rfl
   .exact h.md.row b f
   .grind
  .exact Zi ⟨h.md.mono Z,h1.mono Z⟩
 .have a4:=h.md.len;refine ZR (λk st=>Md 300 st.2.2/\(Jk st.2.2=0\/140<=Jk st.2.2*2^k)/\k<=8/\Src code (N-2-2*k) (Za.mk s.qcode st.1 st.2.1)) 8 ⟨h.md,by show (Jk xs)=0\/140<=Jk xs*256;omega,Nat.le_refl _,h1.mono (by show _<=N-2-2*8;omega)⟩ ?_;rintro k ⟨a,b,ys⟩ ⟨g,hk,k8,hs⟩;dsimp only at g hk k8 hs;have gl:=g.len;unfold Zqx;refine Zew f hs Z λo s2 e=>?_;dsimp only;refine ex_c (ex_d (λj=>ex_d (λw=>?_) λ_=>Zi ⟨g.mono Z,e.mono Z⟩) λ_=>Zi ⟨g.mono Z,e.mono Z⟩) (Zi ⟨g.mono Z,e.mono Z⟩);unfold ZpE;rw [ZAW (g.sz Z)];refine Zkz (α:=Jb) ⟨by omega,by omega⟩ ?_;cases k with
  | zero=>simp only [Nat.pow_zero,Nat.mul_one] at hk;omega
  | succ k=>
   refine Zi ⟨k,by omega,⟨by rw [Jo];omega,(g.app g).row⟩,?_,by omega,e.mono Z⟩;right;show 140<=(ys++ys).length*2^k;rw [Jo];have:(Jk ys+Jk ys)*2^k=Jk ys*2^(k+1):=by rw [Nat.pow_succ,Nat.add_mul,<-Nat.mul_two,Nat.mul_assoc]
   omega
 .exact Zi ⟨h.md.mono Z,h1.mono Z⟩
theorem ZHK (f:Bytes code) (hs:Src code (N-500) s) (hN:N<=100000000):Ex (Zkq s) λr=>Md 700 r.1.Rows/\Src code N r.2:=by
 unfold Zkq;refine ZT f (show Src code (N-500) (Za.mk s.qcode s.qat s.qseed) from hs) Z λlv s1 l0 l1 _ h1=>?_;dsimp only;refine ZT f h1 Z λcl s2 c0 c1 _ h2=>?_;dsimp only;refine ZT f h2 Z λw s3 _ _ _ o=>?_;dsimp only;have l1:=l1 Z;have c1:=c1 Z;have w1:Y.wrap (lv+2)=lv+2:=wr64 Z Z;have w2:Y.wrap (cl+1)=cl+1:=wr64 Z Z;refine ex_e (λ_=>?_) λ_=>ex_e (λ_=>?_) λ_=>ex_e (λ_=>?_) λ_=>?_
 .refine Zd1 f o Z (by simp) λq s4 v l=>?_;dsimp only;have a4:2<=q/\q<=5:=by simp at v;omega
  have e:∃m,ZnO q 3=Jg m/\1<=m/\m<=3:=by
   grind [ZnO]
  obtain ⟨m,e,m0,y⟩:=e;rw [e];refine ZT f l Z λt s5 t0 t1 _ h5=>?_;dsimp only;have t1:=t1 Z;rw [wr64 (x:=q+2) Z Z,wr64 (x:=t+1) Z Z,wr64 (x:=q+2-(t+1)) Z Z];refine ZT f h5 Z λu s6 u0 u1 _ h6=>?_;dsimp only;have ap:u<=10:=by
   omega
  rw [wr64 Z Z];exact ZC (ZN0 (by simp at v ⊢;omega) Z Z Z Z) λr hr=>ZiO f (h6.mono Z) hN hr
 .refine Zd1 f o Z (by simp) λq s4 v l=>?_;dsimp only;have ad:q∈([2,3,4,5,7,8,9]:Jb):=by simp at v ⊢;omega
  have a4:3<=q/\q<=7:=by simp at v;omega
  refine ZC (ZKX f (N:=N-100) (l.mono Z) Z ad) λr hr=>ZC (ZMC hr.1 Z Z) λa ha=>?_;have h1:=ha.2;have h2:=hr.1.len;exact ex_d (λh=>by omega) λ_=>ZiO f ((l.of hr.2).mono Z) hN (ha.1.mono Z)
 .rw [w1,w2];refine ZC (Zph Z Z Z Z) λn hn=>ex_d (λ_=>ZC (ZPo Z Z Z Z) λr hr=>ZiO f (o.mono Z) hN hr) λ_=>ZiO f (o.mono Z) hN (Mn.nil Z)
 .refine ZT f o Z λm s4 m0 y _ l=>?_;dsimp only;have y:=y Z;refine ZR (λk st=>(0<=st.1/\st.1<=12)/\k=st.1.toNat/\Mn (12-st.1) st.2.2.2/\Src code (N-100-20*st.1) (Za.mk s.qcode st.2.1 st.2.2.1)) m.toNat ⟨⟨m0,by show m<=12;omega⟩,rfl,Mn.nil (by show 0<=12-m;omega),l.mono (by show _<=N-100-20*m;omega)⟩ ?_;rintro k ⟨i,a,b,xs⟩ ⟨⟨i0,i1⟩,hk,g,hs⟩;dsimp only at i0 i1 hk g hs;unfold Zrc;dsimp only;rw [w1,w2];refine ex_d (λhi=>?_) λ_=>?_
  .refine ZR (λk st=>(0<=st.2.1/\st.2.1<=cl+1)/\k=(cl+1-st.2.1).toNat/\(Jk st.1:Int)=st.2.1/\Src code (N-100-20*i+2*st.2.1) (Za.mk s.qcode st.2.2.1 st.2.2.2)) (cl+1).toNat ⟨⟨by show (0:Int)<=0;omega,by show (0:Int)<=cl+1;omega⟩,by show _=(cl+1-0).toNat;omega,rfl,hs.mono (by show _<=N-100-20*i+2*0;omega)⟩ ?_;rintro k2 ⟨r,j,c,d⟩ ⟨⟨j0,j1⟩,a8,gr,hs⟩;dsimp only at j0 j1 a8 gr hs;unfold Zsf;dsimp only;rw [w1,w2];have gn:=g.md.len;refine ex_d (λhj=>?_) λ_=>?_
   .refine ZT f hs Z λx s5 _ _ _ h5=>?_;dsimp only;refine ex_ap (Zi ⟨(cl+1-(j+1)).toNat,by omega,?_⟩);rw [wr64 Z Z];grind
   .refine ex_ap (Zi ⟨(i-1).toNat,by omega,?_⟩);rw [wr64 Z Z];exact ⟨⟨by show 0<=i-1;omega,by show i-1<=12;omega⟩,rfl,(g.app (Mn.one Z Z)).mono (by show _<=12-(i-1);omega),hs.mono (by show _<=N-100-20*(i-1);omega)⟩
  .obtain ⟨r,e,hr⟩:=ZiO f (N:=N) (q:=lv+2) (c:=cl+1) (xs:=xs) (hs.mono Z) hN (g.mono Z);rw [e];exact ⟨_,rfl,hr⟩
end
structure VMat (q:Int) (m:Ja):Prop where
 n1:1<=(Jk m:Int)
 n2:(Jk m:Int)<=32
 w1:1<=((ix m 0).length:Int)
 w2:((ix m 0).length:Int)<=32
 row:∀i,0<=i->i<(Jk m:Int)->((ix m i).length:Int)=(ix m 0).length/\In q (ix m i)
theorem VMat.mat {q:Int} {m:Ja} (h:VMat q m):Mat q (ix m 0).length m:=⟨λi a b=>(h.row i a b).1,λi a b=>(h.row i a b).2,by have:=h.n2;omega,by have:=h.w2;omega⟩
theorem Zvh {f:Zd} {q:Int} (hs:ZaH f=Jg q) (g:2<=q) (e:q<=64) {v:Jb} (j:(Jk v:Int)<=1048576):IsQ (Zoi f v) (In q v):=by
 unfold Zoi;rw [hs];obtain ⟨c,l,q2⟩:=ZcO (B:=Zgm v q) (P:=λk=>0<=ix v k/\ix v k<=q-1) (t:=Ji) (f:=Jj) (i:=0) (n:=v.length) Z
  (λk a b c=>by simp (disch:=omega) only [pz,Zgm,in_ok]) (λk a b c=>by simp (disch:=omega) only [pz,Zgm,in_ok]) (by simp (disch:=omega) only [pz,Zgm])
 refine ⟨c,?_,q2.trans ⟨λh i a b=>?_,λh i a b=>?_⟩⟩
 .grind
 .grind
 .have:=h i a b;omega
theorem Znp {f:Zd} {q:Int} (x:Made q f) (o:2<=q) (e:q<=64) {m:Ja} (hs:Sz2 m):IsQ (Zm6 f m) (VMat q m):=by
 have hN:=hs.1;unfold Zm6 Zsu;rw [x.oks];by_cases h1:(Jk m:Int)=0
 .simp (disch:=omega) only [pz,];exact IsQ.f λh=>by have:=h.n1;omega
 .by_cases r:(Jk m:Int)<=32
  .by_cases w:((ix m 0).length:Int)=0
   .simp (disch:=omega) only [pz,];exact IsQ.f λh=>by have:=h.w1;omega
   .by_cases u:((ix m 0).length:Int)<=32
    .simp (disch:=omega) only [pz,];refine (Zaw (P:=λi=>((ix m i).length:Int)=(ix m 0).length/\In q (ix m i)) (n:=m.length) (Q:=True) Z ?_ ?_ λ_=>?_).congr ⟨λg=>⟨by omega,r,by omega,u,g.1⟩,λg=>⟨g.row,trivial⟩⟩
     .intro i j k l;have v:=(Zvh x.szs o e (hs.row j k)).eq l.2;grind [pz,Zim]
     .intro i j k l;by_cases hl:((ix m i).length:Int)=(ix m 0).length
      .have v:=(Zvh x.szs o e (hs.row j k)).ne λh=>l ⟨hl,h⟩;grind [pz,Zim]
      .grind [pz,Zim]
     .simp [Ze,pz,Zim,IsQ.t,trivial]
    .simp (disch:=omega) only [pz,];exact IsQ.f λh=>u h.w2
  .simp (disch:=omega) only [pz,];exact IsQ.f λh=>r h.n2
theorem ZrY {f:Zd} {q:Int} (hm:Made q f) (hq:2<=q) (v:q<=64) {m:Ja} (hs:Sz2 m):IsQ (Zgr f m) (VMat q m):=by
 have hN:=hs.1;have e:Zd.mk f.Prime f.Degree f.Poly=f:=rfl;unfold Zgr Zts;rw [e,hm.oki];by_cases h1:(Jk m:Int)=0
 .simp (disch:=omega) only [pz,Z0,Z4];exact IsQ.f λh=>by have:=h.n1;omega
 .by_cases l:(Jk m:Int)<=32
  .by_cases h3:((ix m 0).length:Int)=0
   .simp (disch:=omega) only [pz,Z0,Z1,Z4];exact IsQ.f λh=>by have:=h.w1;omega
   .by_cases o:((ix m 0).length:Int)<=32
    .simp (disch:=omega) only [pz,Z0,Z1,Z4,hm.szi];have w:=containsLL (s:=m) (fn:=λy0=>Zh9 y0 m q) (q:=λr=>¬((Jk r:Int)=(ix m 0).length/\In q r)) hN λr hr=>by
      show IsQ (Zh9 r m q) _;unfold Zh9 Zrj;by_cases hl:(Jk r:Int)=(ix m 0).length
      .have hi:=(containsL (s:=r) (fn:=λy0=>Zf6 y0 q) (q:=λx=>¬(0<=x/\x<=q-1)) (hs.2 r hr) λx j=>by
        show IsQ (Zf6 x q) _;unfold Zf6;by_cases j:0<=x/\x<=q-1
        .grind [pz,Z4,IsQ.f]
        .grind [pz,Z4,IsQ.t]).not.not
       have y:IsQ (((ZaX r λy0=>Zf6 y0 q).bind λr=>Jg (!r)).bind λr=>Jg (!r)) (¬((Jk r:Int)=(ix m 0).length/\In q r)):=by
        refine hi.congr ⟨λh g=>h λ⟨x,j,u⟩=>?_,λh g=>h ⟨hl,λk a b=>?_⟩⟩
        .obtain ⟨k,a,b,rfl⟩:=ZU j;have:=g.2 k a b;omega
        .have:=Classical.byContradiction λhh:¬(0<=ix r k/\ix r k<=q-1)=>g ⟨ix r k,Zl a b,hh⟩;omega
       grind [pz]
      .grind [pz,IsQ.t]
     refine w.not.congr ⟨λg=>⟨by omega,l,by omega,o,λi a b=>?_⟩,λg=>?_⟩
     .exact Classical.byContradiction λhh=>g ⟨ix m i,Zl a b,hh⟩
     .rintro ⟨x,j,u⟩;obtain ⟨i,a,b,rfl⟩:=ZU j;exact u (g.row i a b)
    .simp (disch:=omega) only [pz,Z0,Z1,Z4];exact IsQ.f λh=>o h.w2
  .simp (disch:=omega) only [pz,Z0,Z4];exact IsQ.f λh=>l h.n2
theorem Zmw {q:Int} (g:2<=q) (f:q<=64):∀(e:Nat) (n:Int),e<=64->1<=n->n<=4096->∃cs ci:Int,loop (Zco q) ((e:Int),n)=Jg cs/\loop (Zbq q 4096) ((e:Int),n)=Jg ci/\(cs=0↔4096<ci)
 | 0,n,_,h1,i=>by
  refine ⟨n,n,Ze ?_,Ze ?_,by omega⟩
  .rfl
  .rfl
 | e+1,n,he,h1,i=>by
  have j:1*2<=n*q:=J0 h1 g Z Z;have k:n*q<=4096*64:=J0 i f Z Z;have w:((e+1:Nat):Int)-1=(e:Int):=Z;have u:loop (Zbq q 4096) (((e+1:Nat):Int),n)=loop (Zbq q 4096) ((e:Int),n*q):=by
   grind [ZJ,pz,Zbq,Zfz]
  by_cases h:n*q<=4096
  .obtain ⟨cs,ci,l,o,r⟩:=Zmw g f e (n*q) Z Z h;grind [ZJ,pz,Zco]
  .refine ⟨0,n*q,Ze ?_,?_,by omega⟩
   .grind [pz,Zco]
   .grind [Ze,pz,Zbq]
theorem ZNH {a b:Ja} (l:(Jk a:Int)<=1048576) (j:∀x∈a,(Jk x:Int)<=1048576):IsQ (Zme a b) (a=b):=by
 unfold Zme;refine IsQ.bind_id ?_;unfold ZpZ;refine Zkk (by unfold M63;omega) (λk x y e g=>?_) (by simp (disch:=omega) only [pz,ZjI]);have h1:=Zan e;have f:=Zan g;have hs:=ZtL (a:=x) (b:=y) (j x (List.mem_of_getElem? e));by_cases h:x=y
 .exact ZcY (c:=Ji) (by simp [h]) (by simp (disch:=omega) only [pz,ZjI,Zaa e,Zaa g,hs.eq h])
 .exact ZcY (c:=Jj) (by simp [h]) (by simp (disch:=omega) only [pz,ZjI,Zaa e,Zaa g,hs.ne h])
theorem Zoa {o:Zf} (hs:Sz2 o.Rows):∃cs ci b,Zbi o=Jg cs/\ZbN o=Jg ci/\ZaI cs=Jg b/\Zb8 ci=Jg b:=by
 have hN:=hs.1;unfold Zbi ZbN;rw [ZaN hs];rcases Zky o.Size with ⟨f,hm⟩|⟨h1,e,k⟩
 .obtain ⟨a7,hF⟩:=Zk7 hm.gf;have hp:=hF.fd.p2;have i:=hF.q2;have g:=hF.q64;rw [hm.split,hm.mki,hm.mks];have e:Zd.mk f.Prime f.Degree f.Poly=f:=rfl
  suffices hh:∃b,ZaI ⟨f,o.Rows⟩=Jg b/\Zb8 ⟨f,o.Rows⟩=Jg b by
   obtain ⟨b,h1,k⟩:=hh;refine ⟨⟨f,o.Rows⟩,⟨f,o.Rows⟩,b,?_,?_,h1,k⟩
   .simp (disch:=omega) only [pz,e]
   .rfl
  unfold ZaI Zb8 ZdT Zq8;by_cases hV:VMat o.Size o.Rows
  .have j:=(Znp hm i g hs).eq hV;have q2:=(ZrY hm i g hs).eq hV;have n1:=hV.n1;have w2:=hV.w2;by_cases h8:(Jk o.Rows:Int)<=8
   .obtain ⟨cs,ci,u,v,l⟩:=Zmw i g (Jk o.Rows) 1 Z Z Z;have c1:Zeb o.Size (Jk o.Rows:Int)=Jg cs:=u;have c2:Zbr o.Size (Jk o.Rows:Int) 4096=Jg ci:=v;by_cases hz:cs=0
    .have a4:=l.1 hz;refine ⟨Jj,?_,?_⟩
     .simp (disch:=omega) only [pz,e,j,hm.szs,c1]
     .simp (disch:=omega) only [pz,e,q2,hm.szi,Z0,c2]
    .have a4:¬4096<ci:=λh=>hz (l.2 h);obtain ⟨R,piv,d,w,r2,r3,r⟩:=Zoz hF hs hV.mat Z n1;have s1:=ZtD (a:=R) (b:=o.Rows) Z r;have s2:=ZNH (a:=R) (b:=o.Rows) Z r;have ht:=ZAg hF hm.szi;obtain ⟨b,s1,x⟩:=s1;obtain ⟨b',s2,y⟩:=s2;have:b=b':=by rw [Bool.eq_iff_iff,x,y]
     subst this;refine ⟨b,?_,?_⟩
     .simp (disch:=omega) only [pz,e,j,hm.szs,c1,w,s1]
     .simp (disch:=omega) only [pz,e,q2,hm.szi,Z0,c2,ht,r2,s2]
   .refine ⟨Jj,?_,?_⟩
    .simp (disch:=omega) only [pz,e,j]
    .simp_all
  .have j:=(Znp hm i g hs).ne hV;have q2:=(ZrY hm i g hs).ne hV;simp_all
 .rw [h1,k];refine ⟨⟨⟨0,0,[]⟩,[]⟩,⟨⟨0,0,[]⟩,o.Rows⟩,Jj,?_,?_,?_,?_⟩
  .rfl
  .rfl
  .rfl
  .rfl
section
variable {code:Jb} {N:Int} {s:Za}
theorem ZLx (j:Bytes code) {f:Zd} {q:Int} {a2:Jb} (hM:Made q f) (hF:Ff f q a2) {n:Int} (n0:0<=n) (n1:n<=50) (hs:Src code (N-4*n) s) (hN:N<=100000000):Ex (Znw s f n) λr=>(Jk r.1:Int)=n/\In q r.1/\Src code N r.2:=by
 have q2:=hF.q2;unfold Znw;refine ZR (λk st=>(0<=st.1/\st.1<=n)/\k=st.1.toNat/\(Jk st.2.1:Int)=n-st.1/\In q st.2.1/\Src code (N-4*st.1) (Za.mk s.qcode st.2.2.1 st.2.2.2)) n.toNat ⟨⟨n0,JY _⟩,rfl,by show (0:Int)=n-n;omega,λi g e=>by simp at e;omega,hs⟩ ?_;rintro k ⟨m,l,a,b⟩ ⟨⟨u,v⟩,hk,hl,hi,hs⟩;dsimp only at u v hk hl hi hs;unfold Zp1;refine ex_d (λhm=>?_) λ_=>Zi ⟨by show (Jk l:Int)=n;omega,hi,hs.mono Z⟩;rw [show Zd.mk f.Prime f.Degree f.Poly=f from rfl,hM.szs];refine ZT j hs Z λx s1 x0 x1 _ h1=>?_;dsimp only;have x1:=x1 Z;refine Zew j h1 Z λo s2 w=>?_;dsimp only;have fin:∀y,0<=y->y<q->Ex (Zif m l y s2.qat s2.qseed) (Tn (λk (st:Int×Jb×Int×Int)=>(0<=st.1/\st.1<=n)/\k=st.1.toNat/\(Jk st.2.1:Int)=n-st.1/\In q st.2.1/\Src code (N-4*st.1) (Za.mk s.qcode st.2.2.1 st.2.2.2)) (λr:Jb×Za=>(Jk r.1:Int)=n/\In q r.1/\Src code N r.2) k):=λy y0 y1=>by
  unfold Zif;refine ex_ap (Zi ⟨(m-1).toNat,by omega,?_⟩);rw [wr64 Z Z];refine ⟨⟨by show 0<=m-1;omega,by show m-1<=n;omega⟩,rfl,by show ((l++[y]).length:Int)=n-(m-1);rw [Jo];simp;omega,λi g e=>?_,w.mono (by show _<=N-4*(m-1);omega)⟩;have e:i<((l++[y]).length:Int):=e;rw [Jo] at e;simp at e;show 0<=ix (l++[y]) i/\ix (l++[y]) i<q;by_cases h:i<(Jk l:Int)
  .rw [Zit g h];exact hi i g h
  .rw [Zeq Z,show i-(l.length:Int)=0 by omega];exact ⟨y0,y1⟩
 grind
theorem Mat.app {q w:Int} {xs:Ja} {r:Jb} (h:Mat q w xs) (j:In q r) (k:(Jk r:Int)=w) (g:(Jk xs:Int)<=63):Mat q w (xs++[r]):=by
 refine ⟨λi e f=>?_,λi e f=>?_,by rw [Jo];simp;omega,h.w1⟩
 all_goals
  rw [Jo] at f;simp at f;by_cases hi:i<(Jk xs:Int)
  .rw [Zit e hi];first|exact h.len i e hi|exact h.rng i e hi
  .rw [Zeq Z,show i-(xs.length:Int)=0 by omega];first|exact k|exact j
theorem ZN6 (g:Bytes code) {f:Zd} {q:Int} {a6:Jb} (hM:Made q f) (hF:Ff f q a6) {m n:Int} (m0:1<=m) (m1:m<=20) (n0:1<=n) (n1:n<=50) (hs:Src code (N-250*m) s) (hN:N<=100000000):Ex (ZnL s f m n) λr=>(Jk r.1:Int)=m/\Mat q n r.1/\Src code N r.2:=by
 have q2:=hF.q2;have q64:=hF.q64;unfold ZnL;refine ZR (λk st=>((Jk st.1:Int)<=m)/\k=(m-(Jk st.1:Int)).toNat/\Mat q n st.1/\Src code (N-250*(m-(Jk st.1:Int))) (Za.mk s.qcode st.2.1 st.2.2)) m.toNat ⟨by show (0:Int)<=m;omega,by show _=(m-0).toNat;omega,⟨λi y j=>by simp at j;omega,λi y j=>by simp at j;omega,by simp,by omega⟩,hs.mono (by show _<=N-250*(m-0);omega)⟩ ?_;rintro k ⟨xs,a,b⟩ ⟨hl,hk,hm,hs⟩;dsimp only at hl hk hm hs;unfold ZoS;rw [show Zd.mk f.Prime f.Degree f.Poly=f from rfl];refine ex_d (λhx=>?_) λ_=>Zi ⟨by show (Jk xs:Int)=m;omega,hm,hs.mono Z⟩;generalize hL:(Jk xs:Int)=L at *;refine ZC (ZLx g hM hF (n:=n) Z n1 (N:=N-250*(m-L)+4*n) (hs.mono Z) Z) λv hv=>?_;obtain ⟨v1,v2,u⟩:=hv;have w:Src code (N-250*(m-L)+4*n) (Za.mk s.qcode v.2.qat v.2.qseed):=hs.of u;have fin:∀(r:Jb) (c d:Int),(Jk r:Int)=n->In q r->Src code (N-250*(m-L)+240) (Za.mk s.qcode c d)->Ex (ZiL xs r c d) (Tn (λk (st:Ja×Int×Int)=>((Jk st.1:Int)<=m)/\k=(m-(Jk st.1:Int)).toNat/\Mat q n st.1/\Src code (N-250*(m-(Jk st.1:Int))) (Za.mk s.qcode st.2.1 st.2.2)) (λr:Ja×Za=>(Jk r.1:Int)=m/\Mat q n r.1/\Src code N r.2) k):=λr c d hr hi h=>by
  unfold ZiL;have e:((xs++[r]).length:Int)=L+1:=by rw [Jo];simp;omega
  refine ex_ap (α:=Jb) (Zi ⟨_,?_,?_,rfl,hm.app hi hr Z,?_⟩)
  .rw [e];omega
  .rw [e];omega
  .show Src code (N-250*(m-((xs++[r]).length:Int))) _;rw [e];exact h.mono Z
 have a4:∀(o:Bool) (c d:Int),(o=Ji->2<=L)->Src code (N-250*(m-L)+4*n+2) (Za.mk s.qcode c d)->Ex (Zhv s f xs v o c d) (Tn (λk (st:Ja×Int×Int)=>((Jk st.1:Int)<=m)/\k=(m-(Jk st.1:Int)).toNat/\Mat q n st.1/\Src code (N-250*(m-(Jk st.1:Int))) (Za.mk s.qcode st.2.1 st.2.2)) (λr:Ja×Za=>(Jk r.1:Int)=m/\Mat q n r.1/\Src code N r.2) k):=λo c d ho h=>by
  unfold Zhv;rw [show Zd.mk f.Prime f.Degree f.Poly=f from rfl];cases o with
  | false=>exact fin v.1 c d v1 v2 (h.mono Z)
  | true=>
   have u:=ho rfl;refine ZK ⟨by omega,by omega⟩ (ZK ⟨by omega,by omega⟩ ?_);rw [hM.szs];refine ZT g h Z λx s4 x0 x1 _ l=>?_;dsimp only;have x1:=x1 Z;have l0:=hm.len 0 Z Z;have l1:=hm.len 1 Z Z;rw [ZAR hF (hm.rng 0 Z Z) (hm.rng 1 Z Z) Z Z x0 x1];exact fin _ _ _ (by rw [Zsx];exact l0) (Zy9 hF) (l.mono Z)
 refine ex_d (λh1=>Zew g w Z λo s3 l=>a4 o _ _ (λ_=>by omega) (l.mono Z)) λ_=>a4 Jj _ _ (λh=>by cases h) (w.mono Z)
theorem ZOO {q:Int} (g:2<=q) (f:q<=64) {e:Int} (i:0<=e) (j:e<=64):Ex (Zeb q e) λ_=>True:=by
 obtain ⟨cs,ci,h,_,_⟩:=Zmw g f e.toNat 1 Z Z Z;rw [show ((e.toNat:Nat):Int)=e by omega] at h;unfold Zeb;exact ⟨cs,h,trivial⟩
def Cd (c:ZM):Prop:=∃q e,Made q c.Field/\Ff c.Field q e/\Sz2 c.Rows
theorem Zyh (g:Bytes code) {f:Zd} {q:Int} {a4:Jb} (hM:Made q f) (hF:Ff f q a4) {r:Zd×Za} (hr:r.1=f) {m n u v:Int} (y:1<=m) (m1:m<=6) (n0:1<=n) (n1:n<=40) (hs:Src code (N-2000) (Za.mk s.qcode u v)) (hN:N<=100000000):Ex (ZhJ s r m n u v) λr=>Cd r.1/\Src code N r.2:=by
 have q2:=hF.q2;have q64:=hF.q64;unfold ZhJ;rw [hr,show Zd.mk f.Prime f.Degree f.Poly=f from rfl];refine ZC (ZN6 g hM hF y Z n0 Z (N:=N-100) (hs.mono Z) Z) λx hx=>?_;obtain ⟨xl,l,h1⟩:=hx;have h2:Src code (N-100) (Za.mk s.qcode x.2.qat x.2.qseed):=hs.of h1;refine ZK ⟨by omega,by omega⟩ (ZT g h2 Z λc s3 o c1 _ w=>?_);dsimp only;have c1:=c1 Z;have l0:=l.len 0 Z Z;have r0:=l.rng 0 Z Z;have a3:Mat q n (x.1.set (0:Int).toNat ((ix x.1 0).set c.toNat 1)):=l.set Z (λi j k=>by
  rw [JC] at k;by_cases e:c=i
  .grind [ZaY]
  .rw [ZbQ o j e];exact r0 i j k) (by rw [JC];exact l0)
 have a6:Sz2 (x.1.set (0:Int).toNat ((ix x.1 0).set c.toNat 1)):=⟨by have:=a3.n;omega,λb g=>by
  obtain ⟨i,j,k,rfl⟩:=ZU g;have:=a3.len i j k;omega⟩
 obtain ⟨R,_,_,g1,_,g3,g4⟩:=Zoz hF a6 a3 Z (by rw [JC];omega);refine ZK ⟨o,by omega⟩ ?_;rw [g1];simp only [Jr];have hR:Sz2 R:=⟨by have:=a3.n;omega,g4⟩
 refine ZC (R:=λz=>z.2=0->z.1=⟨f,R⟩) ?_ λz hz=>ex_n (λ_=>Zi ⟨⟨q,a4,hM,hF,by simp,by simp⟩,w.mono Z⟩) λh0=>Zi ⟨?_,w.mono Z⟩
 .unfold ZoG;refine ex_e (λ_=>Zi λh=>by cases h) λag=>ex_d (λ_=>Zi λh=>by cases h) λh8=>?_;rw [hM.szs];simp only [Jr];refine ZC (ZOO q2 q64 Z Z) λcn _=>ex_e (λ_=>Zi λh=>by cases h) λ_=>?_;unfold Zr4 Zq6;have ah:=hF.fd.pl;have a8:=hF.fd.k6;rw [Zjc Z];exact Zi λ_=>rfl
 .have e:=hz h0;show Cd ⟨⟨z.1.Field.Prime,z.1.Field.Degree,z.1.Field.Poly⟩,z.1.Rows⟩;rw [e];exact ⟨q,a4,hM,hF,hR⟩
theorem ZI2 (e:Bytes code) (hs:Src code (N-2100) s) (hN:N<=100000000):Ex (ZnH s) λr=>Cd r.1/\Src code N r.2:=by
 unfold ZnH;refine ZC (R:=λr=>(∃q a2,Made q r.1/\Ff r.1 q a2)/\Src code (N-2098) r.2) ?_ λr hr=>?_
 .unfold Zr1;refine Zd1 e (show Src code (N-2100) (Za.mk s.qcode s.qat s.qseed) from hs) Z (by simp) λq s1 l h1=>?_;dsimp only;obtain ⟨f,a2,hM,hF⟩:=Zp3 (q:=q) (by simp at l ⊢;omega);rw [hM.mks];exact Zi ⟨⟨q,a2,hM,hF⟩,h1.mono Z⟩
 obtain ⟨⟨q,a2,hM,hF⟩,h1⟩:=hr;refine ZT e (hs.of h1) Z λa s2 a0 a1 _ u=>?_;dsimp only;refine ZT e u Z λb v b0 j _ g=>?_;dsimp only;have a1:=a1 Z;have j:=j Z;have w1:Y.wrap (1+a)=1+a:=wr64 Z Z;have fin:∀(o:Bool) (c d:Int),Src code (N-2050) (Za.mk s.qcode c d)->Ex (Zfr s r (a,s2) (b,v) o c d) λr=>Cd r.1/\Src code N r.2:=λo c d h=>by
  unfold Zfr;dsimp only;rw [w1];cases o with
  | false=>
   rw [wr64 (x:=1+a+b) Z Z];exact Zyh e hM hF rfl Z Z Z Z (h.mono Z) hN
  | true=>
   refine ZT e h Z λx w x0 x1 _ i=>?_;dsimp only;refine ZT e i Z λy s5 y0 k _ h5=>?_;dsimp only;have x1:=x1 Z;have k:=k Z;rw [wr64 (x:=1+a+x) Z Z,wr64 (x:=1+a+x+1) Z Z,wr64 (x:=1+a+x+1+y) Z Z];exact Zyh e hM hF rfl Z Z Z Z (h5.mono Z) hN
 refine ex_e (λ_=>ex_e (λ_=>Zew e g Z λo w i=>fin o _ _ (i.mono Z)) λ_=>fin _ _ _ (g.mono Z)) λ_=>fin _ _ _ (g.mono Z)
end
theorem two_q {a b:Jm Bool} {p:Prop} (j:IsQ a p) (e:IsQ b p):∃c,a=Jg c/\b=Jg c:=by
 obtain ⟨c,h1,f⟩:=j;obtain ⟨d,g,h⟩:=e;grind
theorem Zji {o:Zf} (hs:Sz2 o.Rows):∃c,Zat o=Jg c/\Zar o=Jg c:=by
 have hN:=hs.1;have e:Zf.mk o.Kind o.Size o.Rows=o:=rfl;unfold Zat Zar;by_cases h1:o.Kind=1
 .obtain ⟨c,f,q2⟩:=two_q (Zr0 hs) (ZeM hs);by_cases hl:(Jk o.Rows:Int)=o.Size
  .refine ⟨c,?_,?_⟩
   .grind
   .grind [pz,Z0]
  .refine ⟨Jj,?_,?_⟩
   .grind
   .grind [pz,Z0]
 by_cases j:o.Kind=2
 .obtain ⟨c,f,q2⟩:=two_q (Zp7 (d:=⟨o.Size,o.Rows⟩) hs) (Zoc (d:=⟨o.Size,o.Rows⟩) hs);refine ⟨c,?_,?_⟩
  .grind
  .grind [pz,ZdS,ZaN]
 by_cases k:o.Kind=3
 .obtain ⟨c,f,q2⟩:=two_q (ZJX hs) (ZnV hs);by_cases hl:(Jk o.Rows:Int)=o.Size
  .refine ⟨c,?_,?_⟩
   .grind
   .grind [pz,Z0]
  .refine ⟨Jj,?_,?_⟩
   .grind
   .grind [pz,Z0]
 by_cases l:o.Kind=4
 .by_cases hl:0<(Jk o.Rows:Int)
  .obtain ⟨c,f,q2⟩:=two_q (ZuH (a:=⟨o.Size,(ix o.Rows 0).length,o.Rows⟩) hs) (ZqE (a:=⟨o.Size,(ix o.Rows 0).length,o.Rows⟩) hs);refine ⟨c,?_,?_⟩
   .grind [pz,ZlZ]
   .grind [pz,Zhd,Z1,ZaN]
  .refine ⟨Jj,?_,?_⟩
   .grind [pz,ZlZ]
   .grind
 by_cases u:o.Kind=5
 .obtain ⟨cs,ci,b,h,i,v,w⟩:=Zoa hs;simp_all
 by_cases x:o.Kind=6
 .obtain ⟨r,h,i,_⟩:=ZkD hs;simp_all
 by_cases y:o.Kind=7
 .obtain ⟨c,f,q2⟩:=two_q (ZLV (g:=⟨o.Size,o.Rows⟩) hs) (Zta (g:=⟨o.Size,o.Rows⟩) hs);refine ⟨c,?_,?_⟩
  .simp (disch:=omega) only [pz,f]
  .simp (disch:=omega) only [pz,e,ZhK,ZaN hs,q2]
 .refine ⟨Jj,?_,?_⟩
  .simp (disch:=omega) only [pz,]
  .simp (disch:=omega) only [pz,]
def Ob1 (r:Zf×Int):Prop:=r.2=0->Sz2 r.1.Rows/\Zat r.1=Jg Ji
theorem make30 {k n:Int} {m:Ja} (hs:Sz2 m):Ex (ZbA k n m) Ob1:=by
 unfold ZbA;rw [Zqm hs];simp only [Jr];obtain ⟨c,h1,_⟩:=Zji (o:=⟨k,n,m⟩) hs;rw [h1];cases c with
 | false=>exact Zi λh=>by cases h
 | true=>exact Zi λ_=>⟨hs,h1⟩
theorem wrap30 {o:Jm (Zf×Int)} (h:Ex o Ob1):Ex (o.bind λr=>Jg (Zf.mk r.1.Kind r.1.Size r.1.Rows,r.2)) Ob1:=ZC h λ_ e=>Zi e
theorem square30 {m:Ja} (hs:Sz2 m):Ex (Zs4 m) Ob1:=wrap30 (make30 hs)
theorem design30 {d:Zz} (hs:Sz2 d.Blocks):Ex (Zr8 d) Ob1:=wrap30 (make30 hs)
theorem hada30 {m:Ja} (hs:Sz2 m):Ex (ZpM m) Ob1:=wrap30 (make30 hs)
theorem group30 {g:Zal} (hs:Sz2 g.Elements):Ex (Zqq g) Ob1:=wrap30 (make30 hs)
theorem array30 {a:ZE} (hs:Sz2 a.Rows):Ex (ZlY a) Ob1:=by
 unfold ZlY;refine ZC (R:=λ_=>True) ?_ λc _=>?_
 .obtain ⟨c,h,_⟩:=ZuH (a:=a) hs;exact ⟨c,h,trivial⟩
 cases c with
 | false=>exact Zi λh=>by cases h
 | true=>exact ex_e (λ_=>Zi λh=>by cases h) λ_=>wrap30 (make30 hs)
theorem code30 {c:ZM} (j:Cd c):Ex (Zln c) Ob1:=by
 obtain ⟨q,a3,u,w,hs⟩:=j;obtain ⟨f,rows⟩:=c;have e:Zd.mk f.Prime f.Degree f.Poly=f:=rfl;unfold Zln;refine ZC (R:=λ_=>True) ?_ λb _=>?_
 .obtain ⟨cs,ci,b,h1,_,i,_⟩:=Zoa (o:=⟨5,q,rows⟩) hs;unfold Zbi at h1;have hp:=w.fd.p2;dsimp only at h1 hp;rw [u.split,u.mks] at h1;have k:cs=⟨f,rows⟩:=by
   have:(f.Prime==(0:Int))=false:=by simp;omega
   simp_all
  rw [k] at i;exact ⟨b,i,trivial⟩
 cases b with
 | false=>exact Zi λh=>by cases h
 | true=>
  refine ZC (R:=λx=>x=q) ⟨q,u.szs,rfl⟩ λx l=>?_;rw [l];refine ZC (R:=λg=>g=f) ⟨f,u.mks,rfl⟩ λg hg=>?_;rw [hg];refine ZC (R:=λ_=>True) ?_ λb _=>?_
  .unfold ZoU;refine ex_e (λ_=>ex_e (λ_=>?_) λ_=>Zi trivial) λ_=>Zi trivial;obtain ⟨b,h,_⟩:=ZCE (a:=f.Poly) (b:=f.Poly) (by have:=w.fd.pl;have:=w.fd.k6;dsimp only at *;omega);exact ⟨b,by rw [h];rfl,trivial⟩
  cases b with
  | false=>exact Zi λh=>by cases h
  | true=>exact wrap30 (make30 hs)
noncomputable def sylT (k:Int):Bool:=match ZrT 300 k with
 | some m=>JJ (Jk m) 100&&m.all λb=>JJ (Jk b) 100
 | none=>Jj
theorem syl_t:(sylT 0&&sylT 1&&sylT 2&&sylT 3)=true:=κ
theorem ZKk {k:Int} (f:0<=k) (h1:k<=3):Ex (Zh3 k) Sz2:=by
 have h:sylT k=true:=by
  have:=syl_t;grind
 unfold sylT at h;split at h
 .rename_i d e;rw [Jz,XH,JZ] at h;refine ⟨d,ZEW _ _ e,by omega,λb g=>?_⟩;grind [XH]
 .cases h
def TbR (m n:Int) (t:List (List Bool)):Prop:=(Jk t:Int)=m/\∀r∈t,(Jk r:Int)=n
theorem TbR.row {m n:Int} {t:List (List Bool)} (h:TbR m n t) {k:Int} (k0:0<=k) (k1:k<m):((ix t k).length:Int)=n:=h.2 _ (Zl k0 (by have:=h.1;omega))
theorem TbR.set {m n:Int} {t:List (List Bool)} {i j:Int} {c:Bool} (h:TbR m n t) (e:0<=i) (f:i<m):TbR m n (t.set i.toNat ((ix t i).set j.toNat c)):=by
 refine ⟨by rw [JC];exact h.1,λr g=>?_⟩;rcases WT g with g|rfl
 .exact h.2 r g
 .rw [JC];exact h.row e f
theorem ZNl {l:Jb} (o:(Jk l:Int)<=6):Ex (Zb4 ⟨l,[]⟩) (TbR (Jk l:Int) (Jk l:Int)):=by
 unfold Zb4;refine ZR (λk st=>(0<=st.2/\st.2<=(Jk l:Int))/\k=((Jk l:Int)-st.2).toNat/\TbR st.2 (Jk l:Int) st.1) (Jk l) ⟨⟨by show (0:Int)<=0;omega,by show (0:Int)<=_;omega⟩,by show _=((Jk l:Int)-0).toNat;omega,rfl,by simp⟩ ?_;rintro k ⟨t,i⟩ ⟨⟨e,f⟩,j,h⟩;dsimp only at e f j h;have u:=h.1;unfold Zju;dsimp only;refine ex_d (λhi=>?_) λhi=>?_
 .refine ZA9 ⟨by omega,by omega,by omega⟩ (ex_ap ?_);rw [wr64 Z Z];refine Zi ⟨k-1,by omega,⟨by show 0<=i+1;omega,by show i+1<=_;omega⟩,by show k-1=((Jk l:Int)-(i+1)).toNat;omega,?_,λr g=>?_⟩
  .grind
  .rcases List.mem_append.1 g with g|g
   .exact h.2 r g
   .grind
 .refine ZR (λ_ st=>st=(0,t)) 0 rfl ?_;rintro _ _ rfl;unfold Zfn;dsimp only;refine ex_d (λh=>by simp at h) λ_=>Zi ?_;have:i=(Jk l:Int):=Z;rw [<-this];rw [this];rw [this] at h;exact h
theorem of_ok {l:Jb} {t:List (List Bool)} (hl:(Jk l:Int)<=6) (u:TbR (Jk l:Int) (Jk l:Int) t):Ex (Zez l t) λg=>g.Colors=l/\(Jk g.Edges:Int)<=36:=by
 unfold Zez;rw [Zjc Z];refine ZR (λk st=>(0<=st.1/\st.1<=(Jk l:Int))/\k=((Jk l:Int)-st.1).toNat/\(Jk st.2:Int)<=6*st.1) (Jk l) ⟨⟨by show (0:Int)<=0;omega,by show (0:Int)<=_;omega⟩,by show _=((Jk l:Int)-0).toNat;omega,by show (0:Int)<=6*0;omega⟩ ?_;rintro k ⟨a,es⟩ ⟨⟨a0,a1⟩,w,x⟩;dsimp only at a0 a1 w x;unfold ZiH;refine ex_d (λha=>?_) λ_=>Zi ⟨rfl,by show (Jk es:Int)<=36;omega⟩;rw [wr64 Z Z];refine ZR (λk st=>(0<=st.1/\st.1<=(Jk l:Int))/\k=((Jk l:Int)-st.1).toNat/\(Jk st.2:Int)<=6*a+st.1) ((Jk l:Int)-(a+1)).toNat ⟨⟨by show (0:Int)<=a+1;omega,by show a+1<=_;omega⟩,rfl,by show (Jk es:Int)<=6*a+(a+1);omega⟩ ?_;rintro k2 ⟨b,xs⟩ ⟨⟨f,h⟩,e,i⟩;dsimp only at f h e i;unfold Zet;have j:=u.1;have hr:=u.row a0 ha;refine ex_d (λo=>?_) λ_=>?_
 .refine ZK ⟨by omega,by omega⟩ (ZK ⟨by omega,by omega⟩ ?_);rw [wr64 Z Z];cases ix (ix t a) b with
  | true=>
   refine ex_ap (Zi ⟨k2-1,by omega,⟨by show 0<=b+1;omega,by show b+1<=_;omega⟩,by show k2-1=((Jk l:Int)-(b+1)).toNat;omega,?_⟩);grind
  | false=>exact Zi ⟨k2-1,by omega,⟨by show 0<=b+1;omega,by show b+1<=_;omega⟩,by show k2-1=((Jk l:Int)-(b+1)).toNat;omega,by show (Jk xs:Int)<=6*a+(b+1);omega⟩
 .rw [wr64 Z Z];exact Zi ⟨k-1,by omega,⟨by show 0<=a+1;omega,by show a+1<=_;omega⟩,by show k-1=((Jk l:Int)-(a+1)).toNat;omega,by show (Jk xs:Int)<=6*(a+1);omega⟩
section
variable {code:Jb} {N:Int} {s:Za}
def Gs (g:Zb):Prop:=(Jk g.Colors:Int)<=6/\(Jk g.Edges:Int)<=512
theorem ZMo {n a b l j:Int} {c:Bool} {t:List (List Bool)} {Q} {k:Nat} {I:Nat->Int×Int×Int×List (List Bool)->Prop} (g:TbR n n t) (a0:0<=a) (a1:a<n) (e:0<=b) (f:b<n) (n1:n<=6) (h:∀t',TbR n n t'->Tn I Q k (.inl (b+1,l,j,t'))):Ex (ZbK a b t c l j) (Tn I Q k):=by
 have u:=g.1;have o:=g.row a0 a1;unfold ZbK;refine ZK ⟨by omega,by omega⟩ (ZK ⟨by omega,by omega⟩ ?_);rw [wr64 Z Z];exact Zi (h _ (g.set a0 a1))
theorem ZEZ (f:Bytes code) (hs:Src code (N-100) s) (hN:N<=100000000) {n:Int} (n0:0<=n) (n1:n<=6):Ex (Zkx s n) λr=>Gs r.1/\Src code N r.2:=by
 unfold Zkx;refine ZT f (show Src code (N-100) (Za.mk s.qcode s.qat s.qseed) from hs) Z λc s1 c0 c1 _ h1=>?_;dsimp only;have c1:=c1 Z;refine ZR (λk st=>(0<=st.2.1/\st.2.1<=n)/\k=(n-st.2.1).toNat/\(Jk st.1:Int)=st.2.1/\Src code (N-98+2*st.2.1) (Za.mk s.qcode st.2.2.1 st.2.2.2)) n.toNat ⟨⟨by show (0:Int)<=0;omega,n0⟩,by show _=(n-0).toNat;omega,rfl,h1.mono (by show _<=N-98+2*0;omega)⟩ ?_;rintro k ⟨l,i,u,v⟩ ⟨⟨i0,i1⟩,hk,hl,h⟩;dsimp only at i0 i1 hk hl h;unfold Zs7;refine ex_d (λhi=>?_) λhi=>?_
 .rw [wr64 Z Z];refine ZT f h Z λx s2 _ _ _ j=>?_;dsimp only;refine ex_ap ?_;rw [wr64 Z Z];refine Zi ⟨k-1,by omega,⟨by show 0<=i+1;omega,by show i+1<=n;omega⟩,by show k-1=(n-(i+1)).toNat;omega,?_,j.mono (by show _<=N-98+2*(i+1);omega)⟩;grind
 .have e:i=n:=Z;refine ZC (ZNl (l:=l) Z) λt ht=>?_;have ht:TbR n n t:=by rw [hl,e] at ht;exact ht
  refine ZT f h Z λw s2 w0 w1 _ j=>?_;dsimp only;refine ZR (λk st=>(0<=st.1/\st.1<=n)/\k=(n-st.1).toNat/\TbR n n st.2.2.2/\Src code (N-80+12*st.1) (Za.mk s.qcode st.2.1 st.2.2.1)) n.toNat ⟨⟨by show (0:Int)<=0;omega,n0⟩,by show _=(n-0).toNat;omega,ht,j.mono (by show _<=N-80+12*0;omega)⟩ ?_;rintro ka ⟨a,ua,va,ta⟩ ⟨⟨a0,a1⟩,aa,a2,h⟩;dsimp only at a0 a1 aa a2 h;unfold ZtB;refine ex_d (λha=>?_) λha=>?_
  .rw [wr64 Z Z];refine ZR (λk st=>(0<=st.1/\st.1<=n)/\k=(n-st.1).toNat/\TbR n n st.2.2.2/\Src code (N-80+12*a+2*st.1) (Za.mk s.qcode st.2.1 st.2.2.1)) (n-(a+1)).toNat ⟨⟨by show (0:Int)<=a+1;omega,by show a+1<=n;omega⟩,rfl,a2,h.mono (by show _<=N-80+12*a+2*(a+1);omega)⟩ ?_;rintro kb ⟨b,ub,vb,tb⟩ ⟨⟨o,b1⟩,ad,a3,h⟩;dsimp only at o b1 ad a3 h;unfold Zrd;refine ex_d (λab=>?_) λ_=>?_
   .have fin:∀Q c u v,Src code (N-80+12*a+2*(b+1)) (Za.mk s.qcode u v)->Ex (ZbK a b tb c u v) (Tn (λk st=>(0<=st.1/\st.1<=n)/\k=(n-st.1).toNat/\TbR n n st.2.2.2/\Src code (N-80+12*a+2*st.1) (Za.mk s.qcode st.2.1 st.2.2.1)) Q kb):=λQ c u v hc=>
     ZMo a3 a0 ha o ab n1 λt' a9=>⟨kb-1,by omega,⟨by show 0<=b+1;omega,by show b+1<=n;omega⟩,by show kb-1=(n-(b+1)).toNat;omega,a9,hc⟩
    have h':=h.mono (show N-80+12*a+2*b<=N-80+12*a+2*(b+1) by omega);refine ex_e (λ_=>ex_e (λ_=>fin _ _ _ _ h') λ_=>ex_e (λ_=>fin _ _ _ _ h') λ_=>fin _ _ _ _ h') λ_=>ex_e (λ_=>?_) λ_=>ex_e (λ_=>ex_nz Z (fin _ _ _ _ h')) λ_=>?_
    .grind [ZT]
    .grind [ZT]
   .rw [wr64 Z Z];exact Zi ⟨ka-1,by omega,⟨by show 0<=a+1;omega,by show a+1<=n;omega⟩,by show ka-1=(n-(a+1)).toNat;omega,a3,h.mono (by show _<=N-80+12*(a+1);omega)⟩
  .refine ZC (of_ok (l:=l) (t:=ta) Z (by rw [hl,e];exact a2)) λg hg=>?_;obtain ⟨y,a6⟩:=hg;refine ex_d (λ_=>by omega) λ_=>Zi ⟨⟨by show (Jk g.Colors:Int)<=6;rw [y];omega,by show (Jk g.Edges:Int)<=512;omega⟩,h.mono Z⟩
theorem ZFx (e:Bytes code) (hs:Src code (N-110) s) (x:N<=100000000):Ex (ZlM s) λr=>Gs r.1/\Src code N r.2:=by
 unfold ZlM;refine ZT e (show Src code (N-110) (Za.mk s.qcode s.qat s.qseed) from hs) Z λc s1 h c1 _ h1=>?_;dsimp only;have c1:=c1 Z;refine ZC (ZEZ e (N:=N) (h1.mono Z) x h Z) λr o=>?_;obtain ⟨⟨f,g⟩,o⟩:=o;refine ZR (λk st=>(0<=st.1/\st.1<=(Jk st.2:Int))/\k=((Jk st.2:Int)-st.1).toNat/\(Jk st.2:Int)<=6) (Jk r.1.Colors) ⟨⟨by show (0:Int)<=0;omega,by show (0:Int)<=_;omega⟩,by show _=((Jk r.1.Colors:Int)-0).toNat;omega,f⟩ ?_;rintro k ⟨i,xs⟩ ⟨⟨j,l⟩,w,u⟩;dsimp only at j l w u;unfold Zyy;refine ex_d (λhi=>?_) λ_=>Zi ⟨⟨u,g⟩,hs.of o⟩;refine ZK ⟨by omega,by omega⟩ ?_;rw [wr64 Z Z];exact Zi ⟨k-1,by omega,⟨by show 0<=i+1;omega,by show i+1<=((xs.set i.toNat 0).length:Int);rw [JC];omega⟩,by show k-1=(((xs.set i.toNat 0).length:Int)-(i+1)).toNat;rw [JC];omega,by show ((xs.set i.toNat 0).length:Int)<=6;rw [JC];omega⟩
theorem graph30 {g:Zb} (hg:Gs g):Ex (ZlS g) Ob1:=by
 obtain ⟨l,he⟩:=hg;unfold ZlS;refine ZC (R:=λ_=>True) ?_ λc _=>?_
 .obtain ⟨c,h,_⟩:=Zlu (g:=g) Z Z;exact ⟨c,h,trivial⟩
 cases c with
 | false=>exact Zi λh=>by cases h
 | true=>
  refine ZR (λk st=>(0<=st.2/\st.2<=(Jk g.Edges:Int))/\k=((Jk g.Edges:Int)-st.2).toNat/\(Jk st.1:Int)=st.2/\∀b∈st.1,(Jk b:Int)<=2) (Jk g.Edges) ⟨⟨by show (0:Int)<=0;omega,by show (0:Int)<=_;omega⟩,by show _=((Jk g.Edges:Int)-0).toNat;omega,rfl,by simp⟩ ?_;rintro k ⟨rows,i⟩ ⟨⟨f,j⟩,w,hl,u⟩;dsimp only at f j w hl u;unfold Zw2;refine ex_d (λhi=>?_) λ_=>?_
  .refine ZK ⟨by omega,by omega⟩ (ZK ⟨by omega,by omega⟩ (ex_ap ?_));rw [wr64 Z Z];refine Zi ⟨k-1,by omega,⟨by show 0<=i+1;omega,by show i+1<=_;omega⟩,by show k-1=((Jk g.Edges:Int)-(i+1)).toNat;omega,?_,λb e=>?_⟩
   .grind
   .rcases List.mem_append.1 e with e|e
    .exact u b e
    .grind
  .refine ZR (λk st=>(0<=st/\st<=(Jk g.Colors:Int))/\k=((Jk g.Colors:Int)-st).toNat) (Jk g.Colors) ⟨⟨by omega,by omega⟩,by omega⟩ ?_;rintro k x ⟨⟨x0,x1⟩,w⟩;unfold Zwy;refine ex_d (λo=>?_) λ_=>?_
   .refine ZK ⟨by omega,by omega⟩ (ex_n (λ_=>Zi λh=>by cases h) λ_=>?_);rw [wr64 Z Z];exact Zi ⟨k-1,by omega,⟨by omega,by omega⟩,by omega⟩
   .exact ZC (make30 ⟨by omega,λb e=>by have:=u b e;omega⟩) λr u=>Zi u
def Vo (o:Zf):Prop:=Sz2 o.Rows/\Zat o=Jg Ji
theorem ZOc:Vo ⟨2,3,[[0,1,2]]⟩:=by
 have hs:Sz2 [[(0:Int),1,2]]:=⟨by decide,by decide⟩
 refine ⟨hs,?_⟩;have h:=(Zp7 (d:=⟨3,[[0,1,2]]⟩) hs).eq ?_
 .grind [Zat]
 .refine ⟨by decide,by decide,by decide,λk k0 k1=>?_,λk k0 k1=>?_⟩
  .have:k=0:=by simp at k1;omega
   subst this;refine ⟨by decide,λj f e=>?_⟩;have:j=0\/j=1\/j=2:=by simp [ix] at e;omega
   rcases this with rfl|rfl|rfl<;>decide
  .grind
theorem ZK2 {y q q2 u v:Int} {m:Ja} {r:Zf×Int} (h:Ob1 r) (hs:Src code N (Za.mk s.qcode u v)):Ex (Za8 s r.2 r.1.Kind r.1.Size r.1.Rows u v) λz=>Vo z.1/\Src code N z.2:=by
 unfold Za8;exact ex_n (λ_=>Zi ⟨ZOc,hs⟩) λe=>Zi ⟨h Z,hs⟩
theorem ZHs (f:Bytes code) (hs:Src code (N-10000) s) (hN:N<=900000):Ex (ZkN s) λr=>Vo r.1/\Src code N r.2:=by
 have hs:Src code (N-5000) (Za.mk s.qcode s.qat s.qseed):=hs.mono Z;unfold ZkN;refine ZT f hs Z λc s1 w c1 _ h1=>?_;dsimp only;have c1:=c1 Z;have fin:∀{r:Zf×Int} {u v:Int},Ob1 r->Src code N (Za.mk s.qcode u v)->Ex (Za8 s r.2 r.1.Kind r.1.Size r.1.Rows u v) λr=>Vo r.1/\Src code N r.2:=λh hs=>ZK2 (y:=0) (q:=0) (q2:=0) (m:=[]) h hs;refine ex_e (λ_=>?_) λ_=>ex_e (λ_=>?_) λ_=>ex_e (λ_=>?_) λ_=>ex_e (λ_=>?_) λ_=>ex_e (λ_=>?_) λ_=>ex_e (λ_=>?_) λ_=>ex_e (λ_=>?_) λ_=>by omega
 .refine ZT f h1 Z λn s2 n0 n1 _ k=>?_;dsimp only;have n1:=n1 Z;rw [wr64 Z Z];refine ZC (ZLA (N:=N) f (k.mono Z) Z Z Z) λr hr=>?_;obtain ⟨hr,j⟩:=hr;have:=hr.len;refine ZC (square30 ⟨by omega,λb f=>?_⟩) λo ho=>fin ho (k.of j);obtain ⟨i,l,x,rfl⟩:=ZU f;have:=hr.row i l Z;omega
 .refine ZC (ZJn (N:=N) f (h1.mono Z) Z) λr hr=>?_;obtain ⟨hr,j⟩:=hr;exact ZC (design30 ⟨by have:=hr.len;omega,λb f=>by have:=hr.row _ f;omega⟩) λo ho=>fin ho (h1.of j)
 .refine ZT f h1 Z λn s2 n0 n1 _ k=>?_;dsimp only;exact ZC (ZKk n0 (by have:=n1 Z;omega)) λm hm=>ZC (hada30 hm) λo ho=>fin ho (k.mono Z)
 .refine ZC (ZHK (N:=N) f (h1.mono Z) Z) λr hr=>?_;obtain ⟨hr,j⟩:=hr;exact ZC (array30 ⟨by have:=hr.len;omega,λb f=>by have:=hr.row _ f;omega⟩) λo ho=>fin ho (h1.of j)
 .refine ZC (ZI2 (N:=N) f (h1.mono Z) Z) λr hr=>?_;exact ZC (code30 hr.1) λo ho=>fin ho (h1.of hr.2)
 .refine ZC (ZFx (N:=N) f (h1.mono Z) Z) λr hr=>?_;exact ZC (graph30 hr.1) λo ho=>fin ho (h1.of hr.2)
 .obtain ⟨g,s2,e,hg,j⟩:=ZGZ (n:=N-1000) f (h1.mono Z) Z;rw [e];simp only [Jr];exact ZC (group30 ⟨by have:=hg.2.1;omega,λb f=>by have:=hg.2.2 b f;omega⟩) λo ho=>fin ho (h1.of (j.mono Z))
end
end Go.Proofs.YtcneolcmjjlmnaaGreatDoor
