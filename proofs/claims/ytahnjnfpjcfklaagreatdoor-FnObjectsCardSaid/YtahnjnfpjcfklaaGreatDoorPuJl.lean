import Derived.Test.YtahnjnfpjcfklaaGreatDoorPuJa
import Derived.Test.YtahnjnfpjcfklaaGreatDoorCeFns
import Derived.KernelRfl
import Derived.Test.YtahnjnfpjcfklaaGreatDoorPuFam
import Derived.Test.YtahnjnfpjcfklaaGreatDoorPuJb
import Derived.Test.YtahnjnfpjcfklaaGreatDoorPuTxt
import Derived.Lib.ParseIntB
import Derived.Lib.SplitLaws
open Go.IntKind renaming i64->ε
namespace Go.Proofs.YtahnjnfpjcfklaaGreatDoor
open Go Go.Vc
set_option linter.unusedSimpArgs false
set_option linter.unusedVariables false
theorem ZFa {xs:List (List Int)} (hl:(xs.length:Int)<=1000000) (hr:∀ b∈xs,(b.length:Int)<=1048576) {i:Int} (u:0<=i) (h1:i<(xs.length:Int)):
  Zdh xs (sortRows (xs.take i.toNat),i)=some (.inl (sortRows (xs.take (i+1).toNat),i+1)):=by
 have av:((sortRows (xs.take i.toNat)).length:Int)=i:=by rw [Zau,List.length_take];omega
 have aa:∀ b∈sortRows (xs.take i.toNat),(b.length:Int)<=1048576:=fun b hb=>hr b (List.mem_of_mem_take (Zal.1 hb));have hx:=hr _ (Zj u h1);have ab:=Zd4 (xs.take i.toNat);generalize af:sortRows (xs.take i.toNat)=a2 at *;have a9:∀ {k:Int},0<=k->k<=(a2.length:Int)->(∀ y∈a2.take k.toNat,lexC y (ix xs i)<=0)->(∀ y∈a2.drop k.toNat,lexC (ix xs i) y<=0) ->
   Zdf xs a2 i k=some (.inl (sortRows (xs.take (i+1).toNat),i+1)):=by
  intro k k0 k1 g1 g2;have ad:=ZtR (xs:=xs.take i.toNat) (x:=ix xs i) (k:=k.toNat) af.symm g1 g2;rw [ZaC u h1];have ax:((a2.take k.toNat).length:Int)=k:=by rw [List.length_take];omega
  have aw:((a2.drop k.toNat).length:Int)=a2.length-k:=by rw [List.length_drop];omega
  have a4:gSl a2 0 k=some (a2.take k.toNat):=by rw [Zbk ω ω ω];rfl
  have a5:gSl a2 k (a2.length:Int)=some (a2.drop k.toNat):=ZhN k0 k1;unfold Zdf;rw [a4];simp only [Option.bind_some];rw [Za1 (by simp only [List.length_nil];omega) (by simp only [List.length_nil];omega)];simp only [Option.bind_some,List.nil_append];rw [ZaZ u h1];simp only [Option.bind_some];rw [ZsU ω];simp only [Option.bind_some];rw [gApp1 ω ω];simp only [Option.bind_some];rw [a5];simp only [Option.bind_some];rw [Za1 (by rw [List.length_append,List.length_singleton];omega) (by rw [List.length_append,List.length_singleton];omega)];simp only [Option.bind_some];rw [ad,wr64 ω ω]
 unfold Zdh;have hc:decide (i<(xs.length:Int))=true:=dec_t h1;simp only [hc,cond_true];rcases ZtZ (B:=ZdI xs a2 i) (fun k=>k) (fun k=>¬ cmpL (ix a2 (k-1)) (ix xs i)>0) (i:=a2.length) (m:=0) ω (fun k a b c=>by
   have a6:=aa _ (Zj (xs:=a2) (i:=k-1) ω ω);have c':=Classical.not_not.1 c;simp (disch:=omega) only [pz,ZdI,ZdG]) with ⟨k,a,b,c,d,e⟩|⟨a,b⟩
 ·rw [e];have a6:=aa _ (Zj (xs:=a2) (i:=k-1) ω ω);have a8:=a9 (k:=k) ω ω (fun y hy=>?_) (fun y hy=>?_)
  ·refine Ze ?_;simp (disch:=omega) only [pz,ZdI,ZdG,a8]
  ·obtain ⟨j,l,o,rfl⟩:=ZL hy;have a7:j<k:=by rw [List.length_take] at o;omega
   rw [ZdS l a7];by_cases ag:j=k-1
   ·rw [ag,Zaz];omega
   ·have hp:=List.pairwise_iff_getElem.1 ab j.toNat (k-1).toNat ω ω ω;have e1:a2[j.toNat]' ω=ix a2 j:=by have:=ZY (xs:=a2) l ω;rw [List.getElem?_eq_getElem ω] at this;exact Option.some.inj this
    have e2:a2[(k-1).toNat]' ω=ix a2 (k-1):=by have:=ZY (xs:=a2) (i:=k-1) ω ω;rw [List.getElem?_eq_getElem ω] at this;exact Option.some.inj this
    rw [e1,e2] at hp;exact (ZfO _ _ _ hp (by rw [Zaz];omega)).1
  ·obtain ⟨j,l,o,rfl⟩:=ZL hy;rw [List.length_drop] at o;rw [ZoX ω l];have hd:=Classical.not_not.1 (d (k+j+1) ω ω);rw [show k+j+1-1=k+j by omega] at hd;have hn:=ZaQ (ix a2 (k+j)) (ix xs i);rw [Zaz,Zaz] at hn;rw [Zaz];omega
 ·rw [b];have a8:=a9 (k:=0) ω ω (fun y hy=>by simp at hy) (fun y hy=>?_)
  ·refine Ze ?_;simp (disch:=omega) only [pz,ZdI,a8]
  ·obtain ⟨j,l,o,rfl⟩:=ZL hy;rw [show (0:Int).toNat=0 from rfl,List.drop_zero] at *;have hd:=Classical.not_not.1 (a (j+1) ω ω);rw [show j+1-1=j by omega] at hd;have hn:=ZaQ (ix a2 j) (ix xs i);rw [Zaz,Zaz] at hn;rw [Zaz];omega
theorem ZhM {xs:List (List Int)} (hl:(xs.length:Int)<=1000000) (hr:∀ b∈xs,(b.length:Int)<=1048576):ZaA xs=some (sortRows xs):=by
 unfold ZaA;have k:(([]:List (List Int)),(0:Int))=(fun j:Int=>(sortRows (xs.take j.toNat),j)) 0:=by simp [sortRows]
 rw [k,ZG (B:=Zdh xs) (fun j=>(sortRows (xs.take j.toNat),j)) (i:=0) (n:=xs.length) ω fun j a b=>ZFa hl hr a b];refine Ze ?_;unfold Zdh;have l:decide ((xs.length:Int)<(xs.length:Int))=false:=dec_f ω;simp only [l,cond_false,Int.toNat_natCast,List.take_length]
set_option maxRecDepth 100000
def permB (n:Int) (r:List Int):Bool:=decide ((r.length:Int)=n)&&(r.all (fun x=>decide (0<=x)&&decide (x<n))&&decide r.Nodup)
noncomputable def turnT (n a b:Int):Bool:=match Zn0 400 n a b with
 | some r=>permB n r
 | none=>false
theorem ZoS:([1,2,3,4,5,6,7,8,9,10,11,12,13]:List Int).all (fun n=>turnT n 1 1)=true:=κ
theorem ZG9:([1,2,3,4,5,6,7,8]:List Int).all (fun n=>turnT n (n-1) 0)=true:=κ
theorem ZCi:([5,7,11,13]:List Int).all (fun n=>([2,3,4]:List Int).all fun a=>turnT n a 0)=true:=κ
def Bytes (code:List Int):Prop:=code.length<=1048576/\∀ x∈code,0<=x/\x<=255
structure Src (code:List Int) (n:Int) (s:Za):Prop where
 c:s.qcode=code
 a0:0<=s.qat
 a1:s.qat<=n
theorem Src.mono {code:List Int} {n m:Int} {s:Za} (h:Src code n s) (hm:n<=m):Src code m s:=⟨h.c,h.a0,by have:=h.a1;omega⟩
section
variable {code:List Int} {n:Int} {s:Za}
theorem Zt5:∃ s,Zh4 code=some s/\s.qcode=code/\Src code 0 s:=⟨_,rfl,rfl,rfl,Int.le_refl _,Int.le_refl _⟩
theorem ZqG (h:Src code n s) (l:n<=1000000000) {b:Int} (i:0<=b) (j:b<=255):∃ x s',Zha s b=some (x,s')/\(0<=x/\x<=255)/\Src code (n+1) s':=by
 have a0:=h.a0;have a1:=h.a1;have o:ε.wrap (s.qat+1)=s.qat+1:=wr64 ω ω;unfold Zha;rw [o];cases decide (s.qat+1<=(s.qcode.length:Int))
 ·refine ⟨_,_,rfl,?_,h.c,by show 0<=s.qat+1;omega,by show s.qat+1<=n+1;omega⟩;generalize BitVec.ofInt IntKind.u64.bits _=v;have h1:(v&&&BitVec.ofInt IntKind.u64.bits 255).toNat<=255:=by
   rw [BitVec.toNat_and];exact Nat.le_trans Nat.and_le_right (by decide)
  generalize (v&&&BitVec.ofInt IntKind.u64.bits 255).toNat=z at h1 ⊢;have k:IntKind.u64.wrap (z:Int)=(z:Int):=by
   have:IntKind.u64.wrap (z:Int)=(z:Int)%18446744073709551616:=rfl;rw [this];omega
  rw [k,wr64 ω ω];omega
 ·exact ⟨_,_,rfl,⟨i,j⟩,h.c,by show 0<=s.qat+1;omega,by show s.qat+1<=n+1;omega⟩
theorem ZvB (j:Bytes code) (h:Src code n s) (i:n<=1000000000):∃ x s',Zey s=some (x,s')/\(0<=x/\x<=255)/\Src code (n+1) s':=by
 have a0:=h.a0;have a1:=h.a1;have k:=h.c;unfold Zey;by_cases hl:s.qat<(s.qcode.length:Int)
 ·have hm:0<=ix s.qcode s.qat/\ix s.qcode s.qat<=255:=j.2 (ix s.qcode s.qat) (by rw [<-k];exact Zj a0 hl);rw [decide_eq_true hl,ZaZ a0 hl];simp only [cond_true,Option.bind_some];rw [wr64 ω ω];exact ZqG h i hm.1 hm.2
 ·rw [decide_eq_false hl];exact ZqG h i ω ω
theorem ZcJ (o:Bytes code) (h:Src code n s) (hn:n<=900000000) {k:Int}:∃ x s',ZF s k=some (x,s')/\(0<=x/\(1<=k->x<k)/\x<=65535)/\Src code (n+2) s':=by
 unfold ZF;by_cases hk:k<=1
 ·rw [decide_eq_true hk];exact ⟨0,s,rfl,by omega,h.mono ω⟩
 ·rw [decide_eq_false hk];obtain ⟨x,s',e1,hx,h'⟩:=ZvB o h ω;have a4:Zey (Za.mk s.qcode s.qat s.qseed)=some (x,s'):=e1;simp only [cond_false,a4,Option.bind_some];have tm:∀ z:Int,0<=z->z<=65535->0<=Int.tmod z k/\(1<=k->Int.tmod z k<k)/\Int.tmod z k<=65535:=fun z j h1=>by
   have:=Int.tmod_nonneg k j;have u:=Int.tmod_lt_of_pos z (show 0<k by omega);have l:Int.tmod z k<=z:=by
    rw [Int.tmod_eq_emod_of_nonneg j];by_cases hz:z<k
    ·rw [Int.emod_eq_of_lt j hz];omega
    ·have:=Int.emod_lt_of_pos z (show 0<k by omega);omega
   omega
  by_cases i:k>200
  ·rw [decide_eq_true i];have u:Src code (n+1) (Za.mk s.qcode s'.qat s'.qseed):=⟨h.c,h'.a0,h'.a1⟩
   obtain ⟨y,s2,e2,hy,l⟩:=ZvB o u ω;simp only [cond_true,e2,Option.bind_some,Zjt (show ¬ k=0 by omega)];rw [wr64 (x:=x*256) ω ω,wr64 (x:=x*256+y) ω ω];exact ⟨_,_,rfl,tm _ ω ω,h.c,l.a0,by have:=l.a1;show s2.qat<=n+2;omega⟩
  ·rw [decide_eq_false i];simp only [cond_false,Zjt (show ¬ k=0 by omega),Option.bind_some];exact ⟨_,_,rfl,tm _ ω ω,h.c,h'.a0,by have:=h'.a1;show s'.qat<=n+2;omega⟩
theorem ZAz (i:Bytes code) (h:Src code n s) (j:n<=900000000) {k:Int}:∃ x s',ZaN s k=some (x,s')/\Src code (n+2) s':=by
 obtain ⟨x,s',l,o,h'⟩:=ZcJ i h j (k:=k);unfold ZaN;have u:ZF (Za.mk s.qcode s.qat s.qseed) k=some (x,s'):=l;simp only [u,Option.bind_some];exact ⟨_,_,rfl,h.c,h'.a0,h'.a1⟩
theorem ZlW (j:Bytes code) (h:Src code n s) (o:n<=900000000) {l:List Int} (hl:1<=(l.length:Int)) (y:(l.length:Int)<=60000):∃ x s',ZaL s l=some (x,s')/\x∈l/\Src code (n+2) s':=by
 obtain ⟨x,s',u,hx,h'⟩:=ZcJ j h o (k:=(l.length:Int));unfold ZaL;have a2:ZF (Za.mk s.qcode s.qat s.qseed) (l.length:Int)=some (x,s'):=u;have hi:=ZaZ (xs:=l) (i:=x) ω ω;simp only [a2,Option.bind_some,hi];exact ⟨_,_,rfl,Zj ω ω,h.c,h'.a0,h'.a1⟩
theorem Src.of {m:Int} {s s':Za} (h:Src code n s) (j:Src code m s'):Src code m (Za.mk s.qcode s'.qat s'.qseed):=⟨h.c,j.a0,j.a1⟩
end
theorem ZoR {σ β:Type} {B:σ->Option (σ ⊕ β)} {I:Nat->σ->Prop} {Q:β->Prop} (step:∀ n s,I n s->(∃ s' m,B s=some (.inl s')/\m<n/\I m s')\/(∃ r,B s=some (.inr r)/\Q r)):∀ (n:Nat) (s:σ),I n s->∃ r,loop B s=some r/\Q r:=by
 intro n;induction n using Nat.strongRecOn with
 | ind n ih=>
  intro s hs;rcases step n s hs with ⟨s',m,e,hm,hI⟩|⟨r,e,hq⟩
  ·obtain ⟨r,h1,i⟩:=ih m hm s' hI;exact ⟨r,by rw [ZO e];exact h1,i⟩
  ·exact ⟨r,Ze e,hq⟩
section
variable {code:List Int} {n:Int} {s:Za}
end
theorem ZgC {n a b:Int} (h:turnT n a b=true):∃ r,Zb6 n a b=some r/\Vc.Perm r n:=by
 unfold turnT at h;split at h
 ·rename_i r e;unfold permB at h;rw [Bool.and_eq_true,Bool.and_eq_true,List.all_eq_true] at h;exact ⟨r,Zwi _ _ _ _ e,of_decide_eq_true h.1,fun x i=>by have:=h.2.1 x i;simpa using this,of_decide_eq_true h.2.2⟩
 ·cases h
section
variable {code:List Int} {n:Int} {s:Za}
theorem Zol (l:Bytes code) (h:Src code n s) (hn:n<=100000000) {m:Int} (m0:1<=m) (o:m<=32):∃ p s',Zbg s m=some (p,s')/\Vc.Perm p m/\Src code (n+64) s':=by
 unfold Zbg;rw [ZmX ω o];simp only [Option.bind_some];rw [wr64 ω ω];have a4:=ZoR (B:=Zf8 s) (Q:=fun r=>Vc.Perm r.1 m/\Src code (n+64) r.2)
  (I:=fun k st=>∃ (i a b:Int) (xs:List Int),st=(i,a,b,xs)/\0<=i/\i<=m-1/\k=i.toNat/\Vc.Perm xs m/\Src code (n+2*(m-1-i)) (Za.mk s.qcode a b))
  (by
   rintro k st ⟨i,a,b,xs,rfl,i0,i1,hk,hp,a3⟩;by_cases hi:i>0
   ·left;obtain ⟨r,s',u,hr,h'⟩:=ZcJ l a3 ω (k:=i+1);have a7:=hr.2.1 ω;have hl:=hp.len;have y:=ZaZ (xs:=xs) (i:=i) ω ω;have g2:=ZaZ (xs:=xs) (i:=r) ω ω;have g3:=ZaZ (xs:=xs.set i.toNat (ix xs r)) (i:=r) ω (by rw [List.length_set];omega);have a2:((xs.set i.toNat (ix xs r)).set r.toNat (ix xs i)).Perm xs:=by
     have q1:xs[i.toNat]' ω=ix xs i:=by
      have:=ZY (xs:=xs) (i:=i) ω ω;rw [List.getElem?_eq_getElem ω] at this;exact Option.some.inj this
     have q2:xs[r.toNat]' ω=ix xs r:=by
      have:=ZY (xs:=xs) (i:=r) ω ω;rw [List.getElem?_eq_getElem ω] at this;exact Option.some.inj this
     have:=List.set_set_perm (as:=xs) (i:=i.toNat) (j:=r.toNat) ω ω;rw [q1,q2] at this;exact this
    refine ⟨(i-1,s'.qat,s'.qseed,(xs.set i.toNat (ix xs r)).set r.toNat (ix xs i)),(i-1).toNat,?_,by omega,i-1,s'.qat,s'.qseed,_,rfl,by omega,by omega,rfl,⟨by rw [a2.length_eq];exact hl,fun x hx=>hp.rng x (a2.mem_iff.1 hx),a2.nodup_iff.2 hp.nd⟩,⟨h.c,h'.a0,by have:=h'.a1;show s'.qat<=_;omega⟩⟩;unfold Zf8;simp only [decide_eq_true hi,cond_true];rw [wr64 ω ω];simp only [u,Option.bind_some,y,g2,g3];rw [wr64 ω ω]
   ·right;refine ⟨(xs,Za.mk s.qcode a b),?_,hp,Src.mono (m:=n+64) a3 ω⟩;unfold Zf8;simp only [decide_eq_false hi,cond_false])
  (m-1).toNat _ ⟨m-1,s.qat,s.qseed,idP m,rfl,by omega,by omega,rfl,ZDW m ω,⟨h.c,h.a0,by have:=h.a1;show s.qat<=_;omega⟩⟩
 obtain ⟨⟨p,s'⟩,e,h1,h2⟩:=a4;exact ⟨p,s',e,h1,h2⟩
theorem ZDa (o:Bytes code) (h:Src code n s) (hn:n<=10000000):∃ m l s',Zfs s=some (m,l,s')/\GOk m l/\Src code (n+400) s':=by
 unfold Zfs;obtain ⟨a,s1,e1,ha,h1⟩:=ZcJ o h ω (k:=8);have ak:ZF (Za.mk s.qcode s.qat s.qseed) 8=some (a,s1):=e1;have g1:=h.of h1;obtain ⟨b,s2,e2,au,h2⟩:=ZcJ o g1 ω (k:=4);have aj:ZF (Za.mk s.qcode s1.qat s1.qseed) 4=some (b,s2):=e2;have g2:=h.of h2;have av:=ha.2.1 ω;have hw:ε.wrap (1+a)=a+1:=by rw [wr64 ω ω];omega
 have ae:ε.wrap (a+1-1)=a+1-1:=wr64 ω ω;simp only [ak,aj,Option.bind_some,hw,ae];cases (b==0)
 ·cases (b==1)
  ·cases (b==2)
   ·obtain ⟨c,u,e3,hc,h3⟩:=ZcJ o g2 ω (k:=5);have g3:=h.of h3;obtain ⟨d,y,e4,hd,h4⟩:=ZcJ o g3 ω (k:=3);have g4:=h.of h4;have a2:ZF (Za.mk s.qcode u.qat u.qseed) 3=some (d,y):=e4;have aw:=hc.2.1 ω;have ax:=hd.2.1 ω;simp only [cond_false,e3,a2,Option.bind_some];have a6:ε.wrap (1+c)=c+1:=by rw [wr64 ω ω];omega
    have al:=ZoR (B:=Zfj s (c,u)) (Q:=fun r=>r.1=c+1/\GOk (c+1) r.2.1/\Src code (n+400) r.2.2)
     (I:=fun k st=>∃ (l:List (List Int)) (i a b:Int),st=(l,i,a,b)/\0<=i/\i<=d/\k=i.toNat/\(l.length:Int)=d-i/\(∀ p∈l,Vc.Perm p (c+1))/\Src code (n+8+64*(d-i)) (Za.mk s.qcode a b))
     (by
      rintro k st ⟨l,i,a,b,rfl,i0,i1,hk,hl,hp,a5⟩;by_cases hi:i>0
      ·left;obtain ⟨p,s',e5,af,h'⟩:=Zol o a5 ω (m:=c+1) ω ω;refine ⟨(l++[p],i-1,s'.qat,s'.qseed),(i-1).toNat,?_,by omega,l++[p],i-1,s'.qat,s'.qseed,rfl,by omega,by omega,rfl,by rw [List.length_append];simp;omega,fun x j=>?_,⟨h.c,h'.a0,by have:=h'.a1;show s'.qat<=_;omega⟩⟩
       ·unfold Zfj;simp only [decide_eq_true hi,cond_true,a6,e5,Option.bind_some];rw [gApp1 ω ω];simp only [Option.bind_some];rw [wr64 ω ω]
       ·rcases List.mem_append.1 j with j|j
        ·exact hp x j
        ·rw [List.mem_singleton.1 j];exact af
      ·right;refine ⟨(ε.wrap (1+c),l,Za.mk s.qcode a b),?_,a6,⟨by omega,by omega,by show (l.length:Int)<=_;omega,hp⟩,Src.mono (m:=n+400) a5 ω⟩;unfold Zfj;simp only [decide_eq_false hi,cond_false])
     d.toNat _ ⟨[],d,y.qat,y.qseed,rfl,by omega,Int.le_refl _,rfl,by simp,by simp,⟨h.c,h4.a0,by have:=h4.a1;show y.qat<=_;omega⟩⟩
    obtain ⟨⟨m,l,s'⟩,e,h5,h6,h7⟩:=al;have am:m=c+1:=h5;exact ⟨m,l,s',e,by rw [am];exact h6,h7⟩
   ·obtain ⟨c,u,e3,hc,h3⟩:=ZlW o g2 ω (l:=[5,7,11,13]) (by simp) (by simp);have g3:=h.of h3;obtain ⟨d,y,e4,hd,h4⟩:=ZlW o g3 ω (l:=[2,3,4]) (by simp) (by simp);have a2:ZaL (Za.mk s.qcode u.qat u.qseed) [2,3,4]=some (d,y):=e4;have ag:1<=c/\c<=13:=by simp at hc;omega
    obtain ⟨r1,t1,p1⟩:=ZgC (List.all_eq_true.1 ZoS c (by simp;omega));obtain ⟨r2,t2,p2⟩:=ZgC (List.all_eq_true.1 (List.all_eq_true.1 ZCi c hc) d hd);simp only [cond_false,cond_true,e3,t1,a2,t2,Option.bind_some];refine ⟨_,_,_,rfl,⟨ag.1,by omega,by simp,fun x j=>?_⟩,(h.of h4).mono ω⟩;rcases List.mem_cons.1 j with rfl|j
    ·exact p1
    ·rw [List.mem_singleton.1 j];exact p2
  ·obtain ⟨r1,t1,p1⟩:=ZgC (List.all_eq_true.1 ZoS (a+1) (by simp;omega));obtain ⟨r2,t2,p2⟩:=ZgC (List.all_eq_true.1 ZG9 (a+1) (by simp;omega));simp only [cond_false,cond_true,t1,t2,Option.bind_some];refine ⟨_,_,_,rfl,⟨by omega,by omega,by simp,fun x j=>?_⟩,g2.mono ω⟩;rcases List.mem_cons.1 j with rfl|j
   ·exact p1
   ·rw [List.mem_singleton.1 j];exact p2
 ·obtain ⟨r1,t1,p1⟩:=ZgC (List.all_eq_true.1 ZoS (a+1) (by simp;omega));simp only [cond_true,t1,Option.bind_some];exact ⟨_,_,_,rfl,⟨by omega,by omega,by simp,fun x j=>by rw [List.mem_singleton.1 j];exact p1⟩,g2.mono ω⟩
theorem Zxg (i:Bytes code) (h:Src code n s) (u:n<=1000000):∃ g s',ZhD s=some (g,s')/\(1<=(g.Elements.length:Int)/\(g.Elements.length:Int)<=1000/\∀ b∈g.Elements,(b.length:Int)<=32)/\Src code (n+400) s':=by
 unfold ZhD;obtain ⟨m,l,k,o,hG,h1⟩:=ZDa i h ω;have a3:Zfs (Za.mk s.qcode s.qat s.qseed)=some (m,l,k):=o;have n0:=hG.n0;have n1:=hG.n1;have j:=Znw hG (most:=720) ω ω;rw [show ((720:Nat):Int)=720 from rfl] at j;rcases j with ⟨L,hL,hlen,ec⟩|⟨_,ec⟩
 ·have x:∀ b∈L,(b.length:Int)<=32:=fun b i=>by
   have:=(hG.rng ((hL.2 b).1 i)).1;omega
  have hs:=ZhM (xs:=sortRows L) (by rw [Zau];omega) (fun b i=>by have:=x b (Zal.1 i);omega);have a4:0<L.length:=List.length_pos_of_mem ((hL.2 _).2 .one);simp only [a3,ec,Option.bind_some,Bool.not_true,cond_false];unfold ZfB;simp only [hs,Option.bind_some];refine ⟨_,_,rfl,⟨?_,?_,fun b i=>x b (Zal.1 (Zal.1 i))⟩,h.c,h1.a0,h1.a1⟩
  ·show 1<=((sortRows (sortRows L)).length:Int);rw [Zau,Zau];omega
  ·show ((sortRows (sortRows L)).length:Int)<=1000;rw [Zau,Zau];omega
 ·have hs:=ZhM (xs:=[idP m]) (by simp) (fun b i=>by rw [List.mem_singleton.1 i,Zaf];omega);simp only [a3,ec,Option.bind_some,Bool.not_false,cond_true,ZmX (show 0<=m by omega) n1];unfold ZfB;simp only [hs,Option.bind_some];refine ⟨_,_,rfl,⟨?_,?_,fun b i=>?_⟩,h.c,h1.a0,h1.a1⟩
  ·show 1<=((sortRows [idP m]).length:Int);rw [Zau];simp
  ·show ((sortRows [idP m]).length:Int)<=1000;rw [Zau];simp
  ·rw [List.mem_singleton.1 (Zal.1 i),Zaf];omega
end
set_option maxHeartbeats 4000000
def Ex {α:Type} (o:Option α) (Q:α->Prop):Prop:=∃ r,o=some r/\Q r
section
variable {α β σ:Type} {Q:β->Prop} {a b:Option β}
theorem Zg {r:β} (h:Q r):Ex (some r) Q:=⟨r,rfl,h⟩
theorem ZC {o:Option α} {f:α->Option β} {R:α->Prop} (h:Ex o R) (k:∀ r,R r->Ex (f r) Q):Ex (o.bind f) Q:=by
 obtain ⟨r,rfl,h⟩:=h;exact k r h
theorem ZI [Inhabited α] {xs:List α} {i:Int} {f:α->Option β} (h:0<=i/\i<(xs.length:Int)) (k:Ex (f (ix xs i)) Q):Ex ((gIdx xs i).bind f) Q:=by
 rw [ZaZ h.1 h.2];exact k
theorem ex_d {p:Prop} [Decidable p] (h:p->Ex a Q) (j:¬ p->Ex b Q):Ex (bif decide p then a else b) Q:=by
 by_cases e:p
 ·rw [bif_t e];exact h e
 ·rw [bif_f e];exact j e
theorem ex_e {x y:Int} (h:x=y->Ex a Q) (j:¬ x=y->Ex b Q):Ex (bif x==y then a else b) Q:=by
 by_cases e:x=y
 ·rw [beq_t e];exact h e
 ·rw [beq_f e];exact j e
theorem ex_n {x y:Int} (h:¬ x=y->Ex a Q) (j:x=y->Ex b Q):Ex (bif x !=y then a else b) Q:=by
 by_cases e:x=y
 ·rw [bne_f e];exact j e
 ·rw [bne_t e];exact h e
theorem ex_c {c:Bool} (h:Ex a Q) (j:Ex b Q):Ex (bif c then a else b) Q:=by cases c<;>assumption
theorem ex_nz {z:Int} {f:Unit->Option β} (h:¬ z=0) (k:Ex (f ()) Q):Ex ((gNz z).bind f) Q:=by rw [Zjt h];exact k
theorem Zag {n:Nat} {xs j:List α} {f:List α->Option β} (h:(xs.length+j.length)*n<=140737488355328/\xs.length+j.length<=4611686018427387904) (k:Ex (f (xs++j)) Q):Ex ((gApp n xs j).bind f) Q:=by rw [Za1 h.1 h.2];exact k
theorem Zt6 {n:Nat} {z:α} {m:Int} {f:List α->Option β} (h:0<=m/\m.toNat*n<=140737488355328/\m<=4611686018427387904) (k:Ex (f (List.replicate m.toNat z)) Q):Ex ((gMake n z m m).bind f) Q:=by rw [ZaF h.1 h.2.1 h.2.2];exact k
theorem ex_sl {xs:List α} {lo hi:Int} {f:List α->Option β} (h:0<=lo/\lo<=hi/\hi<=(xs.length:Int)) (k:Ex (f ((xs.take hi.toNat).drop lo.toNat)) Q):Ex ((gSl xs lo hi).bind f) Q:=by rw [Zbk h.1 h.2.1 h.2.2];exact k
def Tn (I:Nat->σ->Prop) (Q:β->Prop) (n:Nat):σ ⊕ β->Prop
 | .inl s=>∃ m,m<n/\I m s
 | .inr r=>Q r
theorem ZQ {B:σ->Option (σ ⊕ β)} (I:Nat->σ->Prop) (n:Nat) {s:σ} (h:I n s) (step:∀ n s,I n s->Ex (B s) (Tn I Q n)):Ex (loop B s) Q:=by
 obtain ⟨r,e,q⟩:=ZoR (B:=B) (I:=I) (Q:=Q) (fun n s hs=>by
  obtain ⟨z,e,q⟩:=step n s hs;cases z with
  | inl s'=>obtain ⟨m,hm,hi⟩:=q;exact .inl ⟨s',m,e,hm,hi⟩
  | inr r=>exact .inr ⟨r,e,q⟩) n s h
 exact ⟨r,e,q⟩
end
section
variable {code:List Int} {n:Int} {β:Type} {Q:β->Prop}
theorem ZS (i:Bytes code) {q:List Int} {u v k:Int} {f:Int×Za->Option β} (h:Src code n (Za.mk q u v)) (j:n<=900000000) (K:∀ x s',0<=x->(1<=k->x<k)->x<=65535->Src code (n+2) (Za.mk q s'.qat s'.qseed)->Ex (f (x,s')) Q):Ex ((ZF (Za.mk q u v) k).bind f) Q:=by
 obtain ⟨x,s',e,h1,l⟩:=ZcJ i h j (k:=k);rw [e];exact K x s' h1.1 h1.2.1 h1.2.2 (h.of l)
theorem ZcY (i:Bytes code) {q:List Int} {u v k:Int} {f:Bool×Za->Option β} (h:Src code n (Za.mk q u v)) (j:n<=900000000) (K:∀ x s',Src code (n+2) (Za.mk q s'.qat s'.qseed)->Ex (f (x,s')) Q):Ex ((ZaN (Za.mk q u v) k).bind f) Q:=by
 obtain ⟨x,s',e,l⟩:=ZAz i h j (k:=k);rw [e];exact K x s' (h.of l)
theorem Zdc (i:Bytes code) {q:List Int} {u v:Int} {l:List Int} {f:Int×Za->Option β} (h:Src code n (Za.mk q u v)) (j:n<=900000000) (hl:1<=(l.length:Int)/\(l.length:Int)<=60000) (K:∀ x s',x∈l->Src code (n+2) (Za.mk q s'.qat s'.qseed)->Ex (f (x,s')) Q):Ex ((ZaL (Za.mk q u v) l).bind f) Q:=by
 obtain ⟨x,s',e,h1,k⟩:=ZlW i h j hl.1 hl.2;rw [e];exact K x s' h1 (h.of k)
theorem Zkb (i:Bytes code) {q:List Int} {u v m:Int} {f:List Int×Za->Option β} (h:Src code n (Za.mk q u v)) (j:n<=100000000) (hm:1<=m/\m<=32) (K:∀ x s',Vc.Perm x m->Src code (n+64) (Za.mk q s'.qat s'.qseed)->Ex (f (x,s')) Q):Ex ((Zbg (Za.mk q u v) m).bind f) Q:=by
 obtain ⟨x,s',e,h1,k⟩:=Zol i h j hm.1 hm.2;rw [e];exact K x s' h1 (h.of k)
end
structure Sq (n:Int) (a:List (List Int)):Prop where
 len:(a.length:Int)=n
 row:∀ i,0<=i->i<n->((ix a i).length:Int)=n
 ent:∀ i j,0<=i->i<n->0<=j->j<n->0<=ix (ix a i) j/\ix (ix a i) j<n
theorem Sq.set {n:Int} {a:List (List Int)} (h:Sq n a) {x y v:Int} (k:0<=x) (x1:x<n) (y0:0<=y) (y1:y<n) (v0:0<=v) (v1:v<n):Sq n (a.set x.toNat ((ix a x).set y.toNat v)):=by
 have hl:=h.len;have hx:=h.row x k x1;refine ⟨by rw [List.length_set];exact hl,fun i l o=>?_,fun i j l o u j1=>?_⟩
 ·by_cases e:x=i
  ·subst e;rw [ZaR k ω,List.length_set];exact hx
  ·rw [Zbu k l e];exact h.row i l o
 ·by_cases e:x=i
  ·subst e;rw [ZaR k ω];by_cases e:y=j
   ·subst e;rw [ZaR y0 ω];exact ⟨v0,v1⟩
   ·rw [Zbu y0 u e];exact h.ent x j k x1 u j1
  ·rw [Zbu k l e];exact h.ent i j l o u j1
theorem Sq.sz {n:Int} {a:List (List Int)} (h:Sq n a) (h1:n<=1000):Sz2 a:=by
 refine ⟨by have:=h.len;omega,fun b j=>?_⟩;obtain ⟨i,k,l,rfl⟩:=ZL j;have:=h.row i k (by rw [<-h.len];exact l);omega
theorem Zj7 {r c:Int} (j:0<=r) (l:r<=1000) (o:0<=c) (c1:c<=1000):ZdH r c=some (List.replicate r.toNat (List.replicate c.toNat 0)):=by
 unfold ZdH;have:=ZG (B:=ZkD r c) (fun i=>(List.replicate i.toNat (List.replicate c.toNat 0),i)) (i:=0) (n:=r) j fun k u k1=>by
  have e:(List.replicate k.toNat (List.replicate c.toNat (0:Int))).length=k.toNat:=List.length_replicate;simp (disch:=omega) only [pz,ZkD,ZaF,gApp1,e];rw [show (k+1).toNat=k.toNat+1 by omega,List.replicate_succ']
 rw [show (([]:List (List Int)),(0:Int))=(fun i:Int=>(List.replicate i.toNat (List.replicate c.toNat (0:Int)),i)) 0 from rfl,this];refine Ze ?_;simp (disch:=omega) only [pz,ZkD]
theorem Zk5 {n:Int} (u:1<=n):Sq n (List.replicate n.toNat (List.replicate n.toNat 0)):=
 ⟨by rw [List.length_replicate];omega,fun i k l=>by rw [Za0 k ω,List.length_replicate];omega,fun i j k l o x=>by rw [Za0 k ω,Za0 o ω];omega⟩
theorem ZmZ {n:Int} (n0:1<=n) (n1:n<=30):Ex (ZaP n) (Sq n):=by
 unfold ZaP;rw [Zj7 ω ω ω ω];refine ZQ (fun k s=>0<=s.1/\s.1<=n/\k=(n-s.1).toNat/\Sq n s.2) n.toNat ⟨by show (0:Int)<=0;omega,by show (0:Int)<=n;omega,by show _=(n-0).toNat;omega,Zk5 n0⟩ ?_;rintro k ⟨x,xs⟩ ⟨i,o,hk,h⟩;dsimp only at i o hk h;unfold Zut;refine ex_d (fun j=>?_) fun _=>Zg h;refine ZQ (fun k s=>0<=s.1/\s.1<=n/\k=(n-s.1).toNat/\Sq n s.2) n.toNat ⟨by show (0:Int)<=0;omega,by show (0:Int)<=n;omega,by show _=(n-0).toNat;omega,h⟩ ?_;rintro k2 ⟨y,ys⟩ ⟨y0,u,l,h⟩;dsimp only at y0 u l h;unfold Ztp;have hl:=h.len;refine ex_d (fun hy=>?_) fun _=>?_
 ·have hr:=h.row x i j;refine ZI ⟨i,by omega⟩ (ex_nz ω (ZI ⟨y0,by omega⟩ (Zg ⟨(n-(y+1)).toNat,by omega,?_⟩)));rw [wr64 ω ω,wr64 ω ω];exact ⟨by omega,by omega,rfl,h.set i j y0 hy (Int.tmod_nonneg _ ω) (Int.tmod_lt_of_pos _ ω)⟩
 ·refine Zg ⟨(n-(x+1)).toNat,by omega,?_⟩;rw [wr64 ω ω];exact ⟨by omega,by omega,rfl,h⟩
theorem ZwV {n m:Int} {a b:List (List Int)} (ha:Sq n a) (j:Sq m b) (n0:1<=n) (n1:n<=5) (m0:1<=m) (m1:m<=5):Ex (ZcA a b) (Sq (n*m)):=by
 have la:=ha.len;have lb:=j.len;have b0:1<=n*m:=by have:=Int.mul_le_mul n0 m0 ω (by omega:(0:Int)<=n);simpa using this
 have b1:n*m<=25:=by have:=Int.mul_le_mul n1 m1 ω (by omega:(0:Int)<=5);simpa using this
 unfold ZcA;rw [la,lb,wr64 ω ω,Zj7 ω ω ω ω];generalize hN:n*m=N at *;have a3:∀ z,0<=z->z<N->0<=Int.tdiv z m/\Int.tdiv z m<n/\0<=Int.tmod z m/\Int.tmod z m<m:=fun z l z1=>by
  rw [Int.tdiv_eq_ediv_of_nonneg l];refine ⟨Int.ediv_nonneg l ω,Int.ediv_lt_of_lt_mul ω (by rw [hN];exact z1),Int.tmod_nonneg _ l,Int.tmod_lt_of_pos _ ω⟩
 refine ZQ (fun k s=>0<=s.1/\s.1<=N/\k=(N-s.1).toNat/\Sq N s.2) N.toNat ⟨by show (0:Int)<=0;omega,by show (0:Int)<=N;omega,by show _=(N-0).toNat;omega,Zk5 b0⟩ ?_;rintro k ⟨x,xs⟩ ⟨i,x1,hk,h⟩;dsimp only at i x1 hk h;unfold Zuf;rw [la,lb,hN,wr64 ω ω];refine ex_d (fun o=>?_) fun _=>Zg h;refine ZQ (fun k s=>0<=s.1/\s.1<=N/\k=(N-s.1).toNat/\Sq N s.2) N.toNat ⟨by show (0:Int)<=0;omega,by show (0:Int)<=N;omega,by show _=(N-0).toNat;omega,h⟩ ?_;rintro k2 ⟨y,ys⟩ ⟨y0,y1,a4,h⟩;dsimp only at y0 y1 a4 h;unfold Zrt;rw [la,lb,hN,wr64 (x:=N) ω ω];have hl:=h.len;refine ex_d (fun hy=>?_) fun _=>?_
 ·obtain ⟨d1,d2,d3,d4⟩:=a3 x i o;obtain ⟨e1,e2,e3,e4⟩:=a3 y y0 hy;have r1:=h.row x i o;have r2:=ha.row _ d1 d2;have r3:=j.row _ d3 d4;have v1:=ha.ent _ _ d1 d2 e1 e2;have v2:=j.ent _ _ d3 d4 e3 e4;rw [wr64 (x:=Int.tdiv x m) ω ω,wr64 (x:=Int.tdiv y m) ω ω];refine ZI ⟨i,by omega⟩ (ex_nz ω (ZI ⟨d1,by omega⟩ (ex_nz ω (ZI ⟨e1,by omega⟩ (ex_nz ω (ZI ⟨d3,by omega⟩ (ex_nz ω (ZI ⟨e3,by omega⟩ (ZI ⟨y0,by omega⟩ (Zg ⟨(N-(y+1)).toNat,by omega,?_⟩))))))))));generalize ix (ix a (Int.tdiv x m)) (Int.tdiv y m)=u at v1;generalize ix (ix b (Int.tmod x m)) (Int.tmod y m)=v at v2;have q1:0<=m*u:=Int.mul_nonneg ω v1.1;have q2:m*u<=m*(n-1):=Int.mul_le_mul_of_nonneg_left ω ω;have q3:m*(n-1)=N-m:=by rw [Int.mul_sub,<-hN,Int.mul_comm n m,Int.mul_one]
  rw [wr64 (x:=y+1) ω ω,wr64 (x:=m*u) ω ω,wr64 ω ω];exact ⟨by omega,by omega,rfl,h.set i o y0 hy ω ω⟩
 ·refine Zg ⟨(N-(x+1)).toNat,by omega,?_⟩;rw [wr64 ω ω];exact ⟨by omega,by omega,rfl,h⟩
theorem ZrR {a:List (List Int)} (h:Sz2 a):ZfJ a=some a:=by
 have u:=h.1;unfold ZfJ;have:=ZG (B:=ZkM a) (fun i=>(a.take i.toNat,i)) (i:=0) (n:=a.length) ω fun k j k1=>by
  have l:=h.2 _ (Zj j k1);have e:(a.take k.toNat).length=k.toNat:=by rw [List.length_take];omega
  have o:=Zfu (xs:=ix a k) l;simp (disch:=omega) only [pz,ZkM,o,gApp1,e];rw [ZaC j k1]
 rw [show (([]:List (List Int)),(0:Int))=(fun i:Int=>(a.take i.toNat,i)) 0 from rfl,this];refine Ze ?_;rw [Int.toNat_natCast,List.take_length];simp (disch:=omega) only [pz,ZkM]
theorem ZCM {code:List Int} {N:Int} {y0:Za} (hb:Bytes code) (hs:Src code (N-6) y0) (hN:N<=100000000) {n:Int} {a:List (List Int)} (h:Sq n a) (n0:1<=n) (n1:n<=100):Ex (ZhX y0 a) fun r=>Sq n r.1/\Src code N r.2:=by
 have hl:=h.len;unfold ZhX;rw [ZrR (h.sz ω)];refine ZS hb hs ω fun x s1 j x1 _ h1=>?_;dsimp only;refine ZS hb h1 ω fun z s2 o z1 _ h2=>?_;dsimp only;refine ex_e (fun _=>Zg ⟨h,h2.mono ω⟩) fun _=>?_;refine ZS hb h2 ω fun y s3 a5 l _ h3=>?_;dsimp only;have x1:=x1 ω;have z1:=z1 ω;have l:=l ω;have hx:=h.row x j ω;refine ZI ⟨j,x1⟩ (ZI ⟨a5,by omega⟩ ?_);refine ZQ (fun k s=>(0<=s.1/\s.1<n)/\(0<=s.2.1/\s.2.1<=n)/\k=(n-s.2.1).toNat/\Sq n s.2.2) n.toNat ⟨⟨a5,by show y<n;omega⟩,⟨by show (0:Int)<=0;omega,by show (0:Int)<=n;omega⟩,by show _=(n-0).toNat;omega,h⟩ ?_;rintro k ⟨y,c,xs⟩ ⟨⟨y0,l⟩,⟨c0,c1⟩,hk,g⟩;dsimp only at y0 l c0 c1 hk g;have gl:=g.len;unfold Zl0;dsimp only;refine ex_d (fun hc=>?_) fun _=>Zg ⟨g,h3.mono ω⟩;have rx:=g.row x j ω;have rz:=g.row z o ω;have vx:=g.ent x y j ω y0 l;have vz:=g.ent z y o ω y0 l;have g1:=g.set (x:=x) (y:=y) j ω y0 l vz.1 vz.2;have r1:=g1.row z o ω;have l1:=g1.len;have g2:=g1.set (x:=z) (y:=y) o ω y0 l vx.1 vx.2;have r2:=g2.row x j ω;have l2:=g2.len;refine ZI ⟨j,by omega⟩ (ZI ⟨y0,by omega⟩ (ZI ⟨o,by omega⟩ (ZI ⟨y0,by omega⟩ (ZI ⟨j,by omega⟩ (ZI ⟨y0,by omega⟩ (ZI ⟨o,by omega⟩ (ZI ⟨y0,by omega⟩ ?_)))))));refine ex_e (fun _=>Zg ⟨g2,h3.mono ω⟩) fun _=>?_;refine ZQ (fun k s=>(0<=s.1/\s.1<n)/\(0<=s.2/\s.2<=n)/\k=(n-s.2).toNat) n.toNat ⟨⟨by show (0:Int)<=0;omega,by show (0:Int)<n;omega⟩,⟨by show (0:Int)<=0;omega,by show (0:Int)<=n;omega⟩,by show _=(n-0).toNat;omega⟩ ?_;rintro k2 ⟨u,i⟩ ⟨⟨u0,u1⟩,⟨i0,i1⟩,ab⟩;dsimp only at u0 u1 i0 i1 ab;unfold ZlU;dsimp only;refine ex_d (fun hi=>?_) fun _=>Zg ⟨(n-(c+1)).toNat,by omega,⟨u0,u1⟩,?_⟩
 ·have w:ε.wrap (i+1)=i+1:=wr64 ω ω;rw [w];refine ex_n (fun _=>?_) fun _=>Zg ⟨(n-(i+1)).toNat,by omega,⟨u0,u1⟩,⟨by show 0<=i+1;omega,by show i+1<=n;omega⟩,rfl⟩;refine ZI ⟨j,by omega⟩ (ZI ⟨i0,by omega⟩ (ex_e (fun _=>Zg ⟨(n-(i+1)).toNat,by omega,⟨i0,by show i<n;omega⟩,⟨by show 0<=i+1;omega,by show i+1<=n;omega⟩,rfl⟩) fun _=>Zg ⟨(n-(i+1)).toNat,by omega,⟨u0,u1⟩,⟨by show 0<=i+1;omega,by show i+1<=n;omega⟩,rfl⟩))
 ·have w:ε.wrap (c+1)=c+1:=wr64 ω ω;rw [w];exact ⟨⟨by show 0<=c+1;omega,by show c+1<=n;omega⟩,rfl,g2⟩
theorem ZxD {n:Int} {a:List (List Int)} {p q r:List Int} (h:Sq n a) (hp:Vc.Perm p n) (hq:Vc.Perm q n) (hr:Vc.Perm r n) (n0:1<=n) (n1:n<=100):Ex (Zix a p q r) (Sq n):=by
 have hl:=h.len;have lp:=hp.len;have lq:=hq.len;have lr:=hr.len;unfold Zix;rw [hl,Zj7 ω ω ω ω];refine ZQ (fun k s=>0<=s.1/\s.1<=n/\k=(n-s.1).toNat/\Sq n s.2) n.toNat ⟨by show (0:Int)<=0;omega,by show (0:Int)<=n;omega,by show _=(n-0).toNat;omega,Zk5 n0⟩ ?_;rintro k ⟨x,xs⟩ ⟨i,o,hk,g⟩;dsimp only at i o hk g;unfold Zt1;rw [hl];refine ex_d (fun j=>?_) fun _=>Zg g;refine ZQ (fun k s=>0<=s.1/\s.1<=n/\k=(n-s.1).toNat/\Sq n s.2) n.toNat ⟨by show (0:Int)<=0;omega,by show (0:Int)<=n;omega,by show _=(n-0).toNat;omega,g⟩ ?_;rintro k2 ⟨y,ys⟩ ⟨y0,u,l,g⟩;dsimp only at y0 u l g;unfold Zu3;rw [hl];have gl:=g.len;refine ex_d (fun hy=>?_) fun _=>?_
 ·have px:=hp.rng _ (Zj i (by omega:x<(p.length:Int)));have qy:=hq.rng _ (Zj y0 (by omega:y<(q.length:Int)));have ra:=h.row x i j;have va:=h.ent x y i j y0 hy;have rr:=g.row _ px.1 px.2;have vr:=hr.rng _ (Zj va.1 (by omega:ix (ix a x) y<(r.length:Int)));refine ZI ⟨i,by omega⟩ (ZI ⟨px.1,by omega⟩ (ZI ⟨y0,by omega⟩ (ZI ⟨i,by omega⟩ (ZI ⟨y0,by omega⟩ (ZI ⟨va.1,by omega⟩ (ZI ⟨qy.1,by omega⟩ (Zg ⟨(n-(y+1)).toNat,by omega,?_⟩)))))));rw [wr64 ω ω];exact ⟨by omega,by omega,rfl,g.set px.1 px.2 qy.1 qy.2 vr.1 vr.2⟩
 ·refine Zg ⟨(n-(x+1)).toNat,by omega,?_⟩;rw [wr64 ω ω];exact ⟨by omega,by omega,rfl,g⟩
section
variable {code:List Int} {N:Int} {y0:Za}
theorem Znq (j:Bytes code) (hN:N<=100000000) {n:Int} (n0:1<=n) (n1:n<=5) {a:List (List Int)} (h:Sq n a) {u v:Int} (hs:Src code (N-300) (Za.mk y0.qcode u v)):Ex (Za9 y0 n a u v) fun r=>Sq n r.1/\Src code N r.2:=by
 unfold Za9;refine ZS j hs ω fun c s1 c0 c1 _ h1=>?_;dsimp only;have c1:=c1 ω;refine ZQ (fun k s=>Sq n s.1/\(0<=s.2.1/\s.2.1<=4)/\k=s.2.1.toNat/\Src code (N-200-6*s.2.1) (Za.mk y0.qcode s.2.2.1 s.2.2.2)) c.toNat ⟨h,⟨c0,by show c<=4;omega⟩,rfl,h1.mono (by show _<=N-200-6*c;omega)⟩ ?_;rintro k ⟨b,i,p,q⟩ ⟨g,⟨i0,i1⟩,hk,hs⟩;dsimp only at g i0 i1 hk hs;unfold Zls;refine ex_d (fun hi=>?_) fun _=>?_
 ·refine ZC (ZCM j (N:=N-200-6*(i-1)) (hs.mono ω) ω g n0 ω) fun r hr=>Zg ⟨(i-1).toNat,by omega,?_⟩;rw [wr64 ω ω];exact ⟨hr.1,⟨by show 0<=i-1;omega,by show i-1<=4;omega⟩,rfl,hs.of hr.2⟩
 ·refine Zkb j hs ω ⟨n0,by omega⟩ fun p1 s1 l h1=>?_;refine Zkb j h1 ω ⟨n0,by omega⟩ fun p2 s2 x h2=>?_;dsimp only;refine Zkb j h2 ω ⟨n0,by omega⟩ fun p3 s3 y h3=>?_;dsimp only;refine ZcY j h3 ω fun o s4 h4=>?_;dsimp only;refine ex_c (Zg ⟨g,h4.mono ω⟩) ?_;exact ZC (ZxD g l x y n0 ω) fun r hr=>Zg ⟨hr,h4.mono ω⟩
theorem ZBX (i:Bytes code) (hs:Src code (N-310) y0) (hN:N<=100000000) {n:Int} (n0:1<=n) (n1:n<=5):Ex (Zjr y0 n) fun r=>Sq n r.1/\Src code N r.2:=by
 unfold Zjr;refine ZC (ZmZ n0 ω) fun a ha=>?_;refine ex_e (fun k=>?_) fun _=>ex_e (fun _=>by omega) fun _=>ex_e (fun _=>by omega) fun _=>ex_e (fun _=>by omega) fun _=>Znq i hN n0 n1 ha (Src.mono (s:=y0) hs ω);refine ZcY i (show Src code (N-310) (Za.mk y0.qcode y0.qat y0.qseed) from hs) ω fun o x h1=>?_;dsimp only;refine ex_c ?_ (Znq i hN n0 n1 ha (h1.mono ω));refine ZC (ZmZ (n:=2) ω ω) fun b j=>ZC (ZmZ (n:=2) ω ω) fun c l=>ZC (ZwV j l ω ω ω ω) fun d u=>?_;exact Znq i hN n0 n1 (by rw [k];exact u) (h1.mono ω)
end
structure Md (m:Int) (a:List (List Int)):Prop where
 len:(a.length:Int)<=m
 row:∀ b∈a,(b.length:Int)<=100
theorem Md.mono {m j:Int} {a:List (List Int)} (h:Md m a) (hm:m<=j):Md j a:=⟨by have:=h.len;omega,h.row⟩
theorem Md.nil {m:Int} (h:0<=m):Md m []:=⟨h,fun _ h=>by simp at h⟩
theorem Md.app {m k:Int} {a b:List (List Int)} (l:Md m a) (i:Md k b):Md (m+k) (a++b):=⟨by have:=l.len;have:=i.len;rw [List.length_append];omega,fun x j=>(List.mem_append.1 j).elim (l.row x) (i.row x)⟩
theorem Md.one {r:List Int} (h:(r.length:Int)<=100):Md 1 [r]:=⟨Int.le_refl _,fun x i=>by rw [List.mem_singleton.1 i];exact h⟩
theorem Md.sz {m:Int} {a:List (List Int)} (h:Md m a) (hm:m<=1000000):Sz2 a:=⟨by have:=h.len;omega,fun b i=>by have:=h.row b i;omega⟩
theorem Md.sort {m:Int} {a:List (List Int)} (h:Md m a) (hm:m<=1000000):Ex (ZaA a) (Md m):=
 ⟨_,ZhM (by have:=h.len;omega) (fun b i=>by have:=h.row b i;omega),by rw [Zau];exact h.len,fun b i=>h.row b (Zal.1 i)⟩
theorem Ztq {β:Type} {Q:β->Prop} {l:List Int} {x:Int} {f:List Int->Option β} (h:(l.length:Int)<=1000) (k:∀ l',(l'.length:Int)<=l.length+1->Ex (f l') Q):Ex ((Za5 l x).bind f) Q:=by
 rw [Zqb ω];exact k _ (by have:=ZgD (fun y=>y-x) x l;omega)
section
variable {code:List Int} {N:Int} {s:Za}
theorem ZqL (o:Bytes code) (hs:Src code (N-200) s) (hN:N<=100000000) {a3:Int}:Ex (ZfL s a3) fun r=>Md 10 r.1/\Src code N r.2:=by
 unfold ZfL;refine ZS o (show Src code (N-200) (Za.mk s.qcode s.qat s.qseed) from hs) ω fun c s1 c0 c1 _ h1=>?_;dsimp only;have c1:=c1 ω;refine ZQ (fun k st=>Md (9-st.2.1) st.1/\(0<=st.2.1/\st.2.1<=9)/\k=st.2.1.toNat/\Src code (N-20*st.2.1) (Za.mk s.qcode st.2.2.1 st.2.2.2)) c.toNat ⟨Md.nil (by show 0<=9-c;omega),⟨c0,by show c<=9;omega⟩,rfl,h1.mono (by show _<=N-20*c;omega)⟩ ?_;rintro k ⟨a,i,p,q⟩ ⟨g,⟨i0,i1⟩,hk,hs⟩;dsimp only at g i0 i1 hk hs;unfold ZnC;refine ex_d (fun hi=>?_) fun _=>Zg ⟨g.mono ω,hs.mono ω⟩;refine ZS o hs ω fun x s2 _ _ _ u=>?_;dsimp only;refine ZS o u ω fun d s3 d0 y _ h3=>?_;dsimp only;have y:=y ω;refine ZQ (fun k st=>(st.1.length:Int)<=5-st.2.1/\(0<=st.2.1/\st.2.1<=4)/\k=st.2.1.toNat/\Src code (N-20*i+14-2*st.2.1) (Za.mk s.qcode st.2.2.1 st.2.2.2)) d.toNat ⟨by show (1:Int)<=5-d;omega,⟨d0,by show d<=4;omega⟩,rfl,h3.mono (by show _<=N-20*i+14-2*d;omega)⟩ ?_;rintro k2 ⟨l,j,p,q⟩ ⟨gl,⟨j0,j1⟩,a2,hs⟩;dsimp only at gl j0 j1 a2 hs;unfold Znk;refine ex_d (fun hj=>?_) fun _=>?_
 ·refine ZS o hs ω fun x s2 _ _ _ u=>?_;dsimp only;refine Ztq ω fun l' af=>Zg ⟨(j-1).toNat,by omega,?_⟩;rw [wr64 ω ω];exact ⟨by show (l'.length:Int)<=5-(j-1);omega,⟨by show 0<=j-1;omega,by show j-1<=4;omega⟩,rfl,u.mono (by show _<=N-20*i+14-2*(j-1);omega)⟩
 ·have gn:=g.len;refine Zag ⟨by simp only [List.length_cons,List.length_nil];omega,by simp only [List.length_cons,List.length_nil];omega⟩ (Zg ⟨(i-1).toNat,by omega,?_⟩);rw [wr64 ω ω];exact ⟨(g.app (Md.one ω)).mono (by show _<=9-(i-1);omega),⟨by show 0<=i-1;omega,by show i-1<=9;omega⟩,rfl,hs.mono (by show _<=N-20*(i-1);omega)⟩
theorem ZAE {r:Int×Za} (j:0<=r.1) (l:r.1<=3) {x:Int} (o:0<=x) (u:x<=6) {I:Nat->List (List Int)×Int->Prop} {n:Nat} {Q:Zw×Za->Prop} {a:List (List Int)} (g:Md (10*x) a) (K:∀ a',Md (10*(x+1)) a'->Tn I Q n (.inl (a',x+1))):
  Ex (loop (Zj6 r x) (a,ε.wrap (x+1))) (Tn I Q n):=by
 rw [wr64 ω ω];have w:ε.wrap (3+r.1)=3+r.1:=wr64 ω ω;refine ZQ (fun k st=>Md (10*x+st.2-(x+1)) st.1/\(x+1<=st.2/\st.2<=7)/\k=(7-st.2).toNat) (7-(x+1)).toNat ⟨g.mono (by show 10*x<=10*x+(x+1)-(x+1);omega),⟨Int.le_refl _,by show x+1<=7;omega⟩,rfl⟩ ?_;rintro k ⟨b,y⟩ ⟨gb,⟨y0,i⟩,hk⟩;dsimp only at gb y0 i hk;unfold Zj6;rw [w];have gn:=gb.len;refine ex_d (fun hy=>?_) fun _=>?_
 ·refine Zag ⟨by simp only [List.length_cons,List.length_nil];omega,by simp only [List.length_cons,List.length_nil];omega⟩ (Zg ⟨(7-(y+1)).toNat,by omega,?_⟩);rw [wr64 ω ω];exact ⟨(gb.app (Md.one (by simp))).mono (by show _<=10*x+(y+1)-(x+1);omega),⟨by show x+1<=y+1;omega,by show y+1<=7;omega⟩,rfl⟩
 ·refine Zg ?_;rw [wr64 ω ω];exact K b (gb.mono ω)
theorem ZuE {m:Int} (y:1<=m) (m2:m<=20) {z:Int} (z0:0<=z) (z1:z<=20) {l:List Int} (hl:(l.length:Int)<=5) (hr:∀ x∈l,0<=x/\x<=20) {I:Nat->List (List Int)×Int->Prop} {n:Nat} {Q:Zw×Za->Prop} {a:List (List Int)} (g:Md z a) (K:∀ a',Md (z+1) a'->Tn I Q n (.inl (a',z+1))) {B:List Int×Int->Option ((List Int×Int) ⊕ ((List (List Int)×Int) ⊕ (Zw×Za)))}
  (hB:∀ u i,B (u,i)=bif decide (i<(l.length:Int)) then (gIdx l i).bind fun e=>(gNz m).bind fun _=>(Za5 u (Int.tmod (ε.wrap (e+z)) m)).bind fun r=>some (.inl (r,ε.wrap (i+1))) else (gApp 24 a [u]).bind fun w=>some (.inr (.inl (w,ε.wrap (z+1))))):
  Ex (loop B ([],0)) (Tn I Q n):=by
 refine ZQ (fun k st=>(st.1.length:Int)<=st.2/\(0<=st.2/\st.2<=(l.length:Int))/\k=((l.length:Int)-st.2).toNat) l.length ⟨by show (0:Int)<=0;omega,⟨by show (0:Int)<=0;omega,by show (0:Int)<=_;omega⟩,by show _=((l.length:Int)-0).toNat;omega⟩ ?_;rintro k ⟨u,i⟩ ⟨gu,⟨j,o⟩,hk⟩;dsimp only at gu j o hk;rw [hB];have gn:=g.len;refine ex_d (fun hi=>?_) fun _=>?_
 ·refine ZI ⟨j,hi⟩ (ex_nz ω (Ztq ω fun l' a6=>Zg ⟨((l.length:Int)-(i+1)).toNat,by omega,?_⟩));rw [wr64 (x:=i+1) ω ω];exact ⟨by show (l'.length:Int)<=i+1;omega,⟨by show 0<=i+1;omega,by show i+1<=_;omega⟩,rfl⟩
 ·refine Zag ⟨by simp only [List.length_cons,List.length_nil];omega,by simp only [List.length_cons,List.length_nil];omega⟩ (Zg ?_);rw [wr64 ω ω];exact K _ (g.app (Md.one ω))
theorem ZAS (y:Bytes code) (hs:Src code (N-10) s) (hN:N<=100000000):Ex (Zkv s) fun r=>Md 100 r.1.Blocks/\Src code N r.2:=by
 unfold Zkv;refine ZS y (show Src code (N-10) (Za.mk s.qcode s.qat s.qseed) from hs) ω fun c s1 c0 c1 _ h1=>?_;dsimp only;refine ex_e (fun _=>?_) fun _=>ex_e (fun _=>?_) fun _=>ex_e (fun _=>?_) fun _=>?_
 ·refine ZC (Md.sort (m:=7) ⟨by simp,by simp⟩ ω) fun r hr=>Zg ⟨hr.mono ω,h1.mono ω⟩
 ·refine ZS y h1 ω fun d s2 d0 d1 _ h2=>?_;have d1:=d1 ω;have w:ε.wrap (3+d)=3+d:=wr64 ω ω;refine ZQ (fun k st=>Md (10*st.2) st.1/\(0<=st.2/\st.2<=7)/\k=(7-st.2).toNat) 7 ⟨Md.nil (by show (0:Int)<=10*0;omega),⟨by show (0:Int)<=0;omega,by show (0:Int)<=7;omega⟩,rfl⟩ ?_;rintro k ⟨a,x⟩ ⟨g,⟨j,o⟩,hk⟩;dsimp only at g j o hk;unfold Zpi;dsimp only;rw [w];refine ex_d (fun hx=>?_) fun _=>ZC (g.sort ω) fun r hr=>Zg ⟨hr.mono ω,h2.mono ω⟩;exact ZAE (r:=(d,s2)) d0 (by show d<=3;omega) j ω g fun a' a2=>⟨(7-(x+1)).toNat,by omega,a2,⟨by show 0<=x+1;omega,by show x+1<=7;omega⟩,rfl⟩
 ·refine ZQ (fun k st=>Md st.2 st.1/\(0<=st.2/\st.2<=11)/\k=(11-st.2).toNat) 11 ⟨Md.nil (by show (0:Int)<=0;omega),⟨by show (0:Int)<=0;omega,by show (0:Int)<=11;omega⟩,rfl⟩ ?_;rintro k ⟨a,x⟩ ⟨g,⟨j,o⟩,hk⟩;dsimp only at g j o hk;unfold Zmr;refine ex_d (fun hx=>?_) fun _=>ZC (g.sort ω) fun r hr=>Zg ⟨hr.mono ω,h1.mono ω⟩;exact ZuE (m:=11) (l:=[1,3,4,5,9]) ω ω j ω (by simp) (by simp) g (fun a' a2=>⟨(11-(x+1)).toNat,by omega,a2,⟨by show 0<=x+1;omega,by show x+1<=11;omega⟩,rfl⟩) fun u i=>by unfold ZoP;rfl
 ·refine ZQ (fun k st=>Md st.2 st.1/\(0<=st.2/\st.2<=13)/\k=(13-st.2).toNat) 13 ⟨Md.nil (by show (0:Int)<=0;omega),⟨by show (0:Int)<=0;omega,by show (0:Int)<=13;omega⟩,rfl⟩ ?_;rintro k ⟨a,x⟩ ⟨g,⟨j,o⟩,hk⟩;dsimp only at g j o hk;unfold Zo8;refine ex_d (fun hx=>?_) fun _=>ZC (g.sort ω) fun r hr=>Zg ⟨hr.mono ω,h1.mono ω⟩;exact ZuE (m:=13) (l:=[0,1,3,9]) ω ω j ω (by simp) (by simp) g (fun a' a2=>⟨(13-(x+1)).toNat,by omega,a2,⟨by show 0<=x+1;omega,by show x+1<=13;omega⟩,rfl⟩) fun u i=>by unfold Zmk;rfl
theorem Zwb (i:Bytes code) (hs:Src code (N-250) s) (hN:N<=100000000):Ex (ZkJ s) fun r=>Md 100 r.1.Blocks/\Src code N r.2:=by
 unfold ZkJ;refine ZcY i (show Src code (N-250) (Za.mk s.qcode s.qat s.qseed) from hs) ω fun o l h1=>?_;dsimp only;refine ex_c ?_ ?_
 ·exact ZC (ZAS i (h1.mono (m:=N-10) ω) hN) fun r hr=>Zg ⟨hr.1,h1.of hr.2⟩
 ·refine ZS i h1 ω fun c u _ _ _ j=>?_;dsimp only;refine ZC (ZqL i (j.mono (m:=N-200) ω) hN) fun r hr=>ZC (hr.1.sort ω) fun x k=>Zg ⟨k.mono ω,j.of hr.2⟩
theorem ZE1 (i:Bytes code) (hs:Src code (N-300) s) (hN:N<=100000000):Ex (Zie s) fun r=>Md 150 r.1.Blocks/\Src code N r.2:=by
 unfold Zie;refine ZC (Zwb i (N:=N-50) (show Src code _ (Za.mk s.qcode s.qat s.qseed) from hs.mono ω) ω) fun r hr=>?_;have o:Src code (N-50) (Za.mk s.qcode r.2.qat r.2.qseed):=hs.of hr.2;have hm:=hr.1;have y:=hm.len;refine ZS i o ω fun c s1 _ _ _ h1=>?_;dsimp only;refine ex_e (fun _=>?_) fun _=>ex_e (fun _=>?_) fun _=>ex_e (fun _=>?_) fun _=>ex_e (fun _=>?_) fun _=>ex_e (fun _=>?_) fun _=>?_
 ·refine Zdc i h1 ω (by simp) fun x u _ j=>?_;dsimp only;exact Zg ⟨hm.mono ω,j.mono ω⟩
 ·exact Zag ⟨by simp only [List.length_cons,List.length_nil];omega,by simp only [List.length_cons,List.length_nil];omega⟩ (Zg ⟨(hm.app (Md.one (by simp))).mono ω,h1.mono ω⟩)
 ·exact Zag ⟨by simp only [List.length_cons,List.length_nil];omega,by simp only [List.length_cons,List.length_nil];omega⟩ (Zg ⟨(hm.app (Md.one (by simp))).mono ω,h1.mono ω⟩)
 ·exact Zag ⟨by simp only [List.length_cons,List.length_nil];omega,by simp only [List.length_cons,List.length_nil];omega⟩ (Zg ⟨(hm.app (Md.one (by simp))).mono ω,h1.mono ω⟩)
 ·refine ZS i h1 ω fun d u d0 l _ j=>?_;have l:=l ω;have w:ε.wrap (127+d)=127+d:=wr64 ω ω;refine ZQ (fun k a=>Md 140 a/\k=(140-(a.length:Int)).toNat) 140 ⟨Md.nil ω,by simp⟩ ?_;rintro k a ⟨g,hk⟩;have gn:=g.len;unfold Zmb;dsimp only;rw [w];refine ex_d (fun hd=>Zag ⟨by simp only [List.length_cons,List.length_nil];omega,by simp only [List.length_cons,List.length_nil];omega⟩ (Zg ⟨_,?_,⟨?_,?_⟩,rfl⟩)) fun _=>Zg ⟨g.mono ω,j.mono ω⟩
  ·simp only [List.length_append,List.length_cons,List.length_nil];omega
  ·simp only [List.length_append,List.length_cons,List.length_nil];omega
  ·exact (g.app (Md.one (by simp))).row
 ·exact Zg ⟨hm.mono ω,h1.mono ω⟩
def setB (n:Int):List Int->Bool
 | []=>true
 | x::r=>decide (0<=x)&&decide (x<n)&&(match r with|[]=>true|y::_=>decide (x<y))&&setB n r
theorem ZrF {n:Int}:∀ {l:List Int},setB n l=true->SetIn l n
 | [],_=>⟨.nil,by simp⟩
 | [x],h=>by
  simp [setB] at h;exact ⟨by simp,by simp;omega⟩
 | x::y::r,h=>by
  simp only [setB,Bool.and_eq_true,decide_eq_true_eq] at h;have j:=ZrF (n:=n) (l:=y::r) (by simp only [setB,Bool.and_eq_true,decide_eq_true_eq];exact h.2);refine ⟨List.pairwise_cons.2 ⟨fun z hz=>?_,j.srt⟩,fun z hz=>?_⟩
  ·rcases List.mem_cons.1 hz with rfl|hz
   ·exact h.1.2
   ·have:=(List.pairwise_cons.1 j.srt).1 z hz;have:=h.1.2;omega
  ·rcases List.mem_cons.1 hz with rfl|hz
   ·exact h.1.1
   ·exact j.rng z hz
noncomputable def fanoT:Bool:=match Zo6 200 7 with
 | some d=>Nat.ble d.Blocks.length 100&&d.Blocks.all fun b=>Nat.ble b.length 100&&setB 7 b
 | none=>false
theorem ZIq:fanoT=true:=κ
theorem ZAp:Ex (ZfZ 7) fun d=>Md 100 d.Blocks/\∀ b∈d.Blocks,SetIn b 7:=by
 have h:=ZIq;unfold fanoT at h;split at h
 ·rename_i d e;rw [Bool.and_eq_true,Nat.ble_eq,List.all_eq_true] at h;refine ⟨d,ZFT _ _ e,⟨by omega,fun b i=>?_⟩,fun b i=>?_⟩
  ·have:=h.2 b i;rw [Bool.and_eq_true,Nat.ble_eq] at this;omega
  ·have:=h.2 b i;rw [Bool.and_eq_true] at this;exact ZrF this.2
 ·cases h
theorem Zuj {d:Zw} {p:List Int} {n:Int} (hp:Vc.Perm p n) (o:∀ b∈d.Blocks,SetIn b n) (hm:Md 1000 d.Blocks):Zee d p=some ⟨d.Points,sortRows (d.Blocks.map (imgS p))⟩:=by
 have hl:=hm.len;unfold Zee;have:=ZG (B:=ZkP d p) (fun i=>((d.Blocks.take i.toNat).map (imgS p),i)) (i:=0) (n:=d.Blocks.length) ω fun k j k1=>by
  have l:=Zj j k1;have hr:=hm.row _ l;have e:((d.Blocks.take k.toNat).map (imgS p)).length=k.toNat:=by rw [List.length_map,List.length_take];omega
  have ei:=ZGx hp (o _ l) ω;simp (disch:=omega) only [pz,ZkP,ei,gApp1,e];rw [ZaC j k1,List.map_append];rfl
 rw [show (([]:List (List Int)),(0:Int))=(fun i:Int=>((d.Blocks.take i.toNat).map (imgS p),i)) 0 from rfl,this];refine Ze ?_;rw [Int.toNat_natCast,List.take_length];have es:=ZhM (xs:=d.Blocks.map (imgS p)) (by rw [List.length_map];omega) (fun b u=>by
  obtain ⟨c,x,rfl⟩:=List.mem_map.1 u;rw [ZfC];have:=hm.row c x;omega)
 simp (disch:=omega) only [pz,ZkP,es]
theorem ZHf (i:Bytes code) (hs:Src code (N-350) s) (hN:N<=100000000):Ex (Zki s) fun r=>Md 150 r.1.Blocks/\Src code N r.2:=by
 unfold Zki;refine ZS i (show Src code (N-350) (Za.mk s.qcode s.qat s.qseed) from hs) ω fun c y _ _ _ h1=>?_;dsimp only;refine ex_e (fun _=>?_) fun _=>ex_e (fun _=>?_) fun _=>?_
 ·refine ZC ZAp fun d j=>?_;refine Zkb i h1 ω ω fun p u hp l=>?_;dsimp only;refine ZC ⟨_,Zuj (d:=⟨d.Points,d.Blocks⟩) hp j.2 (j.1.mono ω),rfl⟩ fun r hr=>?_;subst hr;refine Zg ⟨⟨?_,fun b i=>?_⟩,l.mono ω⟩
  ·have:=j.1.len;show ((sortRows (d.Blocks.map (imgS p))).length:Int)<=150;rw [Zau,List.length_map];omega
  ·obtain ⟨z,hz,rfl⟩:=List.mem_map.1 (Zal.1 i);rw [ZfC];exact j.1.row z hz
 ·exact ZC (ZE1 i (N:=N) (h1.mono ω) hN) fun r hr=>Zg ⟨hr.1,h1.of hr.2⟩
 ·refine ZS i h1 ω fun x u _ _ _ l=>?_;dsimp only;refine ZC (ZqL i (l.mono (m:=N-200) ω) hN) fun r hr=>?_;refine ZQ (fun k a=>Md 10 a/\k=a.length) r.1.length ⟨hr.1,rfl⟩ ?_;rintro k a ⟨g,rfl⟩;unfold ZpV;refine ex_d (fun j=>ex_sl ⟨by omega,by omega,Int.le_refl _⟩ (Zg ⟨_,?_,⟨?_,?_⟩,rfl⟩)) fun _=>ZC (g.sort ω) fun r2 o=>Zg ⟨o.mono ω,l.of hr.2⟩
  ·rw [List.length_drop,List.length_take];omega
  ·have:=g.len;rw [List.length_drop,List.length_take];omega
  ·exact fun b i=>g.row b (List.mem_of_mem_take (List.mem_of_mem_drop i))
end
noncomputable def splT (q:Int):Bool:=match ZfQ 100 q with
 | some r=>!(r.1==0)
 | none=>false
theorem spl_t:([2,3,4,5,7,8,9]:List Int).all splT=true:=κ
theorem Zpe {q:Int} (h:q∈([2,3,4,5,7,8,9]:List Int)):∃ f inv,Made q f/\Ff f q inv:=by
 rcases Znh q with ⟨f,hm⟩|⟨h1,_⟩
 ·obtain ⟨inv,hF⟩:=Zph hm.gf;exact ⟨f,inv,hm,hF⟩
 ·exfalso;have:=List.all_eq_true.1 spl_t q h;unfold splT at this;split at this
  ·rename_i r e;have i:=Zz _ _ e;rw [h1] at i;cases i;simp at this
  ·cases this
theorem Zrg {β:Type} {Q:β->Prop} {f:Zb} {q:Int} {inv:List Int} (hF:Ff f q inv) {a b:Int} (l:0<=a/\a<q) (i:0<=b/\b<q) {g:Int->Option β} (k:∀ c,0<=c->c<q->Ex (g c) Q):Ex ((Zc5 (Zb.mk f.Prime f.Degree f.Poly) a b 1).bind g) Q:=by
 have j:=hF.q64;have hp:=hF.fd.p2;rw [show Zb.mk f.Prime f.Degree f.Poly=f from rfl,Zqv hF.fd l.1 ω i.1 ω ω ω];have r:=Zip hF.fd hF.pw a b 1;exact k _ r.1 r.2
theorem Zsr {β:Type} {Q:β->Prop} {f:Zb} {q:Int} {inv:List Int} (hF:Ff f q inv) {a b:Int} (l:0<=a/\a<q) (i:0<=b/\b<q) {g:Int->Option β} (k:∀ c,0<=c->c<q->Ex (g c) Q):Ex ((Zce (Zb.mk f.Prime f.Degree f.Poly) a b).bind g) Q:=by
 have j:=hF.q64;rw [show Zb.mk f.Prime f.Degree f.Poly=f from rfl,Zfz hF.fd l.1 ω i.1 ω];have r:=ZcO hF.fd hF.pw a b;exact k _ r.1 r.2
theorem ZBn {q m:Int} (hq:q∈([2,3,4,5,7,8,9]:List Int)) (o:0<=m) (u:m<q):Ex (ZiL q m) (Sq q):=by
 obtain ⟨f,inv,hM,hF⟩:=Zpe hq;have q2:=hF.q2;have a7:=hF.q64;unfold ZiL;rw [hM.mks,Zj7 ω ω ω ω];refine ZQ (fun k s=>0<=s.1/\s.1<=q/\k=(q-s.1).toNat/\Sq q s.2) q.toNat ⟨by show (0:Int)<=0;omega,by show (0:Int)<=q;omega,by show _=(q-0).toNat;omega,Zk5 ω⟩ ?_;rintro k ⟨x,xs⟩ ⟨i,x1,hk,h⟩;dsimp only at i x1 hk h;unfold Ztz;refine ex_d (fun j=>?_) fun _=>Zg h;refine Zsr hF ⟨o,u⟩ ⟨i,j⟩ fun c c0 c1=>?_;refine ZQ (fun k s=>0<=s.1/\s.1<=q/\k=(q-s.1).toNat/\Sq q s.2) q.toNat ⟨by show (0:Int)<=0;omega,by show (0:Int)<=q;omega,by show _=(q-0).toNat;omega,h⟩ ?_;rintro k2 ⟨y,ys⟩ ⟨y0,y1,l,h⟩;dsimp only at y0 y1 l h;unfold Zt3;have hl:=h.len;refine ex_d (fun hy=>?_) fun _=>?_
 ·have hr:=h.row x i j;refine Zrg hF ⟨c0,c1⟩ ⟨y0,hy⟩ fun d d0 d1=>ZI ⟨i,by omega⟩ (ZI ⟨y0,by omega⟩ (Zg ⟨(q-(y+1)).toNat,by omega,?_⟩));rw [wr64 ω ω];exact ⟨by omega,by omega,rfl,h.set i j y0 hy d0 d1⟩
 ·refine Zg ⟨(q-(x+1)).toNat,by omega,?_⟩;rw [wr64 ω ω];exact ⟨by omega,by omega,rfl,h⟩
structure Sqs (q:Int) (l:List (List (List Int))):Prop where
 one:1<=(l.length:Int)
 len:(l.length:Int)<=q-1
 all:∀ a∈l,Sq q a
theorem ZCz {q:Int} (hq:q∈([2,3,4,5,7,8,9]:List Int)):Ex (ZiJ q) fun l=>(l.length:Int)=q-1/\∀ a∈l,Sq q a:=by
 have u:2<=q/\q<=9:=by simp at hq;omega
 unfold ZiJ;refine ZQ (fun k s=>(1<=s.2/\s.2<=q)/\k=(q-s.2).toNat/\(s.1.length:Int)=s.2-1/\∀ a∈s.1,Sq q a) q.toNat.pred ⟨⟨by show (1:Int)<=1;omega,by show (1:Int)<=q;omega⟩,by show _=(q-1).toNat;simp,rfl,by simp⟩ ?_;rintro k ⟨l,m⟩ ⟨⟨j,o⟩,hk,hl,h⟩;dsimp only at j o hk hl h;unfold Zsa;refine ex_d (fun hm=>?_) fun _=>Zg ⟨by omega,h⟩;refine ZC (ZBn hq ω hm) fun a ha=>Zag ⟨by simp only [List.length_cons,List.length_nil];omega,by simp only [List.length_cons,List.length_nil];omega⟩ (Zg ⟨(q-(m+1)).toNat,by omega,?_⟩);rw [wr64 ω ω];refine ⟨⟨by show 1<=m+1;omega,by show m+1<=q;omega⟩,rfl,by show ((l++[a]).length:Int)=m+1-1;rw [List.length_append];simp;omega,fun x i=>?_⟩;rcases List.mem_append.1 i with i|i
 ·exact h x i
 ·rw [List.mem_singleton.1 i];exact ha
section
variable {code:List Int} {N:Int} {s:Za}
theorem Zwz (i:Bytes code) (hs:Src code (N-10) s) (hN:N<=100000000) {q:Int} (hq:q∈([2,3,4,5,7,8,9]:List Int)):Ex (Zh9 s q) fun r=>Sqs q r.1/\Src code N r.2:=by
 have x:2<=q/\q<=9:=by simp at hq;omega
 unfold Zh9;refine ZC (ZCz hq) fun l hl=>?_;have y:=hl.1;refine ZS i (show Src code (N-10) (Za.mk s.qcode s.qat s.qseed) from hs) ω fun c s1 j c1 _ h1=>?_;dsimp only;have c1:=c1 ω;have e1:(((l.take (l.length:Int).toNat).drop c.toNat).length:Int)=l.length-c:=by rw [List.length_drop,List.length_take];omega
 have e2:(((l.take c.toNat).drop (0:Int).toNat).length:Int)=c:=by rw [List.length_drop,List.length_take];omega
 refine ex_sl ⟨j,by omega,Int.le_refl _⟩ (Zag ⟨by simp only [List.length_nil];omega,by simp only [List.length_nil];omega⟩ (ex_sl ⟨by omega,j,by omega⟩ (Zag ⟨by simp only [List.nil_append];omega,by simp only [List.nil_append];omega⟩ ?_)));generalize hg:[]++(l.take (l.length:Int).toNat).drop c.toNat++(l.take c.toNat).drop (0:Int).toNat=g;have g1:(g.length:Int)=q-1:=by rw [<-hg,List.length_append,List.nil_append];omega
 have o:∀ a∈g,Sq q a:=fun a ha=>by
  rw [<-hg,List.nil_append] at ha;rcases List.mem_append.1 ha with ha|ha
  ·exact hl.2 a (List.mem_of_mem_take (List.mem_of_mem_drop ha))
  ·exact hl.2 a (List.mem_of_mem_take (List.mem_of_mem_drop ha))
 refine ZS i h1 ω fun d s2 d0 k _ u=>?_;dsimp only;have k:=k ω;rw [wr64 ω ω];refine ex_sl ⟨by omega,by omega,by omega⟩ (Zg ⟨⟨?_,?_,fun a ha=>o a (List.mem_of_mem_take (List.mem_of_mem_drop ha))⟩,u.mono ω⟩)
 ·show (1:Int)<=((g.take (d+1).toNat).drop (0:Int).toNat).length;rw [List.length_drop,List.length_take];omega
 ·show (((g.take (d+1).toNat).drop (0:Int).toNat).length:Int)<=q-1;rw [List.length_drop,List.length_take];omega
end
structure Mn (m:Int) (a:List (List Int)):Prop where
 md:Md m a
 ne:∀ b∈a,1<=(b.length:Int)
theorem Mn.mono {m j:Int} {a:List (List Int)} (h:Mn m a) (hm:m<=j):Mn j a:=⟨h.md.mono hm,h.ne⟩
theorem Mn.nil {m:Int} (h:0<=m):Mn m []:=⟨Md.nil h,by simp⟩
theorem Mn.app {m k:Int} {a b:List (List Int)} (l:Mn m a) (i:Mn k b):Mn (m+k) (a++b):=⟨l.md.app i.md,fun x j=>(List.mem_append.1 j).elim (l.ne x) (i.ne x)⟩
theorem Mn.one {r:List Int} (h:1<=(r.length:Int)) (i:(r.length:Int)<=100):Mn 1 [r]:=⟨Md.one i,fun x j=>by rw [List.mem_singleton.1 j];exact h⟩
theorem ZHB {q:Int} {l:List (List (List Int))} (h:Sqs q l) (q0:2<=q) (y:q<=9):Ex (ZjH l) fun a=>Mn 100 a.Rows/\a.Columns=l.length+2:=by
 have h1:=h.one;have h2:=h.len;unfold ZjH;refine ZI ⟨by omega,by omega⟩ ?_;have hs:=h.all _ (Zj (xs:=l) (i:=0) ω ω);have hl:=hs.len;generalize hn:(ix l 0)=e at hs hl;have qq:q*q<=81:=by have:=Int.mul_le_mul y y ω (by omega:(0:Int)<=9);simpa using this
 have a7:0<=q*q:=Int.mul_nonneg ω ω;refine ZQ (fun k s=>(0<=s.1/\s.1<=q*q)/\k=(q*q-s.1).toNat/\Mn s.1 s.2) (q*q).toNat ⟨⟨by show (0:Int)<=0;omega,by show (0:Int)<=q*q;omega⟩,by show _=(q*q-0).toNat;omega,Mn.nil (by show (0:Int)<=0;omega)⟩ ?_;rintro k ⟨c,xs⟩ ⟨⟨j,c1⟩,hk,g⟩;dsimp only at j c1 hk g;unfold Ztn;rw [hl,wr64 (x:=q*q) ω ω];have gn:=g.md.len;have w2:ε.wrap ((l.length:Int)+2)=l.length+2:=wr64 ω ω;refine ex_d (fun hc=>ex_nz ω (ex_nz ω ?_)) fun _=>Zg ⟨g.mono ω,w2⟩;have o:0<=Int.tdiv c q/\Int.tdiv c q<q:=by
  rw [Int.tdiv_eq_ediv_of_nonneg j];exact ⟨Int.ediv_nonneg j ω,Int.ediv_lt_of_lt_mul ω hc⟩
 have d2:0<=Int.tmod c q/\Int.tmod c q<q:=⟨Int.tmod_nonneg _ j,Int.tmod_lt_of_pos _ ω⟩
 refine ZQ (fun k s=>(s.1.length:Int)=2+s.2/\(0<=s.2/\s.2<=(l.length:Int))/\k=((l.length:Int)-s.2).toNat) l.length ⟨rfl,⟨by show (0:Int)<=0;omega,by show (0:Int)<=_;omega⟩,by show _=((l.length:Int)-0).toNat;omega⟩ ?_;rintro k2 ⟨r,i⟩ ⟨gr,⟨u,i1⟩,a2⟩;dsimp only at gr u i1 a2;unfold ZrV;rw [hl];refine ex_d (fun hi=>?_) fun _=>?_
 ·have hx:=h.all _ (Zj (xs:=l) (i:=i) u hi);have ac:=hx.len;have ab:=hx.row _ o.1 o.2;rw [wr64 (x:=Int.tdiv c q) ω ω];refine ZI ⟨u,hi⟩ (ex_nz ω (ZI ⟨o.1,by omega⟩ (ex_nz ω (ZI ⟨d2.1,by omega⟩ (Zag ⟨by simp only [List.length_cons,List.length_nil];omega,by simp only [List.length_cons,List.length_nil];omega⟩ (Zg ⟨((l.length:Int)-(i+1)).toNat,by omega,?_⟩))))));rw [wr64 (x:=i+1) ω ω];exact ⟨by rw [List.length_append];simp;omega,⟨by show 0<=i+1;omega,by show i+1<=_;omega⟩,rfl⟩
 ·refine Zag ⟨by simp only [List.length_cons,List.length_nil];omega,by simp only [List.length_cons,List.length_nil];omega⟩ (Zg ⟨(q*q-(c+1)).toNat,by omega,?_⟩);rw [wr64 (x:=c+1) ω ω];exact ⟨⟨by show 0<=c+1;omega,by show c+1<=q*q;omega⟩,rfl,g.app (Mn.one ω ω)⟩
theorem Zo1 {b m:Int} (l:1<=b) (o:b<=20) (u:0<=m) (m1:m<=1000):Ex (Zev b m) fun c=>1<=c/\c<=257:=by
 unfold Zev;refine ZQ (fun k s=>(1<=s.1/\s.1<=256)/\(0<=s.2/\s.2<=m)/\k=(m-s.2).toNat) m.toNat ⟨⟨by show (1:Int)<=1;omega,by show (1:Int)<=256;omega⟩,⟨by show (0:Int)<=0;omega,u⟩,by show _=(m-0).toNat;omega⟩ ?_;rintro k ⟨c,i⟩ ⟨⟨j,c1⟩,⟨y,i1⟩,hk⟩;dsimp only at j c1 y i1 hk;unfold Zvs;dsimp only;have u1:1<=c*b:=by have:=Int.mul_le_mul j l ω (by omega:(0:Int)<=c);simpa using this
 have u2:c*b<=5120:=by have:=Int.mul_le_mul c1 o ω (by omega:(0:Int)<=256);simpa using this
 rw [wr64 (x:=c*b) ω ω];refine ex_d (fun hi=>ex_d (fun _=>Zg ⟨by omega,by omega⟩) fun hc=>Zg ⟨(m-(i+1)).toNat,by omega,?_⟩) fun _=>Zg ⟨j,by omega⟩;rw [wr64 (x:=i+1) ω ω];exact ⟨⟨u1,by show c*b<=256;omega⟩,⟨by show 0<=i+1;omega,by show i+1<=m;omega⟩,rfl⟩
theorem ZrQ {n b m:Int} (n0:0<=n) (n1:n<=100000) (b0:1<=b) (m0:0<=m) (m1:m<=100):Ex (ZgX n b m) fun l=>(l.length:Int)=m/\∀ i,0<=i->i<m->0<=ix l i/\ix l i<b:=by
 unfold ZgX;refine Zt6 ⟨m0,by omega,by omega⟩ ?_;rw [wr64 ω ω];refine ZQ (fun k s=>(0<=s.1/\s.1<=100000)/\(-1<=s.2.1/\s.2.1<m)/\k=(s.2.1+1).toNat/\(s.2.2.length:Int)=m/\∀ i,0<=i->i<m->0<=ix s.2.2 i/\ix s.2.2 i<b) m.toNat ⟨⟨n0,n1⟩,⟨by show -1<=m-1;omega,by show m-1<m;omega⟩,by show _=(m-1+1).toNat;omega,by show ((List.replicate m.toNat (0:Int)).length:Int)=m;rw [List.length_replicate];omega,fun i u y=>by show 0<=ix (List.replicate m.toNat 0) i/\_;rw [Za0 u ω];omega⟩ ?_;rintro k ⟨c,i,xs⟩ ⟨⟨o,c1⟩,⟨u,y⟩,hk,hl,h⟩;dsimp only at o c1 u y hk hl h;unfold ZqY;refine ex_d (fun hi=>ex_nz ω (ZI ⟨hi,by omega⟩ (ex_nz ω (Zg ⟨(i-1+1).toNat,by omega,?_⟩)))) fun _=>Zg ⟨hl,h⟩;have t1:0<=Int.tdiv c b/\Int.tdiv c b<=c:=by
  rw [Int.tdiv_eq_ediv_of_nonneg o];exact ⟨Int.ediv_nonneg o ω,Int.ediv_le_self _ o⟩
 rw [wr64 (x:=Int.tdiv c b) ω ω,wr64 (x:=i-1) ω ω];refine ⟨⟨t1.1,by show Int.tdiv c b<=100000;omega⟩,⟨by show -1<=i-1;omega,by show i-1<m;omega⟩,rfl,by rw [List.length_set];exact hl,fun j j0 j1=>?_⟩;show 0<=ix (xs.set i.toNat (Int.tmod c b)) j/\_;by_cases e:i=j
 ·subst e;rw [ZaR hi ω];exact ⟨Int.tmod_nonneg _ o,Int.tmod_lt_of_pos _ ω⟩
 ·rw [Zbu hi j0 e];exact h j j0 j1
theorem Zv8 {l c:Int} (l0:1<=l) (l1:l<=20) (c0:1<=c) (c1:c<=50):Ex (Ziu l c) fun r=>Mn 300 r.1.Rows:=by
 unfold Ziu;refine ZC (R:=fun _=>True) ?_ fun b _=>ex_c (Zg (Mn.nil ω)) ?_
 ·unfold ZfA;rw [in_ok];refine ZC (R:=fun _=>True) ⟨_,rfl,trivial⟩ fun b _=>ex_c ?_ (Zg trivial);rw [in_ok];exact ⟨_,rfl,trivial⟩
 refine ZC (Zo1 l0 l1 ω ω) fun n hn=>ex_d (fun _=>Zg (Mn.nil ω)) fun x=>?_;refine ZQ (fun k s=>(0<=s.1/\s.1<=n)/\k=(n-s.1).toNat/\Mn s.1 s.2) n.toNat ⟨⟨by show (0:Int)<=0;omega,by show (0:Int)<=n;omega⟩,by show _=(n-0).toNat;omega,Mn.nil (by show (0:Int)<=0;omega)⟩ ?_;rintro k ⟨i,xs⟩ ⟨⟨j,o⟩,hk,g⟩;dsimp only at j o hk g;have gn:=g.md.len;unfold Zrf;refine ex_d (fun hi=>?_) fun _=>Zg (g.mono ω);refine ZC (ZrQ j ω l0 ω ω) fun d u=>Zag ⟨by simp only [List.length_cons,List.length_nil];omega,by simp only [List.length_cons,List.length_nil];omega⟩ (Zg ⟨(n-(i+1)).toNat,by omega,?_⟩);have y:=u.1;rw [wr64 ω ω];exact ⟨⟨by show 0<=i+1;omega,by show i+1<=n;omega⟩,rfl,g.app (Mn.one ω ω)⟩
theorem Zyv {q t c:Int} (hq:q∈([2,3,4,5,7,8,9]:List Int)) (t0:1<=t) (t1:t<=10) (c0:1<=c) (c1:c<=50):Ex (Zkz q t c) fun a=>Mn 300 a.Rows:=by
 obtain ⟨f,inv,hM,hF⟩:=Zpe hq;have q2:=hF.q2;have a9:q<=9:=by simp at hq;omega
 unfold Zkz;rw [hM.mks];refine ZC (R:=fun x=>x=f) ⟨f,rfl,rfl⟩ fun _ hf=>?_;subst hf;refine ZC (Zo1 ω ω ω ω) fun n hn=>?_;refine ZQ (fun k s=>(0<=s.1/\s.1<=n)/\k=(n-s.1).toNat/\Mn s.1 s.2) n.toNat ⟨⟨by show (0:Int)<=0;omega,by show (0:Int)<=n;omega⟩,by show _=(n-0).toNat;omega,Mn.nil (by show (0:Int)<=0;omega)⟩ ?_;rintro k ⟨i,xs⟩ ⟨⟨l,i1⟩,hk,g⟩;dsimp only at l i1 hk g;have gn:=g.md.len;unfold Zsw;refine ex_d (fun hi=>?_) fun _=>Zg (g.mono ω);refine ZC (ZrQ l ω ω ω ω) fun d o=>?_;have aa:=o.1;refine ZQ (fun k s=>(s.1.length:Int)=s.2/\(0<=s.2/\s.2<=c)/\k=(c-s.2).toNat) c.toNat ⟨rfl,⟨by show (0:Int)<=0;omega,by show (0:Int)<=c;omega⟩,by show _=(c-0).toNat;omega⟩ ?_;rintro k2 ⟨r,y⟩ ⟨gr,⟨y0,y1⟩,a2⟩;dsimp only at gr y0 y1 a2;have fin:∀ v,Ex (ZgJ r y v) (Tn (fun k (s:List Int×Int)=>(s.1.length:Int)=s.2/\(0<=s.2/\s.2<=c)/\k=(c-s.2).toNat) (Tn (fun k (s:Int×List (List Int))=>(0<=s.1/\s.1<=n)/\k=(n-s.1).toNat/\Mn s.1 s.2) (fun a:ZD=>Mn 300 a.Rows) k) k2)\/c<=y:=fun v=>by
  by_cases hy:y<c
  ·left;unfold ZgJ;refine Zag ⟨by simp only [List.length_cons,List.length_nil];omega,by simp only [List.length_cons,List.length_nil];omega⟩ (Zg ⟨(c-(y+1)).toNat,by omega,?_⟩);rw [wr64 ω ω];exact ⟨by rw [List.length_append];simp;omega,⟨by show 0<=y+1;omega,by show y+1<=c;omega⟩,rfl⟩
  ·right;omega
 unfold Zqf;refine ex_d (fun hy=>ZI ⟨by omega,by omega⟩ (ex_d (fun a4=>?_) fun _=>(fin _).resolve_right ω)) fun _=>?_
 ·refine ZQ (fun k s=>(0<=s.1/\s.1<q)/\(0<=s.2/\s.2<=(d.length:Int))/\k=((d.length:Int)-s.2).toNat) d.length ⟨⟨by show (0:Int)<=0;omega,by show (0:Int)<q;omega⟩,⟨by show (0:Int)<=0;omega,by show (0:Int)<=_;omega⟩,by show _=((d.length:Int)-0).toNat;omega⟩ ?_;rintro k3 ⟨v,z⟩ ⟨⟨v0,v1⟩,⟨j,z1⟩,a3⟩;dsimp only at v0 v1 j z1 a3;unfold Zvq;refine ex_d (fun hz=>?_) fun _=>?_
  ·have a5:=o.2 z j ω;refine Zsr hF ⟨v0,v1⟩ ⟨y0,a4⟩ fun u u0 u1=>ZI ⟨j,hz⟩ (Zrg hF ⟨u0,u1⟩ a5 fun w w0 w1=>Zg ⟨((d.length:Int)-(z+1)).toNat,by omega,?_⟩);rw [wr64 ω ω];exact ⟨⟨w0,w1⟩,⟨by show 0<=z+1;omega,by show z+1<=_;omega⟩,rfl⟩
  ·obtain ⟨w,e,hw⟩:=(fin v).resolve_right ω;rw [e];exact ⟨_,rfl,hw⟩
 ·refine Zag ⟨by simp only [List.length_cons,List.length_nil];omega,by simp only [List.length_cons,List.length_nil];omega⟩ (Zg ⟨(n-(i+1)).toNat,by omega,?_⟩);rw [wr64 ω ω];exact ⟨⟨by show 0<=i+1;omega,by show i+1<=n;omega⟩,rfl,g.app (Mn.one ω ω)⟩
section
variable {code:List Int} {N:Int} {s:Za}
theorem Zhn (l:Bytes code) {q c u v:Int} {xs:List (List Int)} (hs:Src code (N-50) (Za.mk s.qcode u v)) (hN:N<=100000000) (h:Mn 300 xs):Ex (Zcm s q c xs u v) fun r=>Md 700 r.1.Rows/\Src code N r.2:=by
 unfold Zcm;refine ZS l hs ω fun x s1 _ _ _ h1=>?_;dsimp only;refine ex_e (fun _=>?_) fun _=>ex_e (fun _=>?_) fun _=>ex_e (fun _=>?_) fun _=>ex_e (fun _=>?_) fun _=>?_
 ·refine Zdc l h1 ω (by simp) fun x s2 _ j=>Zg ⟨h.md.mono ω,j.mono ω⟩
 ·refine Zdc l h1 ω (by simp) fun x s2 _ j=>Zg ⟨h.md.mono ω,j.mono ω⟩
 ·refine ex_d (fun hx=>?_) fun _=>?_
  ·unfold ZjX;dsimp only;refine ex_d (fun _=>?_) fun _=>Zg ⟨h.md.mono ω,h1.mono ω⟩;refine ZI ⟨by omega,hx⟩ (Zdc l h1 ω (by simp) fun y s2 _ j=>?_);have h0:=Zj (xs:=xs) (i:=0) ω hx;have hr:=h.md.row _ h0;refine ZI ⟨by omega,by have:=h.ne _ h0;omega⟩ (Zg ⟨⟨by have:=h.md.len;rw [List.length_set];omega,fun b l=>?_⟩,j.mono ω⟩);rcases List.mem_or_eq_of_mem_set l with l|rfl
   ·exact h.md.row b l
   ·rw [List.length_set];exact hr
  ·exact Zg ⟨h.md.mono ω,h1.mono ω⟩
 ·have a9:=h.md.len;refine ZQ (fun k st=>Md 300 st.2.2/\(st.2.2.length=0\/140<=st.2.2.length*2^k)/\k<=8/\Src code (N-2-2*k) (Za.mk s.qcode st.1 st.2.1)) 8 ⟨h.md,by show xs.length=0\/140<=xs.length*256;omega,Nat.le_refl _,h1.mono (by show _<=N-2-2*8;omega)⟩ ?_;rintro k ⟨a,b,ys⟩ ⟨g,hk,k8,hs⟩;dsimp only at g hk k8 hs;have gl:=g.len;unfold ZlP;refine ZcY l hs ω fun o s2 j=>?_;dsimp only;refine ex_c (ex_d (fun h0=>ex_d (fun a6=>?_) fun _=>Zg ⟨g.mono ω,j.mono ω⟩) fun _=>Zg ⟨g.mono ω,j.mono ω⟩) (Zg ⟨g.mono ω,j.mono ω⟩);unfold ZpC;rw [ZrR (g.sz ω)];refine Zag (α:=List Int) ⟨by omega,by omega⟩ ?_;cases k with
  | zero=>simp only [Nat.pow_zero,Nat.mul_one] at hk;omega
  | succ k=>
   refine Zg ⟨k,by omega,⟨by rw [List.length_append];omega,(g.app g).row⟩,?_,by omega,j.mono ω⟩;right;show 140<=(ys++ys).length*2^k;rw [List.length_append];have:(ys.length+ys.length)*2^k=ys.length*2^(k+1):=by rw [Nat.pow_succ,Nat.add_mul,<-Nat.mul_two,Nat.mul_assoc]
   omega
 ·exact Zg ⟨h.md.mono ω,h1.mono ω⟩
theorem ZyA (l:Bytes code) (hs:Src code (N-500) s) (hN:N<=100000000):Ex (ZjG s) fun r=>Md 700 r.1.Rows/\Src code N r.2:=by
 unfold ZjG;refine ZS l (show Src code (N-500) (Za.mk s.qcode s.qat s.qseed) from hs) ω fun lv s1 l0 l1 _ h1=>?_;dsimp only;refine ZS l h1 ω fun cl s2 c0 c1 _ h2=>?_;dsimp only;refine ZS l h2 ω fun w s3 _ _ _ y=>?_;dsimp only;have l1:=l1 ω;have c1:=c1 ω;have w1:ε.wrap (lv+2)=lv+2:=wr64 ω ω;have w2:ε.wrap (cl+1)=cl+1:=wr64 ω ω;refine ex_e (fun _=>?_) fun _=>ex_e (fun _=>?_) fun _=>ex_e (fun _=>?_) fun _=>?_
 ·refine Zdc l y ω (by simp) fun q s4 hq o=>?_;dsimp only;have a6:2<=q/\q<=5:=by simp at hq;omega
  have e:∃ m,ZkZ q 3=some m/\1<=m/\m<=3:=by
   unfold ZkZ;by_cases h:q<3
   ·exact ⟨q,by rw [bif_t h],by omega,by omega⟩
   ·exact ⟨3,by rw [bif_f h],by omega,by omega⟩
  obtain ⟨m,e,m0,m1⟩:=e;rw [e];refine ZS l o ω fun t s5 t0 t1 _ h5=>?_;dsimp only;have t1:=t1 ω;rw [wr64 (x:=q+2) ω ω,wr64 (x:=t+1) ω ω,wr64 (x:=q+2-(t+1)) ω ω];refine ZS l h5 ω fun u s6 u0 u1 _ h6=>?_;dsimp only;have ap:u<=10:=by
   by_cases h:1<=q+2-(t+1)
   ·have:=u1 h;omega
   ·have l:=h5;omega
  rw [wr64 ω ω];exact ZC (Zyv (by simp at hq ⊢;omega) ω ω ω ω) fun r hr=>Zhn l (h6.mono ω) hN hr
 ·refine Zdc l y ω (by simp) fun q s4 hq o=>?_;dsimp only;have ac:q∈([2,3,4,5,7,8,9]:List Int):=by simp at hq ⊢;omega
  have a6:3<=q/\q<=7:=by simp at hq;omega
  refine ZC (Zwz l (N:=N-100) (o.mono ω) ω ac) fun r hr=>ZC (ZHB hr.1 ω ω) fun a ha=>?_;have h1:=ha.2;have h2:=hr.1.len;exact ex_d (fun h=>by omega) fun _=>Zhn l ((o.of hr.2).mono ω) hN (ha.1.mono ω)
 ·rw [w1,w2];refine ZC (Zo1 ω ω ω ω) fun n hn=>ex_d (fun _=>ZC (Zv8 ω ω ω ω) fun r hr=>Zhn l (y.mono ω) hN hr) fun _=>Zhn l (y.mono ω) hN (Mn.nil ω)
 ·refine ZS l y ω fun m s4 m0 m1 _ o=>?_;dsimp only;have m1:=m1 ω;refine ZQ (fun k st=>(0<=st.1/\st.1<=12)/\k=st.1.toNat/\Mn (12-st.1) st.2.2.2/\Src code (N-100-20*st.1) (Za.mk s.qcode st.2.1 st.2.2.1)) m.toNat ⟨⟨m0,by show m<=12;omega⟩,rfl,Mn.nil (by show 0<=12-m;omega),o.mono (by show _<=N-100-20*m;omega)⟩ ?_;rintro k ⟨i,a,b,xs⟩ ⟨⟨i0,i1⟩,hk,g,hs⟩;dsimp only at i0 i1 hk g hs;unfold Znv;dsimp only;rw [w1,w2];refine ex_d (fun hi=>?_) fun _=>?_
  ·refine ZQ (fun k st=>(0<=st.2.1/\st.2.1<=cl+1)/\k=(cl+1-st.2.1).toNat/\(st.1.length:Int)=st.2.1/\Src code (N-100-20*i+2*st.2.1) (Za.mk s.qcode st.2.2.1 st.2.2.2)) (cl+1).toNat ⟨⟨by show (0:Int)<=0;omega,by show (0:Int)<=cl+1;omega⟩,by show _=(cl+1-0).toNat;omega,rfl,hs.mono (by show _<=N-100-20*i+2*0;omega)⟩ ?_;rintro k2 ⟨r,j,c,d⟩ ⟨⟨j0,j1⟩,a9,gr,hs⟩;dsimp only at j0 j1 a9 gr hs;unfold ZoT;dsimp only;rw [w1,w2];have gn:=g.md.len;refine ex_d (fun hj=>?_) fun _=>?_
   ·refine ZS l hs ω fun x s5 _ _ _ h5=>?_;dsimp only;refine Zag ⟨by simp only [List.length_cons,List.length_nil];omega,by simp only [List.length_cons,List.length_nil];omega⟩ (Zg ⟨(cl+1-(j+1)).toNat,by omega,?_⟩);rw [wr64 ω ω];exact ⟨⟨by show 0<=j+1;omega,by show j+1<=cl+1;omega⟩,rfl,by rw [List.length_append];simp;omega,h5.mono (by show _<=N-100-20*i+2*(j+1);omega)⟩
   ·refine Zag ⟨by simp only [List.length_cons,List.length_nil];omega,by simp only [List.length_cons,List.length_nil];omega⟩ (Zg ⟨(i-1).toNat,by omega,?_⟩);rw [wr64 ω ω];exact ⟨⟨by show 0<=i-1;omega,by show i-1<=12;omega⟩,rfl,(g.app (Mn.one ω ω)).mono (by show _<=12-(i-1);omega),hs.mono (by show _<=N-100-20*(i-1);omega)⟩
  ·obtain ⟨r,e,hr⟩:=Zhn l (N:=N) (q:=lv+2) (c:=cl+1) (xs:=xs) (hs.mono ω) hN (g.mono ω);rw [e];exact ⟨_,rfl,hr⟩
end
structure VMat (q:Int) (m:List (List Int)):Prop where
 n1:1<=(m.length:Int)
 n2:(m.length:Int)<=32
 w1:1<=((ix m 0).length:Int)
 w2:((ix m 0).length:Int)<=32
 row:∀ i,0<=i->i<(m.length:Int)->((ix m i).length:Int)=(ix m 0).length/\In q (ix m i)
theorem VMat.mat {q:Int} {m:List (List Int)} (h:VMat q m):Mat q (ix m 0).length m:=⟨fun i a b=>(h.row i a b).1,fun i a b=>(h.row i a b).2,by have:=h.n2;omega,by have:=h.w2;omega⟩
theorem ZsX {f:Zb} {q:Int} (hs:Zbh f=some q) (hq:2<=q) (j:q<=64) {v:List Int} (hv:(v.length:Int)<=1048576):IsQ (Zkj f v) (In q v):=by
 unfold Zkj;rw [hs];obtain ⟨c,l,q2⟩:=ZdB (B:=Zed v q) (P:=fun k=>0<=ix v k/\ix v k<=q-1) (t:=true) (f:=false) (i:=0) (n:=v.length) ω
  (fun k a b c=>by simp (disch:=omega) only [pz,Zed,in_ok]) (fun k a b c=>by simp (disch:=omega) only [pz,Zed,in_ok]) (by simp (disch:=omega) only [pz,Zed])
 refine ⟨c,?_,q2.trans ⟨fun h i a b=>?_,fun h i a b=>?_⟩⟩
 ·show loop (Zed v q) 0=some c;rw [l];cases c<;>rfl
 ·have:=h i a b;omega
 ·have:=h i a b;omega
theorem Zsn {f:Zb} {q:Int} (hm:Made q f) (hq:2<=q) (j:q<=64) {m:List (List Int)} (hs:Sz2 m):IsQ (Zkp f m) (VMat q m):=by
 have hN:=hs.1;unfold Zkp Zl1;rw [hm.oks];by_cases h1:(m.length:Int)=0
 ·simp (disch:=omega) only [pz,];exact IsQ.f fun h=>by have:=h.n1;omega
 ·by_cases x:(m.length:Int)<=32
  ·by_cases h3:((ix m 0).length:Int)=0
   ·simp (disch:=omega) only [pz,];exact IsQ.f fun h=>by have:=h.w1;omega
   ·by_cases y:((ix m 0).length:Int)<=32
    ·simp (disch:=omega) only [pz,];refine (ZaG (P:=fun i=>((ix m i).length:Int)=(ix m 0).length/\In q (ix m i)) (n:=m.length) (Q:=True) ω ?_ ?_ fun _=>?_).congr ⟨fun g=>⟨by omega,x,by omega,y,g.1⟩,fun g=>⟨g.row,trivial⟩⟩
     ·intro i l o k;have u:=(ZsX hm.szs hq j (hs.row l o)).eq k.2;have:=k.1;simp (disch:=omega) only [pz,Zhm,u]
     ·intro i l o k;by_cases hl:((ix m i).length:Int)=(ix m 0).length
      ·have u:=(ZsX hm.szs hq j (hs.row l o)).ne fun h=>k ⟨hl,h⟩;simp (disch:=omega) only [pz,Zhm,u]
      ·simp (disch:=omega) only [pz,Zhm]
     ·rw [Ze (r:=true) (by simp (disch:=omega) only [pz,Zhm])];exact IsQ.t trivial
    ·simp (disch:=omega) only [pz,];exact IsQ.f fun h=>y h.w2
  ·simp (disch:=omega) only [pz,];exact IsQ.f fun h=>x h.n2
theorem Zmp {f:Zb} {q:Int} (hm:Made q f) (hq:2<=q) (a2:q<=64) {m:List (List Int)} (hs:Sz2 m):IsQ (Zfn f m) (VMat q m):=by
 have hN:=hs.1;have e:Zb.mk f.Prime f.Degree f.Poly=f:=rfl;unfold Zfn Zmn;rw [e,hm.oki];by_cases h1:(m.length:Int)=0
 ·simp (disch:=omega) only [pz,Z3,Z1];exact IsQ.f fun h=>by have:=h.n1;omega
 ·by_cases o:(m.length:Int)<=32
  ·by_cases h3:((ix m 0).length:Int)=0
   ·simp (disch:=omega) only [pz,Z3,ZZ,Z1];exact IsQ.f fun h=>by have:=h.w1;omega
   ·by_cases u:((ix m 0).length:Int)<=32
    ·simp (disch:=omega) only [pz,Z3,ZZ,Z1,hm.szi];have hc:=containsLL (s:=m) (fn:=fun y0=>ZfD y0 m q) (q:=fun r=>¬ ((r.length:Int)=(ix m 0).length/\In q r)) hN fun r hr=>by
      show IsQ (ZfD r m q) _;unfold ZfD Zlu;by_cases hl:(r.length:Int)=(ix m 0).length
      ·have hi:=(containsL (s:=r) (fn:=fun y0=>Zd0 y0 q) (q:=fun x=>¬ (0<=x/\x<=q-1)) (hs.2 r hr) fun x j=>by
        show IsQ (Zd0 x q) _;unfold Zd0;by_cases j:0<=x/\x<=q-1
        ·simp (disch:=omega) only [pz,Z1];exact IsQ.f fun h=>h j
        ·simp (disch:=omega) only [pz,Z1];exact IsQ.t j).not.not
       have y:IsQ (((ZaY r fun y0=>Zd0 y0 q).bind fun r=>some (!r)).bind fun r=>some (!r)) (¬ ((r.length:Int)=(ix m 0).length/\In q r)):=by
        refine hi.congr ⟨fun h g=>h fun ⟨x,j,l⟩=>?_,fun h g=>h ⟨hl,fun k a b=>?_⟩⟩
        ·obtain ⟨k,a,b,rfl⟩:=ZL j;have:=g.2 k a b;exact l ⟨this.1,by omega⟩
        ·have:=Classical.byContradiction fun hh:¬ (0<=ix r k/\ix r k<=q-1)=>g ⟨ix r k,Zj a b,hh⟩;omega
       simp (disch:=omega) only [pz,];exact y
      ·simp (disch:=omega) only [pz,];exact IsQ.t fun h=>hl h.1
     refine hc.not.congr ⟨fun g=>⟨by omega,o,by omega,u,fun i a b=>?_⟩,fun g=>?_⟩
     ·exact Classical.byContradiction fun hh=>g ⟨ix m i,Zj a b,hh⟩
     ·rintro ⟨x,j,l⟩;obtain ⟨i,a,b,rfl⟩:=ZL j;exact l (g.row i a b)
    ·simp (disch:=omega) only [pz,Z3,ZZ,Z1];exact IsQ.f fun h=>u h.w2
  ·simp (disch:=omega) only [pz,Z3,Z1];exact IsQ.f fun h=>o h.n2
theorem Zk9 {q:Int} (hq:2<=q) (i:q<=64):∀ (e:Nat) (n:Int),e<=64->1<=n->n<=4096->∃ cs ci:Int,loop (Zgk q) ((e:Int),n)=some cs/\loop (ZbD q 4096) ((e:Int),n)=some ci/\(cs=0↔4096<ci)
 | 0,n,_,h1,j=>by
  refine ⟨n,n,Ze ?_,Ze ?_,by omega⟩
  ·simp (disch:=omega) only [pz,Zgk]
  ·simp (disch:=omega) only [pz,ZbD]
 | e+1,n,he,h1,j=>by
  have u:1*2<=n*q:=Int.mul_le_mul h1 hq ω ω;have x:n*q<=4096*64:=Int.mul_le_mul j i ω ω;have ee:((e+1:Nat):Int)-1=(e:Int):=ω;have a2:loop (ZbD q 4096) (((e+1:Nat):Int),n)=loop (ZbD q 4096) ((e:Int),n*q):=by
   refine ZO ?_;simp (disch:=omega) only [pz,ZbD,Zgg,ee]
  by_cases h:n*q<=4096
  ·obtain ⟨cs,ci,k,l,o⟩:=Zk9 hq i e (n*q) ω ω h;refine ⟨cs,ci,?_,by rw [a2,l],o⟩;rw [<-k];refine ZO ?_;simp (disch:=omega) only [pz,Zgk,ee]
  ·refine ⟨0,n*q,Ze ?_,?_,by omega⟩
   ·simp (disch:=omega) only [pz,Zgk]
   ·rw [a2];refine Ze ?_;cases e with
    | zero=>simp (disch:=omega) only [pz,ZbD]
    | succ e=>simp (disch:=omega) only [pz,ZbD]
theorem ZxU {a b:List (List Int)} (o:(a.length:Int)<=1048576) (hr:∀ x∈a,(x.length:Int)<=1048576):IsQ (Zkx a b) (a=b):=by
 unfold Zkx;refine IsQ.bind_id ?_;unfold Znu;refine ZhI (by unfold M63;omega) (fun k x y i l=>?_) (by simp (disch:=omega) only [pz,ZkW]);have h1:=Zao i;have j:=Zao l;have hs:=Zo5 (a:=x) (b:=y) (hr x (List.mem_of_getElem? i));by_cases h:x=y
 ·exact ZcG (c:=true) (by simp [h]) (by simp (disch:=omega) only [pz,ZkW,ZX i,ZX l,hs.eq h])
 ·exact ZcG (c:=false) (by simp [h]) (by simp (disch:=omega) only [pz,ZkW,ZX i,ZX l,hs.ne h])
theorem ZmT {o:Zf} (hs:Sz2 o.Rows):∃ cs ci b,Zgt o=some cs/\Zdw o=some ci/\ZeM cs=some b/\ZcL ci=some b:=by
 have hN:=hs.1;unfold Zgt Zdw;rw [Zan hs];rcases Znh o.Size with ⟨f,hm⟩|⟨h1,e,k⟩
 ·obtain ⟨inv,hF⟩:=Zph hm.gf;have hp:=hF.fd.p2;have hq:=hF.q2;have i:=hF.q64;rw [hm.split,hm.mki,hm.mks];have e:Zb.mk f.Prime f.Degree f.Poly=f:=rfl
  suffices hh:∃ b,ZeM ⟨f,o.Rows⟩=some b/\ZcL ⟨f,o.Rows⟩=some b by
   obtain ⟨b,h1,k⟩:=hh;refine ⟨⟨f,o.Rows⟩,⟨f,o.Rows⟩,b,?_,?_,h1,k⟩
   ·simp (disch:=omega) only [pz,e]
   ·simp (disch:=omega) only [pz,e]
  unfold ZeM ZcL ZnQ Zl9;by_cases hV:VMat o.Size o.Rows
  ·have j:=(Zsn hm hq i hs).eq hV;have q2:=(Zmp hm hq i hs).eq hV;have n1:=hV.n1;have w2:=hV.w2;by_cases h8:(o.Rows.length:Int)<=8
   ·obtain ⟨cs,ci,g1,g2,x⟩:=Zk9 hq i o.Rows.length 1 ω ω ω;have c1:Zd5 o.Size (o.Rows.length:Int)=some cs:=g1;have c2:ZbT o.Size (o.Rows.length:Int) 4096=some ci:=g2;by_cases hz:cs=0
    ·have a3:=x.1 hz;refine ⟨false,?_,?_⟩
     ·simp (disch:=omega) only [pz,e,j,hm.szs,c1]
     ·simp (disch:=omega) only [pz,e,q2,hm.szi,Z3,c2]
    ·have a3:¬ 4096<ci:=fun h=>hz (x.2 h);obtain ⟨R,piv,d,r1,r2,r3,y⟩:=ZqU hF hs hV.mat ω n1;have l:=ZlL (a:=R) (b:=o.Rows) ω y;have u:=ZxU (a:=R) (b:=o.Rows) ω y;have ht:=ZyM hF hm.szi;obtain ⟨b,l,s3⟩:=l;obtain ⟨b',u,s4⟩:=u;have:b=b':=by rw [Bool.eq_iff_iff,s3,s4]
     subst this;refine ⟨b,?_,?_⟩
     ·simp (disch:=omega) only [pz,e,j,hm.szs,c1,r1,l]
     ·simp (disch:=omega) only [pz,e,q2,hm.szi,Z3,c2,ht,r2,u]
   ·refine ⟨false,?_,?_⟩
    ·simp (disch:=omega) only [pz,e,j]
    ·simp (disch:=omega) only [pz,e,q2]
  ·have j:=(Zsn hm hq i hs).ne hV;have q2:=(Zmp hm hq i hs).ne hV;refine ⟨false,?_,?_⟩
   ·simp (disch:=omega) only [pz,e,j]
   ·simp (disch:=omega) only [pz,e,q2]
 ·rw [h1,k];refine ⟨⟨⟨0,0,[]⟩,[]⟩,⟨⟨0,0,[]⟩,o.Rows⟩,false,?_,?_,?_,?_⟩
  ·simp (disch:=omega) only [pz,]
  ·simp (disch:=omega) only [pz,]
  ·rfl
  ·rfl
section
variable {code:List Int} {N:Int} {s:Za}
theorem ZzL (hb:Bytes code) {f:Zb} {q:Int} {inv:List Int} (hM:Made q f) (hF:Ff f q inv) {n:Int} (n0:0<=n) (n1:n<=50) (hs:Src code (N-4*n) s) (hN:N<=100000000):Ex (Zi2 s f n) fun r=>(r.1.length:Int)=n/\In q r.1/\Src code N r.2:=by
 have q2:=hF.q2;unfold Zi2;refine ZQ (fun k st=>(0<=st.1/\st.1<=n)/\k=st.1.toNat/\(st.2.1.length:Int)=n-st.1/\In q st.2.1/\Src code (N-4*st.1) (Za.mk s.qcode st.2.2.1 st.2.2.2)) n.toNat ⟨⟨n0,Int.le_refl _⟩,rfl,by show (0:Int)=n-n;omega,fun i u j=>by simp at j;omega,hs⟩ ?_;rintro k ⟨m,l,a,b⟩ ⟨⟨m0,m1⟩,hk,hl,hi,hs⟩;dsimp only at m0 m1 hk hl hi hs;unfold ZoQ;refine ex_d (fun hm=>?_) fun _=>Zg ⟨by show (l.length:Int)=n;omega,hi,hs.mono ω⟩;rw [show Zb.mk f.Prime f.Degree f.Poly=f from rfl,hM.szs];refine ZS hb hs ω fun x s1 x0 x1 _ h1=>?_;dsimp only;have x1:=x1 ω;refine ZcY hb h1 ω fun o s2 h2=>?_;dsimp only;have fin:∀ y,0<=y->y<q->Ex (Zgu m l y s2.qat s2.qseed) (Tn (fun k (st:Int×List Int×Int×Int)=>(0<=st.1/\st.1<=n)/\k=st.1.toNat/\(st.2.1.length:Int)=n-st.1/\In q st.2.1/\Src code (N-4*st.1) (Za.mk s.qcode st.2.2.1 st.2.2.2)) (fun r:List Int×Za=>(r.1.length:Int)=n/\In q r.1/\Src code N r.2) k):=fun y y0 y1=>by
  unfold Zgu;refine Zag ⟨by simp only [List.length_cons,List.length_nil];omega,by simp only [List.length_cons,List.length_nil];omega⟩ (Zg ⟨(m-1).toNat,by omega,?_⟩);rw [wr64 ω ω];refine ⟨⟨by show 0<=m-1;omega,by show m-1<=n;omega⟩,rfl,by show ((l++[y]).length:Int)=n-(m-1);rw [List.length_append];simp;omega,fun i u j=>?_,h2.mono (by show _<=N-4*(m-1);omega)⟩;have j:i<((l++[y]).length:Int):=j;rw [List.length_append] at j;simp at j;show 0<=ix (l++[y]) i/\ix (l++[y]) i<q;by_cases h:i<(l.length:Int)
  ·rw [ZeR u h];exact hi i u h
  ·rw [Zd8 ω,show i-(l.length:Int)=0 by omega];exact ⟨y0,y1⟩
 exact ex_c (fin 0 ω ω) (fin x x0 x1)
theorem Mat.app {q w:Int} {xs:List (List Int)} {r:List Int} (h:Mat q w xs) (hr:In q r) (hl:(r.length:Int)=w) (l:(xs.length:Int)<=63):Mat q w (xs++[r]):=by
 refine ⟨fun i j k=>?_,fun i j k=>?_,by rw [List.length_append];simp;omega,h.w1⟩
 all_goals
  rw [List.length_append] at k;simp at k;by_cases hi:i<(xs.length:Int)
  ·rw [ZeR j hi];first|exact h.len i j hi|exact h.rng i j hi
  ·rw [Zd8 ω,show i-(xs.length:Int)=0 by omega];first|exact hl|exact hr
theorem ZFU (j:Bytes code) {f:Zb} {q:Int} {inv:List Int} (hM:Made q f) (hF:Ff f q inv) {m n:Int} (m0:1<=m) (m1:m<=20) (n0:1<=n) (n1:n<=50) (hs:Src code (N-250*m) s) (hN:N<=100000000):Ex (ZhH s f m n) fun r=>(r.1.length:Int)=m/\Mat q n r.1/\Src code N r.2:=by
 have q2:=hF.q2;have q64:=hF.q64;unfold ZhH;refine ZQ (fun k st=>((st.1.length:Int)<=m)/\k=(m-(st.1.length:Int)).toNat/\Mat q n st.1/\Src code (N-250*(m-(st.1.length:Int))) (Za.mk s.qcode st.2.1 st.2.2)) m.toNat ⟨by show (0:Int)<=m;omega,by show _=(m-0).toNat;omega,⟨fun i i0 l=>by simp at l;omega,fun i i0 l=>by simp at l;omega,by simp,by omega⟩,hs.mono (by show _<=N-250*(m-0);omega)⟩ ?_;rintro k ⟨xs,a,b⟩ ⟨hl,hk,hm,hs⟩;dsimp only at hl hk hm hs;unfold Zn9;rw [show Zb.mk f.Prime f.Degree f.Poly=f from rfl];refine ex_d (fun hx=>?_) fun _=>Zg ⟨by show (xs.length:Int)=m;omega,hm,hs.mono ω⟩;generalize hL:(xs.length:Int)=L at *;refine ZC (ZzL j hM hF (n:=n) ω n1 (N:=N-250*(m-L)+4*n) (hs.mono ω) ω) fun v hv=>?_;obtain ⟨v1,v2,h2⟩:=hv;have h3:Src code (N-250*(m-L)+4*n) (Za.mk s.qcode v.2.qat v.2.qseed):=hs.of h2;have fin:∀ (r:List Int) (c d:Int),(r.length:Int)=n->In q r->Src code (N-250*(m-L)+240) (Za.mk s.qcode c d)->Ex (Zht xs r c d) (Tn (fun k (st:List (List Int)×Int×Int)=>((st.1.length:Int)<=m)/\k=(m-(st.1.length:Int)).toNat/\Mat q n st.1/\Src code (N-250*(m-(st.1.length:Int))) (Za.mk s.qcode st.2.1 st.2.2)) (fun r:List (List Int)×Za=>(r.1.length:Int)=m/\Mat q n r.1/\Src code N r.2) k):=fun r c d hr hi h=>by
  unfold Zht;have e:((xs++[r]).length:Int)=L+1:=by rw [List.length_append];simp;omega
  refine Zag (α:=List Int) ⟨by simp only [List.length_cons,List.length_nil];omega,by simp only [List.length_cons,List.length_nil];omega⟩ (Zg ⟨_,?_,?_,rfl,hm.app hi hr ω,?_⟩)
  ·rw [e];omega
  ·rw [e];omega
  ·show Src code (N-250*(m-((xs++[r]).length:Int))) _;rw [e];exact h.mono ω
 have a2:∀ (o:Bool) (c d:Int),(o=true->2<=L)->Src code (N-250*(m-L)+4*n+2) (Za.mk s.qcode c d)->Ex (Zhh s f xs v o c d) (Tn (fun k (st:List (List Int)×Int×Int)=>((st.1.length:Int)<=m)/\k=(m-(st.1.length:Int)).toNat/\Mat q n st.1/\Src code (N-250*(m-(st.1.length:Int))) (Za.mk s.qcode st.2.1 st.2.2)) (fun r:List (List Int)×Za=>(r.1.length:Int)=m/\Mat q n r.1/\Src code N r.2) k):=fun o c d ho h=>by
  unfold Zhh;rw [show Zb.mk f.Prime f.Degree f.Poly=f from rfl];cases o with
  | false=>exact fin v.1 c d v1 v2 (h.mono ω)
  | true=>
   have h2:=ho rfl;refine ZI ⟨by omega,by omega⟩ (ZI ⟨by omega,by omega⟩ ?_);rw [hM.szs];refine ZS j h ω fun x s4 x0 u _ y=>?_;dsimp only;have u:=u ω;have l0:=hm.len 0 ω ω;have l1:=hm.len 1 ω ω;rw [Ztk hF (hm.rng 0 ω ω) (hm.rng 1 ω ω) ω ω x0 u];exact fin _ _ _ (by rw [Zou];exact l0) (ZqC hF) (y.mono ω)
 refine ex_d (fun h1=>ZcY j h3 ω fun o s3 y=>a2 o _ _ (fun _=>by omega) (y.mono ω)) fun _=>a2 false _ _ (fun h=>by cases h) (h3.mono ω)
theorem Zzc {q:Int} (hq:2<=q) (i:q<=64) {e:Int} (j:0<=e) (k:e<=64):Ex (Zd5 q e) fun _=>True:=by
 obtain ⟨cs,ci,h,_,_⟩:=Zk9 hq i e.toNat 1 ω ω ω;rw [show ((e.toNat:Nat):Int)=e by omega] at h;unfold Zd5;exact ⟨cs,h,trivial⟩
def Cd (c:ZU):Prop:=∃ q inv,Made q c.Field/\Ff c.Field q inv/\Sz2 c.Rows
theorem ZqH (j:Bytes code) {f:Zb} {q:Int} {inv:List Int} (hM:Made q f) (hF:Ff f q inv) {r:Zb×Za} (hr:r.1=f) {m n u v:Int} (m0:1<=m) (m1:m<=6) (n0:1<=n) (n1:n<=40) (hs:Src code (N-2000) (Za.mk s.qcode u v)) (hN:N<=100000000):Ex (Zgc s r m n u v) fun r=>Cd r.1/\Src code N r.2:=by
 have q2:=hF.q2;have q64:=hF.q64;unfold Zgc;rw [hr,show Zb.mk f.Prime f.Degree f.Poly=f from rfl];refine ZC (ZFU j hM hF m0 ω n0 ω (N:=N-100) (hs.mono ω) ω) fun x hx=>?_;obtain ⟨xl,o,h1⟩:=hx;have h2:Src code (N-100) (Za.mk s.qcode x.2.qat x.2.qseed):=hs.of h1;refine ZI ⟨by omega,by omega⟩ (ZS j h2 ω fun c s3 y c1 _ h3=>?_);dsimp only;have c1:=c1 ω;have l0:=o.len 0 ω ω;have r0:=o.rng 0 ω ω;have a2:Mat q n (x.1.set (0:Int).toNat ((ix x.1 0).set c.toNat 1)):=o.set ω (fun i k l=>by
  rw [List.length_set] at l;by_cases e:c=i
  ·subst e;rw [ZaR y ω];omega
  ·rw [Zbu y k e];exact r0 i k l) (by rw [List.length_set];exact l0)
 have a5:Sz2 (x.1.set (0:Int).toNat ((ix x.1 0).set c.toNat 1)):=⟨by have:=a2.n;omega,fun b j=>by
  obtain ⟨i,k,l,rfl⟩:=ZL j;have:=a2.len i k l;omega⟩
 obtain ⟨R,_,_,g1,_,g3,g4⟩:=ZqU hF a5 a2 ω (by rw [List.length_set];omega);refine ZI ⟨y,by omega⟩ ?_;rw [g1];simp only [Option.bind_some];have hR:Sz2 R:=⟨by have:=a2.n;omega,g4⟩
 refine ZC (R:=fun z=>z.2=0->z.1=⟨f,R⟩) ?_ fun z hz=>ex_n (fun _=>Zg ⟨⟨q,inv,hM,hF,by simp,by simp⟩,h3.mono ω⟩) fun h0=>Zg ⟨?_,h3.mono ω⟩
 ·unfold Znj;refine ex_e (fun _=>Zg fun h=>by cases h) fun af=>ex_d (fun _=>Zg fun h=>by cases h) fun h8=>?_;rw [hM.szs];simp only [Option.bind_some];refine ZC (Zzc q2 q64 ω ω) fun cn _=>ex_e (fun _=>Zg fun h=>by cases h) fun _=>?_;unfold Zno ZnM;have ag:=hF.fd.pl;have aa:=hF.fd.k6;rw [Zfu ω];exact Zg fun _=>rfl
 ·have e:=hz h0;show Cd ⟨⟨z.1.Field.Prime,z.1.Field.Degree,z.1.Field.Poly⟩,z.1.Rows⟩;rw [e];exact ⟨q,inv,hM,hF,hR⟩
theorem ZGC (i:Bytes code) (hs:Src code (N-2100) s) (hN:N<=100000000):Ex (ZiN s) fun r=>Cd r.1/\Src code N r.2:=by
 unfold ZiN;refine ZC (R:=fun r=>(∃ q inv,Made q r.1/\Ff r.1 q inv)/\Src code (N-2098) r.2) ?_ fun r hr=>?_
 ·unfold Zom;refine Zdc i (show Src code (N-2100) (Za.mk s.qcode s.qat s.qseed) from hs) ω (by simp) fun q s1 hq h1=>?_;dsimp only;obtain ⟨f,inv,hM,hF⟩:=Zpe (q:=q) (by simp at hq ⊢;omega);rw [hM.mks];exact Zg ⟨⟨q,inv,hM,hF⟩,h1.mono ω⟩
 obtain ⟨⟨q,inv,hM,hF⟩,h1⟩:=hr;refine ZS i (hs.of h1) ω fun a s2 a0 a1 _ h2=>?_;dsimp only;refine ZS i h2 ω fun b s3 b0 l _ j=>?_;dsimp only;have a1:=a1 ω;have l:=l ω;have w1:ε.wrap (1+a)=1+a:=wr64 ω ω;have fin:∀ (o:Bool) (c d:Int),Src code (N-2050) (Za.mk s.qcode c d)->Ex (ZeB s r (a,s2) (b,s3) o c d) fun r=>Cd r.1/\Src code N r.2:=fun o c d h=>by
  unfold ZeB;dsimp only;rw [w1];cases o with
  | false=>
   rw [wr64 (x:=1+a+b) ω ω];exact ZqH i hM hF rfl ω ω ω ω (h.mono ω) hN
  | true=>
   refine ZS i h ω fun x s4 x0 u _ k=>?_;dsimp only;refine ZS i k ω fun y s5 y0 y1 _ h5=>?_;dsimp only;have u:=u ω;have y1:=y1 ω;rw [wr64 (x:=1+a+x) ω ω,wr64 (x:=1+a+x+1) ω ω,wr64 (x:=1+a+x+1+y) ω ω];exact ZqH i hM hF rfl ω ω ω ω (h5.mono ω) hN
 refine ex_e (fun _=>ex_e (fun _=>ZcY i j ω fun o s4 k=>fin o _ _ (k.mono ω)) fun _=>fin _ _ _ (j.mono ω)) fun _=>fin _ _ _ (j.mono ω)
end
theorem two_q {a b:Option Bool} {p:Prop} (o:IsQ a p) (i:IsQ b p):∃ c,a=some c/\b=some c:=by
 obtain ⟨c,h1,j⟩:=o;obtain ⟨d,k,l⟩:=i;have:c=d:=by rw [Bool.eq_iff_iff,j,l]
 subst this;exact ⟨c,h1,k⟩
theorem Zvv {o:Zf} (hs:Sz2 o.Rows):∃ c,Zc9 o=some c/\Zae o=some c:=by
 have hN:=hs.1;have e:Zf.mk o.Kind o.Size o.Rows=o:=rfl;unfold Zc9 Zae;by_cases h1:o.Kind=1
 ·obtain ⟨c,i,q2⟩:=two_q (ZId hs) (ZiT hs);by_cases hl:(o.Rows.length:Int)=o.Size
  ·refine ⟨c,?_,?_⟩
   ·cases c<;>simp (disch:=omega) only [pz,i]
   ·simp (disch:=omega) only [pz,q2,Z3]
  ·refine ⟨false,?_,?_⟩
   ·cases c<;>simp (disch:=omega) only [pz,i]
   ·simp (disch:=omega) only [pz,q2,Z3]
 by_cases y:o.Kind=2
 ·obtain ⟨c,i,q2⟩:=two_q (Zqa (d:=⟨o.Size,o.Rows⟩) hs) (ZdL (d:=⟨o.Size,o.Rows⟩) hs);refine ⟨c,?_,?_⟩
  ·simp (disch:=omega) only [pz,i]
  ·simp (disch:=omega) only [pz,e,ZaW,Zan hs,q2]
 by_cases h3:o.Kind=3
 ·obtain ⟨c,i,q2⟩:=two_q (ZzK hs) (Zjg hs);by_cases hl:(o.Rows.length:Int)=o.Size
  ·refine ⟨c,?_,?_⟩
   ·cases c<;>simp (disch:=omega) only [pz,i]
   ·simp (disch:=omega) only [pz,q2,Z3]
  ·refine ⟨false,?_,?_⟩
   ·cases c<;>simp (disch:=omega) only [pz,i]
   ·simp (disch:=omega) only [pz,q2,Z3]
 by_cases h4:o.Kind=4
 ·by_cases hl:0<(o.Rows.length:Int)
  ·obtain ⟨c,i,q2⟩:=two_q (ZsI (a:=⟨o.Size,(ix o.Rows 0).length,o.Rows⟩) hs) (Zpy (a:=⟨o.Size,(ix o.Rows 0).length,o.Rows⟩) hs);refine ⟨c,?_,?_⟩
   ·simp (disch:=omega) only [pz,ZkL,i]
   ·simp (disch:=omega) only [pz,e,Zf1,ZZ,Zan hs,q2]
  ·refine ⟨false,?_,?_⟩
   ·simp (disch:=omega) only [pz,ZkL]
   ·simp (disch:=omega) only [pz,]
 by_cases h5:o.Kind=5
 ·obtain ⟨cs,ci,b,j,k,l,u⟩:=ZmT hs;have x:ZU.mk (Zb.mk cs.Field.Prime cs.Field.Degree cs.Field.Poly) cs.Rows=cs:=rfl;refine ⟨b,?_,?_⟩
  ·simp (disch:=omega) only [pz,j,x,l]
  ·simp (disch:=omega) only [pz,e,k,u]
 by_cases h6:o.Kind=6
 ·obtain ⟨r,j,k,_⟩:=ZpL hs;refine ⟨r.2,?_,?_⟩
  ·simp (disch:=omega) only [pz,j]
  ·simp (disch:=omega) only [pz,e,k]
 by_cases h7:o.Kind=7
 ·obtain ⟨c,i,q2⟩:=two_q (ZvJ (g:=⟨o.Size,o.Rows⟩) hs) (Zpc (g:=⟨o.Size,o.Rows⟩) hs);refine ⟨c,?_,?_⟩
  ·simp (disch:=omega) only [pz,i]
  ·simp (disch:=omega) only [pz,e,Zga,Zan hs,q2]
 ·refine ⟨false,?_,?_⟩
  ·simp (disch:=omega) only [pz,]
  ·simp (disch:=omega) only [pz,]
def Ob1 (r:Zf×Int):Prop:=r.2=0->Sz2 r.1.Rows/\Zc9 r.1=some true
theorem make30 {k n:Int} {m:List (List Int)} (hs:Sz2 m):Ex (Zbz k n m) Ob1:=by
 unfold Zbz;rw [Zu7 hs];simp only [Option.bind_some];obtain ⟨c,h1,_⟩:=Zvv (o:=⟨k,n,m⟩) hs;rw [h1];cases c with
 | false=>exact Zg fun h=>by cases h
 | true=>exact Zg fun _=>⟨hs,h1⟩
theorem wrap30 {o:Option (Zf×Int)} (h:Ex o Ob1):Ex (o.bind fun r=>some (Zf.mk r.1.Kind r.1.Size r.1.Rows,r.2)) Ob1:=ZC h fun _ hr=>Zg hr
theorem square30 {m:List (List Int)} (hs:Sz2 m):Ex (Zn5 m) Ob1:=wrap30 (make30 hs)
theorem design30 {d:Zw} (hs:Sz2 d.Blocks):Ex (ZlS d) Ob1:=wrap30 (make30 hs)
theorem hada30 {m:List (List Int)} (hs:Sz2 m):Ex (Zne m) Ob1:=wrap30 (make30 hs)
theorem group30 {g:Zai} (hs:Sz2 g.Elements):Ex (ZmK g) Ob1:=wrap30 (make30 hs)
theorem array30 {a:ZD} (hs:Sz2 a.Rows):Ex (Zjc a) Ob1:=by
 unfold Zjc;refine ZC (R:=fun _=>True) ?_ fun c _=>?_
 ·obtain ⟨c,h,_⟩:=ZsI (a:=a) hs;exact ⟨c,h,trivial⟩
 cases c with
 | false=>exact Zg fun h=>by cases h
 | true=>exact ex_e (fun _=>Zg fun h=>by cases h) fun _=>wrap30 (make30 hs)
theorem code30 {c:ZU} (j:Cd c):Ex (Zin c) Ob1:=by
 obtain ⟨q,inv,u,hF,hs⟩:=j;obtain ⟨f,rows⟩:=c;have e:Zb.mk f.Prime f.Degree f.Poly=f:=rfl;unfold Zin;refine ZC (R:=fun _=>True) ?_ fun b _=>?_
 ·obtain ⟨cs,ci,b,h1,_,i,_⟩:=ZmT (o:=⟨5,q,rows⟩) hs;unfold Zgt at h1;have hp:=hF.fd.p2;dsimp only at h1 hp;rw [u.split,u.mks] at h1;have k:cs=⟨f,rows⟩:=by
   have:(f.Prime==(0:Int))=false:=by simp;omega
   simp only [Option.bind_some,this,cond_false,Option.some.injEq] at h1;exact h1.symm
  rw [k] at i;exact ⟨b,i,trivial⟩
 cases b with
 | false=>exact Zg fun h=>by cases h
 | true=>
  refine ZC (R:=fun x=>x=q) ⟨q,u.szs,rfl⟩ fun x l=>?_;rw [l];refine ZC (R:=fun g=>g=f) ⟨f,u.mks,rfl⟩ fun g hg=>?_;rw [hg];refine ZC (R:=fun _=>True) ?_ fun b _=>?_
  ·unfold Zlh;refine ex_e (fun _=>ex_e (fun _=>?_) fun _=>Zg trivial) fun _=>Zg trivial;obtain ⟨b,h,_⟩:=ZsM (a:=f.Poly) (b:=f.Poly) (by have:=hF.fd.pl;have:=hF.fd.k6;dsimp only at *;omega);exact ⟨b,by rw [h];rfl,trivial⟩
  cases b with
  | false=>exact Zg fun h=>by cases h
  | true=>exact wrap30 (make30 hs)
noncomputable def sylT (k:Int):Bool:=match ZpU 300 k with
 | some m=>Nat.ble m.length 100&&m.all fun b=>Nat.ble b.length 100
 | none=>false
theorem syl_t:(sylT 0&&sylT 1&&sylT 2&&sylT 3)=true:=κ
theorem ZGu {k:Int} (j:0<=k) (h1:k<=3):Ex (Zhk k) Sz2:=by
 have h:sylT k=true:=by
  have:=syl_t;simp only [Bool.and_eq_true] at this;obtain ⟨⟨⟨a,b⟩,c⟩,d⟩:=this;have:k=0\/k=1\/k=2\/k=3:=ω;rcases this with rfl|rfl|rfl|rfl<;>assumption
 unfold sylT at h;split at h
 ·rename_i d e;rw [Bool.and_eq_true,Nat.ble_eq,List.all_eq_true] at h;refine ⟨d,ZAC _ _ e,by omega,fun b i=>?_⟩;have:=h.2 b i;rw [Nat.ble_eq] at this;omega
 ·cases h
def TbR (m n:Int) (t:List (List Bool)):Prop:=(t.length:Int)=m/\∀ r∈t,(r.length:Int)=n
theorem TbR.row {m n:Int} {t:List (List Bool)} (h:TbR m n t) {k:Int} (i:0<=k) (k1:k<m):((ix t k).length:Int)=n:=h.2 _ (Zj i (by have:=h.1;omega))
theorem TbR.set {m n:Int} {t:List (List Bool)} {i j:Int} {c:Bool} (h:TbR m n t) (k:0<=i) (l:i<m):TbR m n (t.set i.toNat ((ix t i).set j.toNat c)):=by
 refine ⟨by rw [List.length_set];exact h.1,fun r hr=>?_⟩;rcases List.mem_or_eq_of_mem_set hr with hr|rfl
 ·exact h.2 r hr
 ·rw [List.length_set];exact h.row k l
theorem ZIg {l:List Int} (hl:(l.length:Int)<=6):Ex (ZjL ⟨l,[]⟩) (TbR (l.length:Int) (l.length:Int)):=by
 unfold ZjL;refine ZQ (fun k st=>(0<=st.2/\st.2<=(l.length:Int))/\k=((l.length:Int)-st.2).toNat/\TbR st.2 (l.length:Int) st.1) l.length ⟨⟨by show (0:Int)<=0;omega,by show (0:Int)<=_;omega⟩,by show _=((l.length:Int)-0).toNat;omega,rfl,by simp⟩ ?_;rintro k ⟨t,i⟩ ⟨⟨j,o⟩,u,h⟩;dsimp only at j o u h;have x:=h.1;unfold ZuM;dsimp only;refine ex_d (fun hi=>?_) fun hi=>?_
 ·refine Zt6 ⟨by omega,by omega,by omega⟩ (Zag ⟨by simp only [List.length_cons,List.length_nil];omega,by simp only [List.length_cons,List.length_nil];omega⟩ ?_);rw [wr64 ω ω];refine Zg ⟨k-1,by omega,⟨by show 0<=i+1;omega,by show i+1<=_;omega⟩,by show k-1=((l.length:Int)-(i+1)).toNat;omega,?_,fun r hr=>?_⟩
  ·show (((t++_:List (List Bool))).length:Int)=i+1;rw [List.length_append];simp only [List.length_cons,List.length_nil];omega
  ·rcases List.mem_append.1 hr with hr|hr
   ·exact h.2 r hr
   ·rw [List.mem_singleton.1 hr,List.length_replicate];omega
 ·refine ZQ (fun _ st=>st=(0,t)) 0 rfl ?_;rintro _ _ rfl;unfold Zrz;dsimp only;refine ex_d (fun h=>by simp at h) fun _=>Zg ?_;have:i=(l.length:Int):=ω;rw [<-this];rw [this];rw [this] at h;exact h
theorem of_ok {l:List Int} {t:List (List Bool)} (hl:(l.length:Int)<=6) (ht:TbR (l.length:Int) (l.length:Int) t):Ex (Zja l t) fun g=>g.Colors=l/\(g.Edges.length:Int)<=36:=by
 unfold Zja;rw [Zfu ω];refine ZQ (fun k st=>(0<=st.1/\st.1<=(l.length:Int))/\k=((l.length:Int)-st.1).toNat/\(st.2.length:Int)<=6*st.1) l.length ⟨⟨by show (0:Int)<=0;omega,by show (0:Int)<=_;omega⟩,by show _=((l.length:Int)-0).toNat;omega,by show (0:Int)<=6*0;omega⟩ ?_;rintro k ⟨a,es⟩ ⟨⟨a0,a1⟩,hk,he⟩;dsimp only at a0 a1 hk he;unfold ZuV;refine ex_d (fun ha=>?_) fun _=>Zg ⟨rfl,by show (es.length:Int)<=36;omega⟩;rw [wr64 ω ω];refine ZQ (fun k st=>(0<=st.1/\st.1<=(l.length:Int))/\k=((l.length:Int)-st.1).toNat/\(st.2.length:Int)<=6*a+st.1) ((l.length:Int)-(a+1)).toNat ⟨⟨by show (0:Int)<=a+1;omega,by show a+1<=_;omega⟩,rfl,by show (es.length:Int)<=6*a+(a+1);omega⟩ ?_;rintro i ⟨b,xs⟩ ⟨⟨o,u⟩,j,x⟩;dsimp only at o u j x;unfold Zsx;have y:=ht.1;have hr:=ht.row a0 ha;refine ex_d (fun hb=>?_) fun _=>?_
 ·refine ZI ⟨by omega,by omega⟩ (ZI ⟨by omega,by omega⟩ ?_);rw [wr64 ω ω];cases ix (ix t a) b with
  | true=>
   refine Zag ⟨by simp only [List.length_cons,List.length_nil];omega,by simp only [List.length_cons,List.length_nil];omega⟩ (Zg ⟨i-1,by omega,⟨by show 0<=b+1;omega,by show b+1<=_;omega⟩,by show i-1=((l.length:Int)-(b+1)).toNat;omega,?_⟩);show (((xs++_:List Zd)).length:Int)<=6*a+(b+1);rw [List.length_append];simp only [List.length_cons,List.length_nil];omega
  | false=>exact Zg ⟨i-1,by omega,⟨by show 0<=b+1;omega,by show b+1<=_;omega⟩,by show i-1=((l.length:Int)-(b+1)).toNat;omega,by show (xs.length:Int)<=6*a+(b+1);omega⟩
 ·rw [wr64 ω ω];exact Zg ⟨k-1,by omega,⟨by show 0<=a+1;omega,by show a+1<=_;omega⟩,by show k-1=((l.length:Int)-(a+1)).toNat;omega,by show (xs.length:Int)<=6*(a+1);omega⟩
section
variable {code:List Int} {N:Int} {s:Za}
def Gs (g:Zc):Prop:=(g.Colors.length:Int)<=6/\(g.Edges.length:Int)<=512
theorem ZGi {n a b o u:Int} {c:Bool} {t:List (List Bool)} {Q} {k:Nat} {I:Nat->Int×Int×Int×List (List Bool)->Prop} (l:TbR n n t) (a0:0<=a) (a1:a<n) (i:0<=b) (j:b<n) (n1:n<=6) (h:∀ t',TbR n n t'->Tn I Q k (.inl (b+1,o,u,t'))):Ex (ZbJ a b t c o u) (Tn I Q k):=by
 have hl:=l.1;have hr:=l.row a0 a1;unfold ZbJ;refine ZI ⟨by omega,by omega⟩ (ZI ⟨by omega,by omega⟩ ?_);rw [wr64 ω ω];exact Zg (h _ (l.set a0 a1))
theorem ZvZ (j:Bytes code) (hs:Src code (N-100) s) (hN:N<=100000000) {n:Int} (n0:0<=n) (n1:n<=6):Ex (Zi4 s n) fun r=>Gs r.1/\Src code N r.2:=by
 unfold Zi4;refine ZS j (show Src code (N-100) (Za.mk s.qcode s.qat s.qseed) from hs) ω fun c s1 c0 c1 _ h1=>?_;dsimp only;have c1:=c1 ω;refine ZQ (fun k st=>(0<=st.2.1/\st.2.1<=n)/\k=(n-st.2.1).toNat/\(st.1.length:Int)=st.2.1/\Src code (N-98+2*st.2.1) (Za.mk s.qcode st.2.2.1 st.2.2.2)) n.toNat ⟨⟨by show (0:Int)<=0;omega,n0⟩,by show _=(n-0).toNat;omega,rfl,h1.mono (by show _<=N-98+2*0;omega)⟩ ?_;rintro k ⟨l,i,u,v⟩ ⟨⟨i0,i1⟩,hk,hl,h⟩;dsimp only at i0 i1 hk hl h;unfold ZlN;refine ex_d (fun hi=>?_) fun hi=>?_
 ·rw [wr64 ω ω];refine ZS j h ω fun x s2 _ _ _ o=>?_;dsimp only;refine Zag ⟨by simp only [List.length_cons,List.length_nil];omega,by simp only [List.length_cons,List.length_nil];omega⟩ ?_;rw [wr64 ω ω];refine Zg ⟨k-1,by omega,⟨by show 0<=i+1;omega,by show i+1<=n;omega⟩,by show k-1=(n-(i+1)).toNat;omega,?_,o.mono (by show _<=N-98+2*(i+1);omega)⟩;show ((l++_:List Int).length:Int)=i+1;rw [List.length_append];simp only [List.length_cons,List.length_nil];omega
 ·have e:i=n:=ω;refine ZC (ZIg (l:=l) ω) fun t ht=>?_;have ht:TbR n n t:=by rw [hl,e] at ht;exact ht
  refine ZS j h ω fun w s2 w0 w1 _ o=>?_;dsimp only;refine ZQ (fun k st=>(0<=st.1/\st.1<=n)/\k=(n-st.1).toNat/\TbR n n st.2.2.2/\Src code (N-80+12*st.1) (Za.mk s.qcode st.2.1 st.2.2.1)) n.toNat ⟨⟨by show (0:Int)<=0;omega,n0⟩,by show _=(n-0).toNat;omega,ht,o.mono (by show _<=N-80+12*0;omega)⟩ ?_;rintro ka ⟨a,ua,va,ta⟩ ⟨⟨a0,a1⟩,ab,a4,h⟩;dsimp only at a0 a1 ab a4 h;unfold ZnF;refine ex_d (fun ha=>?_) fun ha=>?_
  ·rw [wr64 ω ω];refine ZQ (fun k st=>(0<=st.1/\st.1<=n)/\k=(n-st.1).toNat/\TbR n n st.2.2.2/\Src code (N-80+12*a+2*st.1) (Za.mk s.qcode st.2.1 st.2.2.1)) (n-(a+1)).toNat ⟨⟨by show (0:Int)<=a+1;omega,by show a+1<=n;omega⟩,rfl,a4,h.mono (by show _<=N-80+12*a+2*(a+1);omega)⟩ ?_;rintro kb ⟨b,ub,vb,tb⟩ ⟨⟨b0,b1⟩,a9,a2,h⟩;dsimp only at b0 b1 a9 a2 h;unfold ZoG;refine ex_d (fun ae=>?_) fun _=>?_
   ·have fin:∀ Q c u v,Src code (N-80+12*a+2*(b+1)) (Za.mk s.qcode u v)->Ex (ZbJ a b tb c u v) (Tn (fun k st=>(0<=st.1/\st.1<=n)/\k=(n-st.1).toNat/\TbR n n st.2.2.2/\Src code (N-80+12*a+2*st.1) (Za.mk s.qcode st.2.1 st.2.2.1)) Q kb):=fun Q c u v hc=>
     ZGi a2 a0 ha b0 ae n1 fun t' af=>⟨kb-1,by omega,⟨by show 0<=b+1;omega,by show b+1<=n;omega⟩,by show kb-1=(n-(b+1)).toNat;omega,af,hc⟩
    have h':=h.mono (show N-80+12*a+2*b<=N-80+12*a+2*(b+1) by omega);refine ex_e (fun _=>ex_e (fun _=>fin _ _ _ _ h') fun _=>ex_e (fun _=>fin _ _ _ _ h') fun _=>fin _ _ _ _ h') fun _=>ex_e (fun _=>?_) fun _=>ex_e (fun _=>ex_nz ω (fin _ _ _ _ h')) fun _=>?_
    ·exact ZS j h ω fun x s3 _ _ _ y=>fin _ _ _ _ (y.mono ω)
    ·exact ZS j h ω fun x s3 _ _ _ y=>fin _ _ _ _ (y.mono ω)
   ·rw [wr64 ω ω];exact Zg ⟨ka-1,by omega,⟨by show 0<=a+1;omega,by show a+1<=n;omega⟩,by show ka-1=(n-(a+1)).toNat;omega,a2,h.mono (by show _<=N-80+12*(a+1);omega)⟩
  ·refine ZC (of_ok (l:=l) (t:=ta) ω (by rw [hl,e];exact a4)) fun g hg=>?_;obtain ⟨a3,aa⟩:=hg;refine ex_d (fun _=>by omega) fun _=>Zg ⟨⟨by show (g.Colors.length:Int)<=6;rw [a3];omega,by show (g.Edges.length:Int)<=512;omega⟩,h.mono ω⟩
theorem ZFF (j:Bytes code) (hs:Src code (N-110) s) (hN:N<=100000000):Ex (Zih s) fun r=>Gs r.1/\Src code N r.2:=by
 unfold Zih;refine ZS j (show Src code (N-110) (Za.mk s.qcode s.qat s.qseed) from hs) ω fun c s1 u c1 _ h1=>?_;dsimp only;have c1:=c1 ω;refine ZC (ZvZ j (N:=N) (h1.mono ω) hN u ω) fun r hr=>?_;obtain ⟨⟨l,o⟩,hr⟩:=hr;refine ZQ (fun k st=>(0<=st.1/\st.1<=(st.2.length:Int))/\k=((st.2.length:Int)-st.1).toNat/\(st.2.length:Int)<=6) r.1.Colors.length ⟨⟨by show (0:Int)<=0;omega,by show (0:Int)<=_;omega⟩,by show _=((r.1.Colors.length:Int)-0).toNat;omega,l⟩ ?_;rintro k ⟨i,xs⟩ ⟨⟨x,y⟩,hk,hl⟩;dsimp only at x y hk hl;unfold Zoa;refine ex_d (fun hi=>?_) fun _=>Zg ⟨⟨hl,o⟩,hs.of hr⟩;refine ZI ⟨by omega,by omega⟩ ?_;rw [wr64 ω ω];exact Zg ⟨k-1,by omega,⟨by show 0<=i+1;omega,by show i+1<=((xs.set i.toNat 0).length:Int);rw [List.length_set];omega⟩,by show k-1=(((xs.set i.toNat 0).length:Int)-(i+1)).toNat;rw [List.length_set];omega,by show ((xs.set i.toNat 0).length:Int)<=6;rw [List.length_set];omega⟩
theorem graph30 {g:Zc} (hg:Gs g):Ex (Zi5 g) Ob1:=by
 obtain ⟨u,he⟩:=hg;unfold Zi5;refine ZC (R:=fun _=>True) ?_ fun c _=>?_
 ·obtain ⟨c,h,_⟩:=ZtV (g:=g) ω ω;exact ⟨c,h,trivial⟩
 cases c with
 | false=>exact Zg fun h=>by cases h
 | true=>
  refine ZQ (fun k st=>(0<=st.2/\st.2<=(g.Edges.length:Int))/\k=((g.Edges.length:Int)-st.2).toNat/\(st.1.length:Int)=st.2/\∀ b∈st.1,(b.length:Int)<=2) g.Edges.length ⟨⟨by show (0:Int)<=0;omega,by show (0:Int)<=_;omega⟩,by show _=((g.Edges.length:Int)-0).toNat;omega,rfl,by simp⟩ ?_;rintro k ⟨rows,i⟩ ⟨⟨l,o⟩,hk,hl,hr⟩;dsimp only at l o hk hl hr;unfold ZrS;refine ex_d (fun hi=>?_) fun _=>?_
  ·refine ZI ⟨by omega,by omega⟩ (ZI ⟨by omega,by omega⟩ (Zag ⟨by simp only [List.length_cons,List.length_nil];omega,by simp only [List.length_cons,List.length_nil];omega⟩ ?_));rw [wr64 ω ω];refine Zg ⟨k-1,by omega,⟨by show 0<=i+1;omega,by show i+1<=_;omega⟩,by show k-1=((g.Edges.length:Int)-(i+1)).toNat;omega,?_,fun b j=>?_⟩
   ·show ((rows++_:List (List Int)).length:Int)=i+1;rw [List.length_append];simp only [List.length_cons,List.length_nil];omega
   ·rcases List.mem_append.1 j with j|j
    ·exact hr b j
    ·rw [List.mem_singleton.1 j];simp
  ·refine ZQ (fun k st=>(0<=st/\st<=(g.Colors.length:Int))/\k=((g.Colors.length:Int)-st).toNat) g.Colors.length ⟨⟨by omega,by omega⟩,by omega⟩ ?_;rintro k x ⟨⟨y,x1⟩,hk⟩;unfold Zt4;refine ex_d (fun hx=>?_) fun _=>?_
   ·refine ZI ⟨by omega,by omega⟩ (ex_n (fun _=>Zg fun h=>by cases h) fun _=>?_);rw [wr64 ω ω];exact Zg ⟨k-1,by omega,⟨by omega,by omega⟩,by omega⟩
   ·exact ZC (make30 ⟨by omega,fun b j=>by have:=hr b j;omega⟩) fun r hr=>Zg hr
def Vo (o:Zf):Prop:=Sz2 o.Rows/\Zc9 o=some true
theorem ZDO:Vo ⟨2,3,[[0,1,2]]⟩:=by
 have hs:Sz2 [[(0:Int),1,2]]:=⟨by decide,by decide⟩
 refine ⟨hs,?_⟩;have h:=(Zqa (d:=⟨3,[[0,1,2]]⟩) hs).eq ?_
 ·unfold Zc9;dsimp only;rw [h];rfl
 ·refine ⟨by decide,by decide,by decide,fun k i k1=>?_,fun k i k1=>?_⟩
  ·have:k=0:=by simp at k1;omega
   subst this;refine ⟨by decide,fun j o l=>?_⟩;have:j=0\/j=1\/j=2:=by simp [ix] at l;omega
   rcases this with rfl|rfl|rfl<;>decide
  ·simp at k1;omega
theorem Zy3 {y q q2 u v:Int} {m:List (List Int)} {r:Zf×Int} (h:Ob1 r) (hs:Src code N (Za.mk s.qcode u v)):Ex (Za8 s r.2 r.1.Kind r.1.Size r.1.Rows u v) fun z=>Vo z.1/\Src code N z.2:=by
 unfold Za8;exact ex_n (fun _=>Zg ⟨ZDO,hs⟩) fun e=>Zg ⟨h ω,hs⟩
theorem ZH2 (j:Bytes code) (hs:Src code 0 s):Ex (Zji s) fun r=>Vo r.1:=by
 have hs:Src code (10000-5000) (Za.mk s.qcode s.qat s.qseed):=hs.mono ω;unfold Zji;refine ZS j hs ω fun c s1 c0 c1 _ h1=>?_;dsimp only;have c1:=c1 ω;have fin:∀ {r:Zf×Int} {u v:Int},Ob1 r->Src code 10000 (Za.mk s.qcode u v)->Ex (Za8 s r.2 r.1.Kind r.1.Size r.1.Rows u v) fun r=>Vo r.1:=fun h hs=>
  let ⟨z,e,a,_⟩:=Zy3 (y:=0) (q:=0) (q2:=0) (m:=[]) h hs
  ⟨z,e,a⟩
 refine ex_e (fun _=>?_) fun _=>ex_e (fun _=>?_) fun _=>ex_e (fun _=>?_) fun _=>ex_e (fun _=>?_) fun _=>ex_e (fun _=>?_) fun _=>ex_e (fun _=>?_) fun _=>ex_e (fun _=>?_) fun _=>by omega
 ·refine ZS j h1 ω fun n x n0 n1 _ l=>?_;dsimp only;have n1:=n1 ω;rw [wr64 ω ω];refine ZC (ZBX (N:=10000) j (l.mono ω) ω ω ω) fun r hr=>?_;obtain ⟨hr,k⟩:=hr;have:=hr.len;refine ZC (square30 ⟨by omega,fun b j=>?_⟩) fun o ho=>fin ho (l.of k);obtain ⟨i,i0,i1,rfl⟩:=ZL j;have:=hr.row i i0 ω;omega
 ·refine ZC (ZHf (N:=10000) j (h1.mono ω) ω) fun r hr=>?_;obtain ⟨hr,k⟩:=hr;exact ZC (design30 ⟨by have:=hr.len;omega,fun b j=>by have:=hr.row _ j;omega⟩) fun o ho=>fin ho (h1.of k)
 ·refine ZS j h1 ω fun n x n0 n1 _ l=>?_;dsimp only;exact ZC (ZGu n0 (by have:=n1 ω;omega)) fun m hm=>ZC (hada30 hm) fun o ho=>fin ho (l.mono ω)
 ·refine ZC (ZyA (N:=10000) j (h1.mono ω) ω) fun r hr=>?_;obtain ⟨hr,k⟩:=hr;exact ZC (array30 ⟨by have:=hr.len;omega,fun b j=>by have:=hr.row _ j;omega⟩) fun o ho=>fin ho (h1.of k)
 ·refine ZC (ZGC (N:=10000) j (h1.mono ω) ω) fun r hr=>?_;exact ZC (code30 hr.1) fun o ho=>fin ho (h1.of hr.2)
 ·refine ZC (ZFF (N:=10000) j (h1.mono ω) ω) fun r hr=>?_;exact ZC (graph30 hr.1) fun o ho=>fin ho (h1.of hr.2)
 ·obtain ⟨g,x,e,hg,k⟩:=Zxg (n:=9000) j (h1.mono ω) ω;rw [e];simp only [Option.bind_some];exact ZC (group30 ⟨by have:=hg.2.1;omega,fun b j=>by have:=hg.2.2 b j;omega⟩) fun o ho=>fin ho (h1.of (k.mono ω))
end
theorem ZFR {code:List Int} (i:Bytes code):Ex (Zh6 code) Vo:=by
 unfold Zh6;obtain ⟨s,e,_,hs⟩:=Zt5 (code:=code);rw [e];simp only [Option.bind_some];exact ZC (ZH2 i hs) fun r hr=>Zg hr
open Go Go.Vc Go.Lib
theorem gFitW {a b:ByteArray} (h:a.size+b.size<=4000000000000000000):gFit a b=some ():=by
 unfold gFit;rw [if_pos];have:IntKind.i64.max=9223372036854775807:=rfl;omega
def bl (l:List UInt8):ByteArray:=⟨l.toArray⟩
theorem Zeh (b:ByteArray):bl b.data.toList=b:=by cases b;rfl
theorem Znx (l:List UInt8):(bl l).size=l.length:=by show l.toArray.size=_;simp
theorem Zs0 (l r:List UInt8):bl l++bl r=bl (l++r):=by
 apply ByteArray.ext;rw [ByteArray.data_append];show l.toArray++r.toArray=(l++r).toArray;simp
theorem Zbn (a b:ByteArray):(a++b).size=a.size+b.size:=by simp
theorem ZFW (x s:ByteArray):joinB [x] s=x:=by
 unfold joinB;rw [List.map_cons,List.map_nil,join_one]
theorem ZnO (x:ByteArray) (r:List ByteArray) (s:ByteArray):joinB (x::r) s=bl (x.data.toList++joinTail s.data.toList (r.map (·.data.toList))):=by
 unfold joinB;rw [List.map_cons,join_cons];rfl
theorem Zs2 {l:List ByteArray} (h:l≠[]) (x s:ByteArray):joinB (l++[x]) s=joinB l s++s++x:=by
 cases l with
 | nil=>exact absurd rfl h
 | cons a r=>
  rw [List.cons_append,ZnO,ZnO,List.map_append]
  conv=>rhs;rw [<-Zeh s,<-Zeh x,Zs0,Zs0]
  congr 1;rw [Zeh];simp [joinTail]
theorem ZFr {l:List ByteArray} {s:ByteArray} {m:Nat} (h:∀ x∈l,x.size<=m):(joinB l s).size<=(m+s.size)*l.length:=by
 cases l with
 | nil=>exact Nat.zero_le _
 | cons a r=>
  have hl:∀ (r:List ByteArray),(∀ x∈r,x.size<=m)->lens (r.map (·.data.toList))<=m*r.length:=by
   intro r;induction r with
   | nil=>intro _;exact Nat.zero_le _
   | cons b t ih=>
    intro j;have h1:=ih fun x i=>j x (List.mem_cons_of_mem _ i);have o:=j b (List.mem_cons_self ..);have k:b.data.toList.length=b.size:=by rw [Array.length_toList];rfl
    simp only [lens,List.map_cons,List.sum_cons,List.length_cons] at h1 ⊢;rw [Nat.mul_succ];omega
  have h1:=hl r fun x i=>h x (List.mem_cons_of_mem _ i);have o:=h a (List.mem_cons_self ..);have k:a.data.toList.length=a.size:=by rw [Array.length_toList];rfl
  have u:s.data.toList.length=s.size:=by rw [Array.length_toList];rfl
  rw [ZnO,Znx,List.length_append,joinTail_length,List.length_map,k,u,List.length_cons,Nat.add_mul,Nat.mul_succ,Nat.mul_succ];omega
theorem dgl:∀ (m u:Nat),u<10^(m+1)->(decDigits u).length<=m+1:=by
 intro m;induction m with
 | zero=>
  intro u h;rw [decDigits,dif_pos (by simpa using h)];exact Nat.le_refl _
 | succ m j=>
  intro u h;rw [decDigits];split
  ·simp
  ·have e:10^(m+1+1)=10^(m+1)*10:=Nat.pow_succ ..;have:=j (u/10) ω;rw [List.length_append,List.length_singleton];omega
theorem ZoO {n:Int} (m:Nat) (h1:-10^(m+1)<n) (i:n<10^(m+1)):(itoaB n).size<=m+2:=by
 have e:(10:Int)^(m+1)=((10^(m+1):Nat):Int):=by simp
 rw [e] at h1 i;show (itoa n).toArray.size<=_;unfold itoa;split
 ·have:=dgl m n.natAbs ω;simp;omega
 ·have:=dgl m n.toNat ω;simp;omega
theorem dgn (u:Nat):0<(decDigits u).length:=by
 rw [decDigits];split<;>simp
theorem ZfI {n:Int} (h1:-9223372036854775808<=n) (i:n<=9223372036854775807):ZcT n=some (itoaB n):=by
 unfold ZcT Zjd;rw [if_pos ⟨rfl,h1,i⟩];rfl
open Go Go.Vc Go.Lib
theorem ZnU {l:List ByteArray} {s:ByteArray} (h1:l.length<=140737488355328) (i:(joinB l s).size<=140737488355328):ZdE l s=some (joinB l s):=by
 unfold ZdE;rw [if_pos ⟨h1,i⟩]
theorem ZmV {α β:Type} [Inhabited α] {xs:List α} {f:α->β} {k:Int} (i:0<=k) (h1:k<(xs.length:Int)):(xs.take (k+1).toNat).map f=(xs.take k.toNat).map f++[f (ix xs k)]:=by
 rw [ZaC i h1,List.map_append];rfl
theorem jsize {α:Type} {xs:List α} {f:α->ByteArray} {s:ByteArray} {m N:Nat} (k:∀ x∈xs,(f x).size<=m) (hl:xs.length<=N) (i:Nat):(joinB ((xs.take i).map f) s).size<=(m+s.size)*N:=by
 refine Nat.le_trans (ZFr (m:=m) fun y l=>?_) (Nat.mul_le_mul_left _ ?_)
 ·obtain ⟨x,j,rfl⟩:=List.mem_map.1 l;exact k x (List.mem_of_mem_take j)
 ·rw [List.length_map,List.length_take];omega
def InR (x:Int):Prop:=-999999999<=x/\x<=999999999
theorem ZeY {x:Int} (h:InR x):(itoaB x).size<=10:=ZoO 8 (by have:=h.1;omega) (by have:=h.2;omega)
noncomputable def tL (xs:List Int):ByteArray:=@ite _ (xs.length<=100/\∀ x∈xs,InR x) (Classical.propDecidable _) (if xs=[] then ⟨#[45]⟩ else joinB (xs.map itoaB) ⟨#[44]⟩) ⟨#[]⟩
theorem tL_t {xs:List Int} (h:xs.length<=100/\∀ x∈xs,InR x) (i:xs≠[]):tL xs=joinB (xs.map itoaB) ⟨#[44]⟩:=by unfold tL;rw [if_pos h,if_neg i]
theorem tL_n {xs:List Int} (i:xs=[]):tL xs=⟨#[45]⟩:=by
 subst i;unfold tL;rw [if_pos ⟨by decide,fun x j=>by cases j⟩,if_pos rfl]
theorem tL_f {xs:List Int} (h:¬ (xs.length<=100/\∀ x∈xs,InR x)):tL xs=⟨#[]⟩:=by unfold tL;rw [if_neg h]
theorem ZjY (xs:List Int):(tL xs).size<=1100:=by
 by_cases i:xs=[]
 ·rw [tL_n i];show 1<=_;omega
 ·by_cases h:xs.length<=100/\∀ x∈xs,InR x
  ·rw [tL_t h i];have:=jsize (xs:=xs) (f:=itoaB) (s:=⟨#[44]⟩) (m:=10) (N:=100) (fun x j=>ZeY (h.2 x j)) h.1 xs.length;rw [List.take_length] at this;exact this
  ·rw [tL_f h];show 0<=_;omega
theorem Zoh (xs:List Int):Zen xs=some (tL xs):=by
 unfold Zen;by_cases hl:xs.length<=100
 ·have y:=containsL (s:=xs) (fn:=fun y0=>Ze2 y0) (q:=fun x=>¬ InR x) ω fun x o=>by
   by_cases h1:-999999999<=x
   ·by_cases h2:x<=999999999
    ·simp (disch:=omega) only [pz,Ze2,Z6];exact IsQ.f fun h=>h ⟨h1,h2⟩
    ·simp (disch:=omega) only [pz,Ze2,Z6];exact IsQ.t fun h=>h2 h.2
   ·simp (disch:=omega) only [pz,Ze2,Z6];exact IsQ.t fun h=>h1 h.1
  by_cases ha:∀ x∈xs,InR x
  ·have j:=y.ne fun ⟨x,o,h⟩=>h (ha x o);by_cases u:xs=[]
   ·rw [tL_n u];subst u;simp (disch:=omega) only [pz,j,ZiW,List.length_nil]
   ·rw [tL_t ⟨hl,ha⟩ u];have hp:0<(xs.length:Int):=by
     cases xs with
     | nil=>exact absurd rfl u
     | cons a t=>simp
    have e:loop (Zgw xs) ([],0)=some (joinB (xs.map itoaB) ⟨#[44]⟩):=by
     have e1:=ZG (B:=Zgw xs) (fun k:Int=>((xs.take k.toNat).map itoaB,k)) (i:=0) (n:=xs.length) ω fun k k0 k1=>by
      have hk:=ha _ (Zj k0 k1);have hd:=ZfI (n:=ix xs k) (by have:=hk.1;omega) (by have:=hk.2;omega);have aa:((xs.take k.toNat).map itoaB).length<=100:=by rw [List.length_map,List.length_take];omega
      rw [ZmV k0 k1];have hg:gApp 16 ((xs.take k.toNat).map itoaB) [itoaB (ix xs k)]=some ((xs.take k.toNat).map itoaB++[itoaB (ix xs k)]):=gApp1 ω ω;simp (disch:=omega) only [pz,Zgw,hd,hg]
     rw [Int.toNat_natCast,List.take_length] at e1;refine e1.trans (Ze ?_);have hj:=jsize (xs:=xs) (f:=itoaB) (s:=⟨#[44]⟩) (m:=10) (N:=100) (fun x o=>ZeY (ha x o)) hl xs.length;rw [List.take_length] at hj;have hq:=ZnU (l:=xs.map itoaB) (s:=⟨#[44]⟩) (by rw [List.length_map];omega) (Nat.le_trans hj (by decide));simp (disch:=omega) only [pz,Zgw,hq]
    simp (disch:=omega) only [pz,j,ZiW,e]
  ·have j:=y.eq (by
    refine Classical.byContradiction fun h=>ha fun x o=>Classical.not_not.1 fun hh=>h ⟨x,o,hh⟩)
   rw [tL_f fun h=>ha h.2];simp (disch:=omega) only [pz,j]
 ·rw [tL_f fun h=>hl h.1];simp (disch:=omega) only [pz,]
theorem ZvU {o:Zf} (h:Zae o=some true):1<=o.Kind/\o.Kind<=7:=by
 refine Classical.byContradiction fun i=>?_;have:Zae o=some false:=by
  unfold Zae;by_cases h1:o.Kind<1
  ·simp (disch:=omega) only [pz,]
  ·simp (disch:=omega) only [pz,]
 rw [this] at h;cases h
noncomputable def tR (rows:List (List Int)):ByteArray:=if rows=[] then ⟨#[110,111,110,101]⟩ else joinB (rows.map tL) ⟨#[47]⟩
theorem ZyO {rows:List (List Int)} (h:rows.length<=1048576):(tR rows).size<=1154482176:=by
 unfold tR;split
 ·show 4<=_;omega
 ·have:=jsize (xs:=rows) (f:=tL) (s:=⟨#[47]⟩) (m:=1100) (N:=1048576) (fun x _=>ZjY x) h rows.length;rw [List.take_length] at this;exact this
open Go Go.Vc Go.Lib
def spl (b:UInt8):List UInt8->List (List UInt8)
 | []=>[[]]
 | c::l=>if c=b then []::spl b l else (c::(spl b l).headD [])::(spl b l).tail
theorem ZF6 (b:UInt8) (l:List UInt8):spl b l≠[]:=by
 cases l with
 | nil=>simp [spl]
 | cons c l=>unfold spl;split<;>simp
theorem ZtG {b:UInt8} {l:List UInt8}:∃ h t,spl b l=h::t:=by
 cases e:spl b l with
 | nil=>exact absurd e (ZF6 b l)
 | cons h t=>exact ⟨h,t,rfl⟩
theorem Zq8 (x y:List UInt8) (r:List (List UInt8)) (s:List UInt8):join (x::y::r) s=x++s++join (y::r) s:=by
 rw [join_cons,join_cons];simp [joinTail]
theorem Zsv {b:UInt8}:∀ {x:List UInt8},b∉x->spl b x=[x]
 | [],_=>rfl
 | c::x,h=>by
  have j:=Zsv (x:=x) fun k=>h (List.mem_cons_of_mem _ k);unfold spl;rw [if_neg (fun e=>h (by rw [e];exact List.mem_cons_self ..)),j];rfl
theorem Zvd {b:UInt8}:∀ {x:List UInt8} (l:List UInt8),b∉x->spl b (x++b::l)=x::spl b l
 | [],l,_=>by simp [spl]
 | c::x,l,h=>by
  have j:=Zvd (x:=x) l fun k=>h (List.mem_cons_of_mem _ k);rw [List.cons_append]
  conv=>lhs;unfold spl
  rw [if_neg (fun e=>h (by rw [e];exact List.mem_cons_self ..)),j];rfl
theorem Zrd {b:UInt8}:∀ {xs:List (List UInt8)},xs≠[]->(∀ x∈xs,b∉x)->spl b (join xs [b])=xs
 | [],h,_=>absurd rfl h
 | [x],_,h=>by rw [join_one];exact Zsv (h x (List.mem_cons_self ..))
 | x::y::r,_,h=>by
  have j:=Zrd (b:=b) (xs:=y::r) (by simp) fun z hz=>h z (List.mem_cons_of_mem _ hz);rw [Zq8,List.append_assoc];show spl b (x++b::join (y::r) [b])=_;rw [Zvd _ (h x (List.mem_cons_self ..)),j]
theorem Zuo (b:UInt8):∀ l:List UInt8,(spl b l).length<=l.length+1
 | []=>by simp [spl]
 | c::l=>by
  have j:=Zuo b l;obtain ⟨h,t,e⟩:=ZtG (b:=b) (l:=l);unfold spl;rw [e] at j ⊢;split
  ·simp at j ⊢;omega
  ·simp at j ⊢;omega
theorem Zsu (b:UInt8):∀ l:List UInt8,∀ x∈spl b l,x.length<=l.length
 | [],x,i=>by simp [spl] at i;rw [i];simp
 | c::l,x,i=>by
  have j:=Zsu b l;obtain ⟨h,t,e⟩:=ZtG (b:=b) (l:=l);unfold spl at i;rw [e] at j i;split at i
  ·rcases List.mem_cons.1 i with rfl|i
   ·simp
   ·have:=j x i;simp;omega
  ·rcases List.mem_cons.1 i with rfl|i
   ·have:=j h (List.mem_cons_self ..);simp;omega
   ·have:=j x (List.mem_cons_of_mem _ i);simp;omega
open Go Go.Vc Go.Lib
def Dg (c:UInt8):Prop:=48<=c.toNat/\c.toNat<=57
def vl (l:List UInt8):Nat:=l.foldl (fun n c=>10*n+(c.toNat-48)) 0
theorem ZAe (l:List UInt8) (c:UInt8):vl (l++[c])=10*vl l+(c.toNat-48):=by
 unfold vl;rw [List.foldl_append,List.foldl_cons,List.foldl_nil]
theorem dch {d:Nat} (h:d<10):(UInt8.ofNat (48+d)).toNat=48+d:=by
 rw [UInt8.toNat_ofNat'];omega
theorem Ziy {P:List UInt8->Nat->Prop} (h1:∀ u,u<10->P [UInt8.ofNat (48+u)] u) (i:∀ u,10<=u->P (decDigits (u/10)) (u/10)->P (decDigits (u/10)++[UInt8.ofNat (48+u%10)]) u):∀ (n u:Nat),u<n->P (decDigits u) u:=by
 intro n;induction n with
 | zero=>intro u h;omega
 | succ n k=>
  intro u h;by_cases j:u<10
  ·rw [decDigits,dif_pos j];exact h1 u j
  ·rw [decDigits,dif_neg j];exact i u ω (k _ ω)
theorem Zkr (u:Nat):vl (decDigits u)=u:=by
 refine Ziy (P:=fun l u=>vl l=u) (fun u h=>?_) (fun u h j=>?_) (u+1) u ω
 ·show 10*0+((UInt8.ofNat (48+u)).toNat-48)=u;rw [dch h];omega
 ·rw [ZAe,j,dch (Nat.mod_lt _ ω)];omega
theorem Zgd (u:Nat):∀ c∈decDigits u,Dg c:=by
 refine Ziy (P:=fun l u=>∀ c∈l,Dg c) (fun u h c i=>?_) (fun u h j c i=>?_) (u+1) u ω
 ·obtain rfl:=List.mem_singleton.1 i;unfold Dg;rw [dch h];omega
 ·rcases List.mem_append.1 i with i|i
  ·exact j c i
  ·obtain rfl:=List.mem_singleton.1 i;have:=Nat.mod_lt u (show 0<10 by omega);unfold Dg;rw [dch this];omega
theorem ZBL (u:Nat):u<10^(decDigits u).length:=by
 refine Ziy (P:=fun l u=>u<10^l.length) (fun u h=>?_) (fun u h j=>?_) (u+1) u ω
 ·simpa using h
 ·have j:u/10<10^(decDigits (u/10)).length:=j;rw [List.length_append,List.length_singleton,Nat.pow_succ];omega
noncomputable def numOf (s:ByteArray):Int×Bool:=
 @dite _ (∃ n:Int,(-1000000000000000000<n/\n<1000000000000000000)/\itoaB n=s) (Classical.propDecidable _) (fun h=>(Classical.choose h,true)) (fun _=>(0,false))
theorem ZfS (n:Int):(itoaB n).data.toList=itoa n:=by unfold itoaB;simp
theorem Zy1 {n m:Int} (h:itoaB n=itoaB m):n=m:=by
 have i:=congrArg (fun s:ByteArray=>s.data.toList) h;simp only [ZfS] at i;have k:∀ (u v:Nat) ,decDigits u≠45::decDigits v:=fun u v e=>by
  have:=Zgd u 45 (by rw [e];exact List.mem_cons_self ..);unfold Dg at this;have o:(45:UInt8).toNat=45:=rfl;omega
 unfold itoa at i;split at i
 ·split at i
  ·have l:=(List.cons.inj i).2;have j:=congrArg vl l;rw [Zkr,Zkr] at j;omega
  ·exact absurd i.symm (k _ _)
 ·split at i
  ·exact absurd i (k _ _)
  ·have j:=congrArg vl i;rw [Zkr,Zkr] at j;omega
theorem ZsN {n:Int} {s:ByteArray} (h1:-1000000000000000000<n/\n<1000000000000000000) (h:itoaB n=s):numOf s=(n,true):=by
 have i:∃ n:Int,(-1000000000000000000<n/\n<1000000000000000000)/\itoaB n=s:=⟨n,h1,h⟩
 unfold numOf;rw [dif_pos i];have:=Classical.choose_spec i;rw [Zy1 (this.2.trans h.symm)]
theorem Zlb {s:ByteArray} (h:∀ n:Int,(-1000000000000000000<n/\n<1000000000000000000)->itoaB n≠s):numOf s=(0,false):=by
 unfold numOf;rw [dif_neg fun ⟨n,h1,i⟩=>h n h1 i]
theorem Zot (M:Nat):∀ (l:List UInt8) (a n:Nat) (c:UInt8),parseUintM M a l=.ok n->Dg c->n<1844674407370955162->n*10+(c.toNat-48)<=M->parseUintM M a (l++[c])=.ok (n*10+(c.toNat-48))
 | [],a,n,c,h,i,h1,j=>by
  have h:NumEnd.ok a=NumEnd.ok n:=h;cases h;rw [List.nil_append];unfold parseUintM;have i:48<=c.toNat/\c.toNat<=57:=i;rw [if_pos i,if_neg ω,if_neg ω];rfl
 | d::l,a,n,c,h,i,h1,j=>by
  rw [List.cons_append];unfold parseUintM at h ⊢;split at h
  ·rename_i k;rw [if_pos k];split at h
   ·cases h
   ·rename_i o;rw [if_neg o];split at h
    ·cases h
    ·rename_i hm;rw [if_neg hm];exact Zot M l _ n c h i h1 j
  ·cases h
theorem ZsW (u:Nat) (j:u<1000000000000000000):parseUintM 18446744073709551615 0 (decDigits u)=.ok u:=by
 refine Ziy (P:=fun l u=>u<1000000000000000000->parseUintM 18446744073709551615 0 l=.ok u) (fun u h _=>?_) (fun u h k j=>?_) (u+1) u ω j
 ·have i:Dg (UInt8.ofNat (48+u)):=by unfold Dg;rw [dch h];omega
  have:=Zot 18446744073709551615 [] 0 0 _ rfl i ω (by rw [dch h];omega);rw [List.nil_append] at this;rw [this,dch h];congr 1;omega
 ·have hm:=Nat.mod_lt u (show 0<10 by omega);have i:Dg (UInt8.ofNat (48+u%10)):=by unfold Dg;rw [dch hm];omega
  rw [Zot _ _ 0 (u/10) _ (k ω) i ω (by rw [dch hm];omega),dch hm];congr 1;omega
theorem ZsO {n:Int} (h:-1000000000000000000<n/\n<1000000000000000000):parseIntB 64 (itoaB n).data.toList=.ok n:=by
 rw [ZfS];have i:(45:UInt8).toNat=45:=rfl;unfold itoa;split
 ·have hp:=ZsW n.natAbs ω;have u:decDigits n.natAbs≠[]:=fun e=>by have:=dgn n.natAbs;rw [e] at this;simp at this
  unfold parseIntB parseUintB;simp only [i,or_true,if_true];rw [if_neg u,show (2:Nat)^64-1=18446744073709551615 from rfl,hp];simp only [not_true,false_and,if_false,true_and];rw [if_neg (by rw [show (2:Nat)^(64-1)=9223372036854775808 from rfl];omega)];congr 1;omega
 ·have hp:=ZsW n.toNat ω;have o:=Zgd n.toNat;cases hl:decDigits n.toNat with
  | nil=>have:=dgn n.toNat;rw [hl] at this;simp at this
  | cons c r=>
   rw [hl] at hp o;have l:=o c (List.mem_cons_self ..);unfold Dg at l;have j:¬ c.toNat=43:=ω;have k:¬ c.toNat=45:=ω;unfold parseIntB parseUintB;simp only [j,k,or_false,if_false,reduceCtorEq];rw [show (2:Nat)^64-1=18446744073709551615 from rfl,hp];simp only [not_false_eq_true,true_and,false_and,if_false];rw [if_neg (by rw [show (2:Nat)^(64-1)=9223372036854775808 from rfl];omega)];congr 1;omega
open Go Go.Vc Go.Lib
def tl (l:List UInt8):List UInt8:=match l with
 | []=>[]
 | c::r=>if c=45 then r else l
theorem Zs9 {n:Int} {l:List UInt8} (h:itoa n=l):tl l=decDigits n.natAbs/\(n<0↔(tl l).length<l.length):=by
 subst h;unfold itoa;split
 ·refine ⟨by simp [tl],?_⟩;simp [tl];omega
 ·rename_i j;have e:n.toNat=n.natAbs:=ω;rw [e];have h1:tl (decDigits n.natAbs)=decDigits n.natAbs:=by
   cases hl:decDigits n.natAbs with
   | nil=>rfl
   | cons c r=>
    have:=Zgd n.natAbs c (by rw [hl];exact List.mem_cons_self ..);unfold Dg at this;have i:¬ c=45:=fun e=>by rw [e] at this;have k:(45:UInt8).toNat=45:=rfl;omega
    simp [tl,i]
  rw [h1];exact ⟨rfl,by omega⟩
theorem ZEK {l:List UInt8} {v:Int} (h:parseIntB 64 l=.ok v):-9223372036854775808<=v/\v<=9223372036854775807:=by
 unfold parseIntB at h;split at h
 ·cases h
 ·rename_i c r;dsimp only at h;split at h
  ·cases h
  ·cases h
  ·rename_i u k;rw [show (2:Nat)^(64-1)=9223372036854775808 from rfl] at h;split at h
   ·cases h
   ·split at h
    ·cases h
    ·rename_i h1 j;cases h;by_cases i:c.toNat=45
     ·rw [if_pos i];omega
     ·rw [if_neg i];omega
theorem Zp0 {s:ByteArray} (h:(tl s.data.toList).length<1\/18<(tl s.data.toList).length):numOf s=(0,false):=by
 refine Zlb fun n j e=>?_;have i:=congrArg (fun s:ByteArray=>s.data.toList) e;simp only [ZfS] at i;have:=(Zs9 i).1;rw [this] at h;have h1:=dgn n.natAbs;have k:=dgl 17 n.natAbs ω;omega
theorem ZHz {s:ByteArray} (hl:(tl s.data.toList).length<=18) {n:Int} (hp:parseIntB 64 s.data.toList=.ok n):numOf s=if itoaB n=s then (n,true) else (0,false):=by
 by_cases e:itoaB n=s
 ·rw [if_pos e];refine ZsN ?_ e;have i:=congrArg (fun s:ByteArray=>s.data.toList) e;simp only [ZfS] at i;rw [(Zs9 i).1] at hl;have:=ZBL n.natAbs;have:=Nat.lt_of_lt_of_le this (Nat.pow_le_pow_right (show 1<=10 by omega) hl);omega
 ·rw [if_neg e];refine Zlb fun m hm i=>e ?_;have:=ZsO hm;rw [i,hp] at this;cases this;exact i
theorem ZF0 {s:ByteArray} (hp:∀ n,parseIntB 64 s.data.toList≠.ok n):numOf s=(0,false):=
 Zlb fun m hm i=>hp m (by rw [<-i];exact ZsO hm)
open Go Go.Vc Go.Lib
theorem Zhg (s:ByteArray):s.data.toList.length=s.size:=by rw [Array.length_toList];rfl
theorem ZsP {s:ByteArray} {lo hi:Int} (i:0<=lo) (h1:lo<=hi) (j:hi<=(s.size:Int)):gStSl s lo hi=some (bl ((s.data.toList.take hi.toNat).drop lo.toNat)):=by
 unfold gStSl;rw [if_pos ⟨i,h1,j⟩];congr 1;apply ByteArray.ext;rw [ByteArray.data_extract];apply Array.ext';rw [Array.toList_extract];simp [bl,List.extract_eq_take_drop,List.drop_take]
theorem tl_le (l:List UInt8):(tl l).length<=l.length/\l.length<=(tl l).length+1:=by
 cases l with
 | nil=>exact ⟨Nat.le_refl _,Nat.le_succ _⟩
 | cons c r=>
  by_cases i:c=45
  ·simp [tl,i]
  ·simp [tl,i]
theorem Zze (s:ByteArray) (hs:s.size<=4000000000):Zj3 s ⟨#[45]⟩=some (bl (tl s.data.toList)):=by
 unfold Zj3 ZmB ZpD;have z1:((⟨#[45]⟩:ByteArray).size:Int)=1:=rfl;cases hl:s.data.toList with
 | nil=>
  have e:s=⟨#[]⟩:=by
   apply ByteArray.ext;apply Array.ext';rw [hl]
  subst e;have u:((⟨#[]⟩:ByteArray).size:Int)=0:=rfl;simp (disch:=omega) only [pz,z1,u];rfl
 | cons c r=>
  have a3:s.size=r.length+1:=by rw [<-Zhg,hl];rfl
  have i:=ZsP (s:=s) (lo:=0) (hi:=1) ω ω ω;have l:bl ((s.data.toList.take (1:Int).toNat).drop (0:Int).toNat)=bl [c]:=by rw [hl];rfl
  rw [l] at i;have k:=ZsP (s:=s) (lo:=1) (hi:=s.size) ω ω ω;have o:bl ((s.data.toList.take ((s.size:Int)).toNat).drop (1:Int).toNat)=bl r:=by
   rw [Int.toNat_natCast,<-Zhg,List.take_length,hl];rfl
  rw [o] at k;by_cases j:c=45
  ·have hq:((bl [c]).toList==(⟨#[45]⟩:ByteArray).toList)=true:=(Zbr _ _).2 (by rw [j];rfl);simp (disch:=omega) only [pz,z1,i,hq,k];simp [tl,j]
  ·have hq:((bl [c]).toList==(⟨#[45]⟩:ByteArray).toList)=false:=by
    cases x:(bl [c]).toList==(⟨#[45]⟩:ByteArray).toList with
    | false=>rfl
    | true=>
     have:=congrArg (fun s:ByteArray=>s.data.toList) ((Zbr _ _).1 x);have y:[c]=[45]:=this;exact absurd (List.cons.inj y).1 j
   simp (disch:=omega) only [pz,z1,i,hq];have et:bl (tl (c::r))=s:=by
    rw [<-Zeh s,hl];simp [tl,j]
   rw [et]
theorem Zvy (s:ByteArray) (hs:s.size<=4000000000):Zeq s=some (numOf s):=by
 unfold Zeq;have o:=Zze s hs;have l:(bl (tl s.data.toList)).size=(tl s.data.toList).length:=Znx _;by_cases h1:(tl s.data.toList).length<1
 ·rw [Zp0 (.inl h1)];simp (disch:=omega) only [pz,o,l]
 ·by_cases j:18<(tl s.data.toList).length
  ·rw [Zp0 (.inr j)];simp (disch:=omega) only [pz,o,l]
  ·have a3:=tl_le s.data.toList;rw [Zhg] at a3;have hg:gPars s=some (parsO s.data.toList):=by unfold gPars;rw [if_pos ω]
   by_cases hp:∃ n,parseIntB 64 s.data.toList=.ok n
   ·obtain ⟨n,hp⟩:=hp;have hr:=ZEK hp;have i:=ZfI hr.1 hr.2;have ho:=ZqV hp;rw [ZHz ω hp];have x:ZdJ s (some n)=some (if itoaB n=s then (n,true) else (0,false)):=by
     unfold ZdJ;by_cases e:itoaB n=s
     ·have:=(Zbr (itoaB n) s).2 e;rw [if_pos e];simp (disch:=omega) only [pz,i,this]
     ·have:((itoaB n).toList==s.toList)=false:=by
       cases k:(itoaB n).toList==s.toList with
       | false=>rfl
       | true=>exact absurd ((Zbr _ _).1 k) e
      rw [if_neg e];simp (disch:=omega) only [pz,i,this]
    simp (disch:=omega) only [pz,o,l,hg,ho,x]
   ·have u:∀ n,parseIntB 64 s.data.toList≠.ok n:=fun n h=>hp ⟨n,h⟩;have ho:=Zs8 u;rw [ZF0 u];have x:ZdJ s none=some (0,false):=rfl;simp (disch:=omega) only [pz,o,l,hg,ho,x]
open Go Go.Vc Go.Lib
theorem ZrD (b:UInt8):∀ l:List UInt8,splitK [b] 0 (count l [b]) l=spl b l
 | []=>by rw [count_one];rfl
 | c::l=>by
  have x:=ZrD b l;unfold spl;by_cases i:c=b
  ·subst i;rw [if_pos rfl,count_cons_eq,Nat.add_comm,<-x];have o:index (c::l) [c]=((0:Nat):Int):=by rw [index];simp [List.isPrefixOf]
   conv=>lhs;unfold splitK
   rw [o];rfl
  ·rw [if_neg i,count_cons_ne c b l i,<-x];have hp:([b]:List UInt8).isPrefixOf (c::l)=false:=by simp [List.isPrefixOf,Ne.symm i]
   have o:index (c::l) [b]=if index l [b]==-1 then -1 else index l [b]+1:=by rw [index,hp];simp
   by_cases hm:index l [b]=-1
   ·rw [count_miss hm];rfl
   ·have a2:=index_ge l [b];obtain ⟨j,hj⟩:∃ j:Nat,index l [b]=j:=⟨(index l [b]).toNat,by omega⟩
    have u:index (c::l) [b]=((j+1:Nat):Int):=by rw [o,if_neg (fun e=>hm (beq_iff_eq.1 e)),hj];omega
    rw [count_hit (by simp) hj,Nat.add_comm 1];generalize count (l.drop (j+[b].length)) [b]=k;unfold splitK;rw [hj,u,if_neg (by rw [beq_iff_eq];omega),if_neg (by rw [beq_iff_eq];omega)];rfl
def splB (b:UInt8) (s:ByteArray):List ByteArray:=(spl b s.data.toList).map bl
theorem Zyu (b:UInt8) (s:ByteArray):splitB ⟨#[b]⟩ 0 (countB s ⟨#[b]⟩) s=splB b s:=by
 have h:=splitB_data ⟨#[b]⟩ 0 (countB s ⟨#[b]⟩) s;have i:splitK (⟨#[b]⟩:ByteArray).data.toList 0 (countB s ⟨#[b]⟩) s.data.toList=spl b s.data.toList:=ZrD b s.data.toList;rw [i] at h;unfold splB;rw [<-h,List.map_map]
 conv=>lhs;rw [<-List.map_id (splitB _ _ _ _)]
 exact List.map_congr_left fun x _=>(Zeh x).symm
theorem ZnV {b:UInt8} {s:ByteArray} (hs:s.size<=4294967280):Zci s ⟨#[b]⟩=some (splB b s):=by
 unfold Zci;rw [if_pos ⟨by omega,Nat.le_refl _⟩,Zyu]
open Go Go.Vc Go.Lib
theorem ZpS {b:UInt8} {xs:List ByteArray} (h:xs≠[]) (i:∀ x∈xs,b∉x.data.toList):splB b (joinB xs ⟨#[b]⟩)=xs:=by
 have e:(joinB xs ⟨#[b]⟩).data.toList=join (xs.map (·.data.toList)) [b]:=rfl;unfold splB;rw [e,Zrd (by simpa using h) (fun x j=>by obtain ⟨y,k,rfl⟩:=List.mem_map.1 j;exact i y k),List.map_map]
 conv=>rhs;rw [<-List.map_id xs]
 exact List.map_congr_left fun x _=>Zeh x
theorem ZEw (b:UInt8) (s:ByteArray):(splB b s).length<=s.size+1:=by
 unfold splB;rw [List.length_map,<-Zhg];exact Zuo b _
theorem ZA4 {b:UInt8} {s x:ByteArray} (h:x∈splB b s):x.size<=s.size:=by
 obtain ⟨l,hl,rfl⟩:=List.mem_map.1 h;rw [Znx,<-Zhg];exact Zsu b _ l hl
noncomputable def nmsL (s:ByteArray):List Int:=(splB 44 s).map fun p=>(numOf p).1
noncomputable def lst (s:ByteArray):List Int×Bool:=if s=⟨#[45]⟩ then ([],true) else if tL (nmsL s)=s then (nmsL s,true) else ([],false)
theorem ZpX {n:Int} (h:InR n):numOf (itoaB n)=(n,true):=ZsN (by have:=h.1;have:=h.2;omega) rfl
theorem dg_no {c:UInt8} {l:List UInt8} (i:¬ Dg c) (j:c≠45) (n:Int):c∉(itoaB n).data.toList:=by
 rw [ZfS];intro h;unfold itoa at h;split at h
 ·rcases List.mem_cons.1 h with h|h
  ·exact j h
  ·exact i (Zgd _ c h)
 ·exact i (Zgd _ c h)
theorem ZiD {a b:ByteArray} (h:¬ a=b):(a.toList==b.toList)=false:=by
 cases i:(a.toList==b.toList) with
 | false=>rfl
 | true=>exact absurd ((Zbr _ _).1 i) h
theorem ZvM {s:ByteArray} (hs:s.size<=1000000000):ZiK s=some (lst s):=by
 unfold ZiK lst;by_cases h:s=⟨#[45]⟩
 ·have:=(Zbr s ⟨#[45]⟩).2 h;rw [if_pos h];simp (disch:=omega) only [pz,this]
 ·have o:=ZiD h;have a3:=ZnV (b:=44) (s:=s) ω;have hl:=ZEw 44 s;rw [if_neg h];have l:=ZG (B:=Ze7 s (splB 44 s)) (fun k:Int=>(((splB 44 s).take k.toNat).map fun p=>(numOf p).1,k)) (i:=0) (n:=(splB 44 s).length) ω fun k a b=>by
   have hm:=Zj a b;have u:=Zvy (ix (splB 44 s) k) (by have:=ZA4 hm;omega);have a4:(((splB 44 s).take k.toNat).map fun p=>(numOf p).1).length<=1000000001:=by rw [List.length_map,List.length_take];omega
   rw [ZmV a b];have hg:gApp 8 (((splB 44 s).take k.toNat).map fun p=>(numOf p).1) [(numOf (ix (splB 44 s) k)).1]=some (((splB 44 s).take k.toNat).map (fun p=>(numOf p).1)++[(numOf (ix (splB 44 s) k)).1]):=gApp1 ω ω;simp (disch:=omega) only [pz,Ze7,u,hg]
  rw [Int.toNat_natCast,List.take_length] at l;have x:loop (Ze7 s (splB 44 s)) ([],0)=some (if tL (nmsL s)=s then (nmsL s,true) else ([],false)):=by
   refine Eq.trans l (Ze ?_);have ht:=Zoh (nmsL s);unfold nmsL at ht ⊢;by_cases j:tL ((splB 44 s).map fun p=>(numOf p).1)=s
   ·have:=(Zbr _ _).2 j;rw [if_pos j];simp (disch:=omega) only [pz,Ze7,ht,this]
   ·have:=ZiD j;rw [if_neg j];simp (disch:=omega) only [pz,Ze7,ht,this]
  simp (disch:=omega) only [pz,o,a3,x]
open Go Go.Vc Go.Lib
theorem ZrY {o:Zf} (hs:Sz2 o.Rows) (h:Zae o=some true):(o.Rows.length:Int)<=720:=by
 refine Classical.byContradiction fun l=>?_;have l:720<(o.Rows.length:Int):=ω;have e:Zf.mk o.Kind o.Size o.Rows=o:=rfl;have hN:=hs.1;have hf:Zae o=some false:=by
  unfold Zae;by_cases h1:o.Kind=1
  ·have q:=(ZiT hs).ne fun v=>by have:=v.n2;omega
   by_cases hl:(o.Rows.length:Int)=o.Size
   ·simp (disch:=omega) only [pz,q,Z3]
   ·simp (disch:=omega) only [pz,q,Z3]
  by_cases h2:o.Kind=2
  ·have q:=(ZdL (d:=⟨o.Size,o.Rows⟩) hs).ne fun v=>by have:(o.Rows.length:Int)<=128:=v.len;omega
   simp (disch:=omega) only [pz,e,ZaW,Zan hs,q]
  by_cases h3:o.Kind=3
  ·have q:=(Zjg hs).ne fun v=>by have:=v.n2;omega
   by_cases hl:(o.Rows.length:Int)=o.Size
   ·simp (disch:=omega) only [pz,q,Z3]
   ·simp (disch:=omega) only [pz,q,Z3]
  by_cases h4:o.Kind=4
  ·have q:=(Zpy (a:=⟨o.Size,(ix o.Rows 0).length,o.Rows⟩) hs).ne fun v=>by have:(o.Rows.length:Int)<=256:=v.len;omega
   simp (disch:=omega) only [pz,e,Zf1,ZZ,Zan hs,q]
  by_cases h5:o.Kind=5
  ·obtain ⟨cs,ci,b,u,j,k,i⟩:=ZmT hs;have hr:ci.Rows=o.Rows:=by
    have g:=j;unfold Zdw at g;rw [Zan hs] at g;cases hm:ZbM o.Size with
    | none=>rw [hm] at g;cases g
    | some r=>rw [hm] at g;rw [<-Option.some.inj g]
   have x:b=false:=by
    cases b with
    | false=>rfl
    | true=>
     exfalso;unfold ZcL at i;cases hm:Zfn (Zb.mk ci.Field.Prime ci.Field.Degree ci.Field.Poly) ci.Rows with
     | none=>rw [hm] at i;cases i
     | some c=>
      rw [hm] at i;cases c with
      | false=>cases i
      | true=>
       have y:decide ((ci.Rows.length:Int)>8)=true:=by rw [hr];simp;omega
       simp only [Option.bind_some,Bool.not_true,cond_false] at i;rw [y] at i;cases i
   rw [x] at i;simp (disch:=omega) only [pz,e,j,i]
  by_cases h6:o.Kind=6
  ·obtain ⟨r,u,j,_,k⟩:=ZpL hs;have hr:r.2=false:=by
    cases hc:r.2 with
    | false=>rfl
    | true=>have:=(k hc).1;omega
   simp (disch:=omega) only [pz,e,j,hr]
  by_cases h7:o.Kind=7
  ·have q:=(Zpc (g:=⟨o.Size,o.Rows⟩) hs).ne fun v=>by have:(o.Rows.length:Int)<=720:=v.1.l1;omega
   simp (disch:=omega) only [pz,e,Zga,Zan hs,q]
  ·simp (disch:=omega) only [pz,]
 rw [hf] at h;cases h
theorem ZqQ {c:UInt8} {s:List UInt8}:∀ {xs:List (List UInt8)},c∈join xs s->c∈s\/∃ x∈xs,c∈x
 | [],h=>by cases h
 | [x],h=>.inr ⟨x,List.mem_singleton_self x,by rwa [join_one] at h⟩
 | x::y::r,h=>by
  rw [Zq8] at h;rcases List.mem_append.1 h with h|h
  ·rcases List.mem_append.1 h with h|h
   ·exact .inr ⟨x,List.mem_cons_self ..,h⟩
   ·exact .inl h
  ·rcases ZqQ h with h|⟨z,hz,h⟩
   ·exact .inl h
   ·exact .inr ⟨z,List.mem_cons_of_mem _ hz,h⟩
theorem Zni {c:UInt8} {s:ByteArray} {xs:List ByteArray} (h1:c∉s.data.toList) (i:∀ x∈xs,c∉x.data.toList):c∉(joinB xs s).data.toList:=by
 intro h;have h:c∈join (xs.map (·.data.toList)) s.data.toList:=h;rcases ZqQ h with h|⟨x,j,h⟩
 ·exact h1 h
 ·obtain ⟨y,k,rfl⟩:=List.mem_map.1 j;exact i y k h
theorem tL_no {c:UInt8} (h1:¬ Dg c) (i:c≠45) (k:c≠44) (xs:List Int):c∉(tL xs).data.toList:=by
 by_cases j:xs=[]
 ·rw [tL_n j];intro h;exact i (List.mem_singleton.1 h)
 ·by_cases h:xs.length<=100/\∀ x∈xs,InR x
  ·rw [tL_t h j];refine Zni (fun h=>k (List.mem_singleton.1 h)) fun x o=>?_;obtain ⟨n,_,rfl⟩:=List.mem_map.1 o;exact dg_no (l:=[]) h1 i n
  ·rw [tL_f h];intro h;cases h
theorem tR_no (rows:List (List Int)):32∉(tR rows).data.toList:=by
 unfold tR;split
 ·decide
 ·refine Zni (by decide) fun x i=>?_;obtain ⟨r,_,rfl⟩:=List.mem_map.1 i;exact tL_no (by unfold Dg;decide) (by decide) (by decide) r
theorem ZEb (a b c t:ByteArray):joinB [a,b,c] t=(((a++t)++b)++t)++c:=by
 have h1:=Zs2 (l:=[a,b]) (by simp) c t;have i:=Zs2 (l:=[a]) (by simp) b t;have h1:joinB [a,b,c] t=joinB [a,b] t++t++c:=h1;have i:joinB [a,b] t=joinB [a] t++t++b:=i;rw [h1,i,ZFW]
theorem ZAc {s:ByteArray} (h:32∉s.data.toList) (n:Int) (rows:List (List Int)):splB 32 ((((s++⟨#[32]⟩)++itoaB n)++⟨#[32]⟩)++tR rows)=[s,itoaB n,tR rows]:=by
 rw [<-ZEb];refine ZpS (by simp) fun x i=>?_;simp only [List.mem_cons,List.not_mem_nil,or_false] at i;rcases i with rfl|rfl|rfl
 ·exact h
 ·exact dg_no (l:=[]) (by unfold Dg;decide) (by decide) n
 ·exact tR_no rows
open Go Go.Vc Go.Lib
def RowsT (rows:List (List Int)):Prop:=∀ b∈rows,(b.length:Int)<=100/\∀ x∈b,InR x
theorem rowsT {rows:List (List Int)} (h:∀ i,0<=i->i<(rows.length:Int)->((ix rows i).length:Int)<=100/\∀ k,0<=k->k<((ix rows i).length:Int)->-64<=ix (ix rows i) k/\ix (ix rows i) k<=64):RowsT rows:=fun b j=>by
 obtain ⟨i,l,o,rfl⟩:=ZL j;obtain ⟨h1,u⟩:=h i l o;refine ⟨h1,fun x y=>?_⟩;obtain ⟨k,k0,k1,rfl⟩:=ZL y;have:=u k k0 k1;exact ⟨by omega,by omega⟩
theorem ZvD {p:List Int} (h:IsP p) {k:Int} (i:0<=k) (k1:k<(p.length:Int)):0<=ix p k/\ix p k<(p.length:Int):=h.2.rng _ (Zj i k1)
theorem Zrx {b:List Int} {m:Int} (h:Rising b 0 m):∀ n:Nat,(n:Int)<(b.length:Int)->(n:Int)<=ix b n
 | 0,h1=>by have:=(h 0 ω h1).1;exact this.1
 | n+1,h1=>by
  have a:=Zrx h n ω;have c:=(h ((n+1:Nat):Int) ω h1).2 ω;rw [show (((n+1:Nat):Int)-1)=(n:Int) by omega] at c;omega
theorem ZDu {b:List Int} {m:Int} (h:Rising b 0 m) (hm:0<=m):(b.length:Int)<=m+1:=by
 by_cases e:b.length=0
 ·omega
 ·have a:=Zrx h (b.length-1) ω;have c:=(h ((b.length-1:Nat):Int) ω ω).1.2;omega
theorem ZsA {o:Zf} (hs:Sz2 o.Rows) (h:Zae o=some true):(-64<=o.Size/\o.Size<=64)/\RowsT o.Rows:=by
 refine Classical.byContradiction fun y=>?_;have e:Zf.mk o.Kind o.Size o.Rows=o:=rfl;have hN:=hs.1;have hf:Zae o=some false:=by
  unfold Zae;by_cases h1:o.Kind=1
  ·by_cases hl:(o.Rows.length:Int)=o.Size
   ·have q:=(ZiT hs).ne fun v=>y ⟨by have:=v.n1;have:=v.n2;omega,rowsT fun i j u=>by
     have r:=v.row _ (Zj j u);have:=v.n2;exact ⟨by omega,fun k x k1=>by have:=ZvD r.2 x k1;omega⟩⟩
    simp (disch:=omega) only [pz,q,Z3]
   ·obtain ⟨c,q,_⟩:=ZiT hs;simp (disch:=omega) only [pz,q,Z3]
  by_cases h2:o.Kind=2
  ·have q:=(ZdL (d:=⟨o.Size,o.Rows⟩) hs).ne fun v=>y ⟨by have:=v.p1;have:=v.p2;dsimp only at *;omega,rowsT fun i j u=>by
    have r:=v.blk i j u;have p2:=v.p2;have p1:=v.p1;dsimp only at r p1 p2;have:=ZDu r.2 ω;exact ⟨by omega,fun k x k1=>by have:=(r.2 k x k1).1;omega⟩⟩
   simp (disch:=omega) only [pz,e,ZaW,Zan hs,q]
  by_cases h3:o.Kind=3
  ·by_cases hl:(o.Rows.length:Int)=o.Size
   ·have q:=(Zjg hs).ne fun v=>y ⟨by have:=v.n1;have:=v.n2;omega,rowsT fun i j u=>by
     have r:=v.row i j u;have:=v.n2;exact ⟨by omega,fun k x k1=>by have:=r.2 k x k1;omega⟩⟩
    simp (disch:=omega) only [pz,q,Z3]
   ·obtain ⟨c,q,_⟩:=Zjg hs;simp (disch:=omega) only [pz,q,Z3]
  by_cases h4:o.Kind=4
  ·have q:=(Zpy (a:=⟨o.Size,(ix o.Rows 0).length,o.Rows⟩) hs).ne fun v=>y ⟨by have:=v.l1;have:=v.l2;dsimp only at *;omega,rowsT fun i j u=>by
    have r:=v.row i j u;have l2:=v.l2;have c2:=v.c2;dsimp only at r l2 c2;exact ⟨by omega,fun k x k1=>by have:=r.2 k x k1;omega⟩⟩
   by_cases hl:0<(o.Rows.length:Int)
   ·simp (disch:=omega) only [pz,e,Zf1,ZZ,Zan hs,q]
   ·simp (disch:=omega) only [pz,e]
  by_cases h5:o.Kind=5
  ·unfold Zdw;rw [Zan hs];rcases Znh o.Size with ⟨f,hm⟩|⟨h1,e3,h2⟩
   ·obtain ⟨inv,hF⟩:=Zph hm.gf;have hq:=hF.q2;have a2:=hF.q64;have q:=(Zmp hm hq a2 hs).ne fun v=>y ⟨by omega,rowsT fun i j u=>by
     have r:=v.row i j u;have:=v.w2;exact ⟨by omega,fun k x k1=>by have:=r.2 k x k1;omega⟩⟩
    have e4:Zb.mk f.Prime f.Degree f.Poly=f:=rfl;rw [hm.mki];unfold ZcL;simp (disch:=omega) only [pz,e,e4,q]
   ·rw [h2];simp (disch:=omega) only [pz,e];rfl
  by_cases h6:o.Kind=6
  ·obtain ⟨r,g1,g2,_,g3⟩:=ZpL hs;have hr:r.2=false:=by
    cases hc:r.2 with
    | false=>rfl
    | true=>
     obtain ⟨_,z,g⟩:=g3 hc;exact absurd ⟨by omega,rowsT fun i j u=>by
      obtain ⟨l,a,b⟩:=g i j u;refine ⟨by omega,fun k x k1=>?_⟩;have:k=0\/k=1:=ω;rcases this with rfl|rfl<;>omega⟩ y
   simp (disch:=omega) only [pz,e,g2,hr]
  by_cases h7:o.Kind=7
  ·have q:=(Zpc (g:=⟨o.Size,o.Rows⟩) hs).ne fun v=>y ⟨by have:=v.1.n0;have:=v.1.n1;dsimp only at *;omega,rowsT fun i j u=>by
    have r:=v.1.prm _ (Zj j u);have n1:=v.1.n1;dsimp only at r n1;exact ⟨by omega,fun k x k1=>by have:=ZvD r.2 x k1;omega⟩⟩
   simp (disch:=omega) only [pz,e,Zga,Zan hs,q]
  ·simp (disch:=omega) only [pz,]
 rw [hf] at h;cases h
theorem ZC5 {k:Int} (h1:1<=k) (u:k<=7):∃ s,ZdU k=some s/\Zd3 s=some (k,true)/\s.size<=10/\32∉s.data.toList:=by
 obtain ⟨x,n1,hl,hs⟩:∃ x:List ByteArray,ZiI=some x/\(x.length:Int)=7/\(x.Nodup/\∀ s∈x,s.size<=10/\32∉s.data.toList):=⟨_,rfl,rfl,by decide⟩
 have w:ε.wrap (k-1)=k-1:=Zbd ω ω;have hw:Z6 k 1 7=some true:=by simp (disch:=omega) only [pz,Z6]
 have hi:ZiV k=some true:=by simp (disch:=omega) only [pz,ZiV,hw]
 refine ⟨ix x (k-1),?_,?_,hs.2 _ (Zj ω ω)⟩
 ·unfold ZdU;rw [hi,w];simp (disch:=omega) only [pz,n1]
 ·unfold Zd3 ZoJ;have up:=ZG (B:=ZfY x (ix x (k-1))) (fun k:Int=>k) (i:=0) (n:=k-1) ω fun j a b=>by
   have hq:=ZiD (a:=ix x (k-1)) (b:=ix x j) fun h=>by
    have:=(List.getElem?_inj (i:=(k-1).toNat) (j:=j.toNat) ω hs.1).1 (by rw [ZY ω ω,ZY ω ω,h]);omega
   simp (disch:=omega) only [pz,ZfY,hq]
  have l:=(Zbr (ix x (k-1)) (ix x (k-1))).2 rfl;have o:loop (ZfY x (ix x (k-1))) 0=some (k-1):=up.trans (Ze (by simp (disch:=omega) only [pz,ZfY,l]));rw [n1];simp (disch:=omega) only [pz,o];rw [show k-1+1=k by omega]
theorem Zqo {o:Zf} (hz:Sz2 o.Rows) (hv:Zae o=some true):∃ s:ByteArray,ZdU o.Kind=some s/\Zd3 s=some (o.Kind,true)/\32∉s.data.toList/\s.size<=10/\ZdY o=some ((((s++⟨#[32]⟩)++itoaB o.Size)++⟨#[32]⟩)++tR o.Rows):=by
 obtain ⟨k1,k7⟩:=ZvU hv;obtain ⟨s,u,nn,n4,n5⟩:=ZC5 k1 k7;obtain ⟨hs,hT⟩:=ZsA hz hv;have h:=ZrY hz hv;have d2:=ZfI (n:=o.Size) ω ω;have dz:=ZoO (n:=o.Size) 18 ω ω;have ac:(⟨#[32]⟩:ByteArray).size=1:=rfl;have f1:gFit s ⟨#[32]⟩=some ():=gFitW ω;have f2:gFit (s++⟨#[32]⟩) (itoaB o.Size)=some ():=gFitW (by rw [Zbn];omega);have f3:gFit ((s++⟨#[32]⟩)++itoaB o.Size) ⟨#[32]⟩=some ():=gFitW (by rw [Zbn,Zbn];omega);have hz:=ZyO (rows:=o.Rows) ω;have hp:(((s++⟨#[32]⟩)++itoaB o.Size)++⟨#[32]⟩).size<=100:=by rw [Zbn,Zbn,Zbn];omega
 have f4:gFit (((s++⟨#[32]⟩)++itoaB o.Size)++⟨#[32]⟩) (tR o.Rows)=some ():=gFitW ω;have k1:ZgK o (tR o.Rows)=some ((((s++⟨#[32]⟩)++itoaB o.Size)++⟨#[32]⟩)++tR o.Rows):=by
  unfold ZgK;simp (disch:=omega) only [pz,u,d2,f1,f2,f3,f4]
 have e:Zf.mk o.Kind o.Size o.Rows=o:=rfl;refine ⟨s,u,nn,n5,n4,?_⟩;unfold ZdY;by_cases j:o.Rows=[]
 ·have er:tR o.Rows=⟨#[110,111,110,101]⟩:=by unfold tR;rw [if_pos j]
  rw [er] at k1 ⊢;have x:(o.Rows.length:Int)=0:=by rw [j];rfl
  simp (disch:=omega) only [pz,e,hv,k1]
 ·have x:0<(o.Rows.length:Int):=by
   have:o.Rows.length≠0:=fun h0=>j (List.eq_nil_of_length_eq_zero h0);omega
  have er:tR o.Rows=joinB (o.Rows.map tL) ⟨#[47]⟩:=by unfold tR;rw [if_neg j]
  have y:=ZG (B:=Zfa o) (fun k:Int=>((o.Rows.take k.toNat).map tL,k)) (i:=0) (n:=o.Rows.length) ω fun k a b=>by
   have a3:=Zoh (ix o.Rows k);have ad:((o.Rows.take k.toNat).map tL).length<=1048576:=by rw [List.length_map,List.length_take];omega
   rw [ZmV a b];have hg:gApp 16 ((o.Rows.take k.toNat).map tL) [tL (ix o.Rows k)]=some ((o.Rows.take k.toNat).map tL++[tL (ix o.Rows k)]):=gApp1 ω ω;simp (disch:=omega) only [pz,Zfa,a3,hg]
  rw [Int.toNat_natCast,List.take_length] at y;have hq:=ZnU (l:=o.Rows.map tL) (s:=⟨#[47]⟩) (by rw [List.length_map];omega) (by rw [<-er];omega);rw [er] at k1;have e2:loop (Zfa o) ([],0)=some ((((s++⟨#[32]⟩)++itoaB o.Size)++⟨#[32]⟩)++joinB (o.Rows.map tL) ⟨#[47]⟩):=by
   refine Eq.trans y (Ze ?_);simp (disch:=omega) only [pz,Zfa,hq,k1]
  rw [er];simp (disch:=omega) only [pz,e,hv,e2]
theorem ZBJ {b:List Int} (j:(b.length:Int)<=100/\∀ x∈b,InR x):(lst (tL b)).1=b:=by
 by_cases i:b=[]
 ·rw [tL_n i,i];unfold lst;rw [if_pos rfl]
 ·have hT:=tL_t ⟨by omega,j.2⟩ i;have hs:splB 44 (tL b)=b.map itoaB:=by
   rw [hT];refine ZpS (by simpa using i) fun x k=>?_;obtain ⟨n,_,rfl⟩:=List.mem_map.1 k;exact dg_no (l:=[]) (by unfold Dg;decide) (by decide) n
  have u:nmsL (tL b)=b:=by
   unfold nmsL;rw [hs,List.map_map]
   conv=>rhs;rw [<-List.map_id b]
   refine List.map_congr_left fun x k=>?_;show (numOf (itoaB x)).1=x;rw [ZpX (j.2 x k)]
  unfold lst;rw [if_neg fun h=>?_,if_pos (by rw [u])]
  ·exact u
  ·cases b with
   | nil=>exact i rfl
   | cons x r=>
    rw [h,List.map_cons] at hs;have h1:splB 44 ⟨#[45]⟩=[bl [45]]:=rfl;rw [h1] at hs;have o:=ZpX (j.2 x (List.mem_cons_self ..));rw [<-(List.cons.inj hs).1,Zp0 (s:=bl [45]) (.inl (by show 0<1;omega))] at o;cases o
theorem ZEn {rows:List (List Int)} (h:(rows.length:Int)<=720):(tR rows).size<=1000000:=by
 unfold tR;split
 ·show 4<=_;omega
 ·have:=jsize (xs:=rows) (f:=tL) (s:=⟨#[47]⟩) (m:=1100) (N:=720) (fun x _=>ZjY x) ω rows.length;rw [List.take_length] at this;exact Nat.le_trans this (by decide)
theorem ZAF {o:Zf} (hz:Sz2 o.Rows) (hv:Zae o=some true) {t:ByteArray} (ht:ZdY o=some t):Zko t=some (o,true):=by
 obtain ⟨s,n1,n2,n3,n4,l⟩:=Zqo hz hv;obtain ⟨hs,hT⟩:=ZsA hz hv;have hr:=ZrY hz hv;have et:t=(((s++⟨#[32]⟩)++itoaB o.Size)++⟨#[32]⟩)++tR o.Rows:=Option.some.inj (ht.symm.trans l);have am:=ZEn hr;have dz:=ZoO (n:=o.Size) 18 ω ω;have a9:(⟨#[32]⟩:ByteArray).size=1:=rfl;have al:t.size<=1000100:=by rw [et];simp only [Zbn];omega
 have a4:Zci t ⟨#[32]⟩=some [s,itoaB o.Size,tR o.Rows]:=by
  rw [ZnV (b:=32) ω,et,ZAc n3]
 have k1:∀ b,Zf7 t (o.Kind,true) (o.Size,b) o.Rows=some (o,true):=by
  intro b;unfold Zf7;have e:Zf.mk o.Kind o.Size o.Rows=o:=rfl;have hq:=(Zbr t t).2 rfl;simp (disch:=omega) only [pz,e,hv,ht,hq]
 have a2:Zeq (itoaB o.Size)=some (o.Size,true):=by
  rw [Zvy _ ω,ZpX ⟨by omega,by omega⟩]
 have y:ix [s,itoaB o.Size,tR o.Rows] 0=s:=rfl;have g1:ix [s,itoaB o.Size,tR o.Rows] 1=itoaB o.Size:=rfl;have g2:ix [s,itoaB o.Size,tR o.Rows] 2=tR o.Rows:=rfl;have l3:(([s,itoaB o.Size,tR o.Rows]:List ByteArray).length:Int)=3:=rfl;unfold Zko;by_cases u:o.Rows=[]
 ·have er:tR o.Rows=⟨#[110,111,110,101]⟩:=by unfold tR;rw [if_pos u]
  have hq:=(Zbr (tR o.Rows) ⟨#[110,111,110,101]⟩).2 er;have k1:=k1 true;rw [u] at k1;simp (disch:=omega) only [pz,a4,l3,y,g1,g2,n2,a2,hq,k1]
 ·have er:tR o.Rows=joinB (o.Rows.map tL) ⟨#[47]⟩:=by unfold tR;rw [if_neg u]
  have a8:splB 47 (tR o.Rows)=o.Rows.map tL:=by
   rw [er];refine ZpS (by simpa using u) fun x j=>?_;obtain ⟨r,_,rfl⟩:=List.mem_map.1 j;exact tL_no (by unfold Dg;decide) (by decide) (by decide) r
  have ae:¬ tR o.Rows=⟨#[110,111,110,101]⟩:=by
   intro h;have k:(110:UInt8)∉(tR o.Rows).data.toList:=by
    rw [er];refine Zni (by decide) fun x j=>?_;obtain ⟨r,_,rfl⟩:=List.mem_map.1 j;exact tL_no (by unfold Dg;decide) (by decide) (by decide) r
   rw [h] at k;exact k (by decide)
  have hq:=ZiD ae;have a5:Zci (tR o.Rows) ⟨#[47]⟩=some (o.Rows.map tL):=by rw [ZnV (b:=47) ω,a8]
  have hl:((o.Rows.map tL).length:Int)=o.Rows.length:=by rw [List.length_map]
  have l:=ZG (B:=Zf2 t (o.Kind,true) (o.Size,true) (o.Rows.map tL)) (fun m:Int=>(m,o.Rows.take m.toNat)) (i:=0) (n:=o.Rows.length) ω fun m a b=>by
   have j:ix (o.Rows.map tL) m=tL (ix o.Rows m):=ZaX a b;have hb:=hT _ (Zj a b);have af:=ZvM (s:=tL (ix o.Rows m)) (by have:=ZjY (ix o.Rows m);omega);have a6:=ZBJ hb;have ao:(o.Rows.take m.toNat).length<=720:=by rw [List.length_take];omega
   have hg:gApp 24 (o.Rows.take m.toNat) [ix o.Rows m]=some (o.Rows.take m.toNat++[ix o.Rows m]):=gApp1 ω ω;rw [ZaC a b];simp (disch:=omega) only [pz,Zf2,j,af,a6,hg]
  rw [Int.toNat_natCast,List.take_length] at l;have e2:loop (Zf2 t (o.Kind,true) (o.Size,true) (o.Rows.map tL)) (0,[])=some (o,true):=by
   refine Eq.trans l (Ze ?_);have k1:=k1 true;simp (disch:=omega) only [pz,Zf2,k1]
  simp (disch:=omega) only [pz,a4,l3,y,g1,g2,n2,a2,hq,a5,e2]
def bipR (v m:Int) (rel:Int->Int->Bool) (x:Int):List Zd:=((idP m).filter fun i=>rel x i).map fun i=>⟨x,v+i⟩
def bipK (v m:Int) (rel:Int->Int->Bool) (k:Int):List Zd:=(idP k).flatMap (bipR v m rel)
theorem Ze5 {v m k:Int} {rel:Int->Int->Bool} {e:Zd}:e∈bipK v m rel k↔(0<=e.A/\e.A<k)/\∃ i,(0<=i/\i<m)/\rel e.A i=true/\e.B=v+i:=by
 unfold bipK bipR;rw [List.mem_flatMap];constructor
 ·rintro ⟨a,u,he⟩;obtain ⟨i,hi,rfl⟩:=List.mem_map.1 he;rw [List.mem_filter] at hi;exact ⟨Zap.1 u,i,Zap.1 hi.1,hi.2,rfl⟩
 ·rintro ⟨h1,i,j,l,o⟩;refine ⟨e.A,Zap.2 h1,List.mem_map.2 ⟨i,List.mem_filter.2 ⟨Zap.2 j,l⟩,?_⟩⟩;cases e;simp only [Zd.mk.injEq,true_and];exact o.symm
theorem Zei (v m k:Int) (rel:Int->Int->Bool):(bipK v m rel k).Pairwise eLess:=by
 unfold bipK;rw [List.pairwise_flatMap];refine ⟨fun a o=>?_,(ZmR k).imp fun {a b} j x i y l=>?_⟩
 ·unfold bipR;rw [List.pairwise_map];exact ((ZmR m).filter _).imp fun h=>.inr ⟨rfl,by show v+_<v+_;omega⟩
 ·unfold bipR at i l;obtain ⟨_,_,rfl⟩:=List.mem_map.1 i;obtain ⟨_,_,rfl⟩:=List.mem_map.1 l;exact .inl j
theorem pw_nd {l:List Zd} (h:l.Pairwise eLess):l.Nodup:=h.imp fun {a b} h e=>by subst e;unfold eLess at h;omega
def setE (v:Int) (sets:List (List Int)) (k:Int):List Zd:=(idP k).flatMap fun i=>(ix sets i).map fun x=>⟨x,v+i⟩
theorem ZtK {v k:Int} {sets:List (List Int)} (h:0<=k):setE v sets (k+1)=setE v sets k++(ix sets k).map fun x=>⟨x,v+k⟩:=by
 unfold setE idP;rw [Zcy h,List.flatMap_append];simp
structure Sts (v:Int) (sets:List (List Int)):Prop where
 v0:0<=v
 v1:v<=64
 m:(sets.length:Int)<=4096
 len:∀ s∈sets,s.length<=64
 nd:∀ s∈sets,s.Nodup
 rng:∀ s∈sets,∀ x∈s,0<=x/\x<v
section
variable {v:Int} {sets:List (List Int)} (h:Sts v sets)
include h
theorem Zrk {e:Zd}:e∈setE v sets sets.length↔∃ i,(0<=i/\i<(sets.length:Int))/\e.A∈ix sets i/\e.B=v+i:=by
 have _:=h;unfold setE;rw [List.mem_flatMap];constructor
 ·rintro ⟨i,hi,he⟩;obtain ⟨x,j,rfl⟩:=List.mem_map.1 he;exact ⟨i,Zap.1 hi,j,rfl⟩
 ·rintro ⟨i,hi,j,k⟩;refine ⟨i,Zap.2 hi,List.mem_map.2 ⟨e.A,j,?_⟩⟩;cases e;simp only [Zd.mk.injEq,true_and];exact k.symm
theorem Zvr {e:Zd}:e∈setE v sets sets.length↔e∈bipK v sets.length (fun x i=>decide (x∈ix sets i)) v:=by
 rw [Zrk h,Ze5];constructor
 ·rintro ⟨i,hi,j,k⟩;have:=h.rng _ (Zj hi.1 hi.2) _ j;exact ⟨this,i,hi,by simpa using j,k⟩
 ·rintro ⟨_,i,hi,j,k⟩;exact ⟨i,hi,by simpa using j,k⟩
theorem Zyt:srtE ((setE v sets sets.length).map mkE)=bipK v sets.length (fun x i=>decide (x∈ix sets i)) v:=by
 refine (Zif (Zei _ _ _ _) fun z=>?_).symm;have hm:∀ e∈setE v sets sets.length,mkE e=e:=fun e he=>by
  obtain ⟨i,hi,j,k⟩:=(Zrk h).1 he;have:=h.rng _ (Zj hi.1 hi.2) _ j;unfold mkE;cases e;simp only [Zd.mk.injEq];dsimp only at k this;omega
 rw [List.mem_map,<-Zvr h];constructor
 ·intro hz;exact ⟨z,hz,hm z hz⟩
 ·rintro ⟨e,he,rfl⟩;rw [hm e he];exact he
theorem ZvP:(setE v sets sets.length).length=(bipK v sets.length (fun x i=>decide (x∈ix sets i)) v).length:=by
 refine List.Perm.length_eq ((List.perm_ext_iff_of_nodup ?_ (pw_nd (Zei _ _ _ _))).2 fun e=>Zvr h);unfold setE List.Nodup;rw [List.pairwise_flatMap];refine ⟨fun i hi=>?_,(ZmR _).imp fun {a b} k x j y l e=>?_⟩
 ·have hi:=Zap.1 hi;rw [List.pairwise_map];refine (h.nd _ (Zj hi.1 hi.2)).imp fun {a b} k e=>k ?_;simp only [Zd.mk.injEq] at e;exact e.1
 ·obtain ⟨_,_,rfl⟩:=List.mem_map.1 j;obtain ⟨_,_,rfl⟩:=List.mem_map.1 l;simp only [Zd.mk.injEq] at e;omega
end
def cols (z o:Int):List Int:=tabl (z+o) fun i=>if i<z then 0 else 1
theorem ZvI {z o:Int}:(cols z o).length=(z+o).toNat:=ZA
theorem ZAO {z o:Int} (u:0<=z) (x:0<=o) (h:z+o<=1000000):Zib z o=some (cols z o):=by
 unfold Zib;have a2:gMake 8 (0:Int) (ε.wrap (z+o)) (ε.wrap (z+o))=some (tabl (z+o) fun i=>if z<=i/\i<z then 1 else 0):=by
  rw [wr64 ω ω,ZaF ω ω ω];congr 1;refine Zar (by rw [List.length_replicate,ZA]) fun i j l=>?_;rw [List.length_replicate] at l;rw [Za0 j ω,ZJ j ω,if_neg ω]
 rw [a2,Option.bind_some];have h1:=ZG (B:=Zkq z o) (fun k=>(k,tabl (z+o) fun i=>if z<=i/\i<k then (1:Int) else 0)) (i:=z) (n:=z+o) ω fun k y k1=>by
  have hs:(tabl (z+o) fun i=>if z<=i/\i<k then (1:Int) else 0).set k.toNat 1=tabl (z+o) fun i=>if z<=i/\i<k+1 then (1:Int) else 0:=by
   refine Zav ω k1 (fun i j l hi=>?_) ?_
   ·by_cases c:z<=i/\i<k
    ·rw [if_pos c,if_pos ω]
    ·rw [if_neg c,if_neg ω]
   ·rw [if_pos ω]
  have hX:(tabl (z+o) fun i=>if z<=i/\i<k then (1:Int) else 0).length=(z+o).toNat:=ZA;generalize (tabl (z+o) fun i=>if z<=i/\i<k then (1:Int) else 0)=X at hs hX ⊢;simp (disch:=omega) only [pz,Zkq,hs]
 rw [h1];have e:(tabl (z+o) fun i=>if z<=i/\i<z+o then (1:Int) else 0)=cols z o:=Z2 fun i j l=>by
  by_cases c:i<z
  ·rw [if_pos c,if_neg ω]
  ·rw [if_neg c,if_pos ω]
 rw [e];exact Ze (by simp (disch:=omega) only [pz,Zkq])
def nilG:Zc:=⟨[],[]⟩
theorem Zw7 {cs:List Int} {es:List Zd} (h:es.length<=1000000):Zg0 cs es=some (if (cs.length:Int)>64 then (nilG,5) else if (es.length:Int)>512 then (nilG,5) else (⟨cs,srtE (es.map mkE)⟩,0)):=by
 unfold Zg0 Zof;have hs:=ZrK h;by_cases c:(cs.length:Int)>64
 ·rw [if_pos c];simp (disch:=omega) only [pz,];rfl
 ·by_cases d:(es.length:Int)>512
  ·rw [if_neg c,if_pos d];simp (disch:=omega) only [pz,];rfl
  ·rw [if_neg c,if_neg d];simp (disch:=omega) only [pz,hs]
def bipG (v m:Int) (rel:Int->Int->Bool):Zc×Int:=if v+m>64 then (nilG,5) else if ((bipK v m rel v).length:Int)>512 then (nilG,5) else (⟨cols v m,bipK v m rel v⟩,0)
theorem Zq7 {v:Int} {sets:List (List Int)} (h:Sts v sets):Ze8 v sets=some (bipG v sets.length fun x i=>decide (x∈ix sets i)):=by
 unfold Ze8;have y:=h.v0;have ab:=h.v1;have hm:=h.m;obtain ⟨⟨a2,j⟩,⟨h1,h2,h3⟩,h4⟩:=Zr8 (B:=Zjz v sets) (fun k q=>q.2=k/\q.1=setE v sets k/\(q.1.length:Int)<=64*k) (i:=0) (n:=sets.length) ω (s:=(([]:List Zd),(0:Int))) ⟨rfl,rfl,by simp⟩ fun k q l k1 ⟨g1,u,g3⟩=>by
  obtain ⟨a2,j⟩:=q;dsimp only at g1 u g3;subst g1;have ak:=h.len _ (Zj l k1);have a8:=ZG (B:=Ze9 v j (ix sets j)) (fun i=>(a2++((ix sets j).take i.toNat).map (fun x=>Zd.mk x (v+j)),i)) (i:=0) (n:=(ix sets j).length) ω fun i i0 i1=>by
   have hl:(a2++((ix sets j).take i.toNat).map (fun x=>Zd.mk x (v+j))).length<=1000000:=by rw [List.length_append,List.length_map,List.length_take];omega
   have a6:((ix sets j).take (i+1).toNat).map (fun x=>Zd.mk x (v+j))=_:=ZfW i0 i1;rw [a6,<-List.append_assoc];generalize a2++((ix sets j).take i.toNat).map (fun x=>Zd.mk x (v+j))=X at hl ⊢;simp (disch:=omega) only [pz,Ze9]
  have e0:(a2,(0:Int))=(fun i:Int=>(a2++((ix sets j).take i.toNat).map (fun x=>Zd.mk x (v+j)),i)) 0:=by simp
  have a4:loop (Ze9 v j (ix sets j)) (a2,0)=some (.inl (setE v sets (j+1),j+1)):=by
   rw [e0,a8];refine Ze ?_;rw [Int.toNat_natCast,List.take_length,ZtK l,<-u];simp (disch:=omega) only [pz,Ze9]
  refine ⟨(setE v sets (j+1),j+1),by simp (disch:=omega) only [pz,Zjz,a4],rfl,rfl,?_⟩;dsimp only;rw [ZtK l,<-u,List.length_append,List.length_map];omega
 dsimp only at h1 h2 h3;rw [h4];subst h1;have a5:=ZAO (z:=v) (o:=sets.length) y ω ω;have a3:=Zw7 (cs:=cols v sets.length) (es:=a2) ω;have aa:=ZvI (z:=v) (o:=sets.length);have ac:=ZvP h;have hr:(if ((cols v sets.length).length:Int)>64 then (nilG,(5:Int)) else if (a2.length:Int)>512 then (nilG,5) else (⟨cols v sets.length,srtE (a2.map mkE)⟩,0))=bipG v sets.length fun x i=>decide (x∈ix sets i):=by
  unfold bipG;rw [aa,h2,ac,Zyt h];by_cases c:v+(sets.length:Int)>64
  ·rw [if_pos c,if_pos ω]
  ·rw [if_neg c,if_neg ω]
 rw [hr] at a3;refine Ze ?_;unfold Zjz;dsimp only;have e9:∀ r:Zc×Int,(Zc.mk r.1.Colors r.1.Edges,r.2)=r:=fun r=>rfl;simp (disch:=omega) only [pz,Z3,a5,a3,e9]
def nds (near:List (List Int)):Nat->List Int->Nat
 | 0,_=>0
 | d+1,c=>if tgt c<0 then 0 else ((vts c (tgt c)).map fun v=>1+nds near d (refN near (sgl c v))).sum
def fms (g:Zc) (near:List (List Int)):Nat->List Int->List Zc
 | 0,_=>[]
 | d+1,c=>if tgt c<0 then [relab g c] else (vts c (tgt c)).flatMap fun v=>fms g near d (refN near (sgl c v))
def Least (f:Zc) (L:List Zc):Prop:=f∈L/\∀ h∈L,cmpG f h<=0
def BestOf (s:CSt) (L:List Zc):Prop:=(s.perms=[]/\L=[])\/(s.perms≠[]/\Least s.best L)
theorem ZlD (g h:Zc):cmpG h g=-cmpG g h:=by
 have h1:=Za6 g.Colors h.Colors;have i:=Za6 (flatE g.Edges) (flatE h.Edges);unfold cmpG;split<;>split<;>omega
theorem ZmY (g:Zc):cmpG g g=0:=by have:=ZlD g g;omega
theorem ZxW {f g h:Zc} (a:cmpG f g<0) (b:cmpG g h<=0):cmpG f h<0:=by
 unfold cmpG at *;have i:=Zaw f.Colors g.Colors;have j:=Zaw g.Colors h.Colors;have k:=Zaw (flatE g.Edges) (flatE h.Edges);have l:=Zba f.Colors g.Colors h.Colors;have o:=Zba (flatE f.Edges) (flatE g.Edges) (flatE h.Edges);by_cases c1:cmpL f.Colors g.Colors=0
 ·rw [if_pos c1] at a;rw [i.1 c1];by_cases c2:cmpL g.Colors h.Colors=0
  ·rw [if_pos c2] at b ⊢;by_cases u:cmpL (flatE g.Edges) (flatE h.Edges)=0
   ·rw [<-k.1 u];exact a
   ·exact o a ω
  ·rw [if_neg c2] at b ⊢;omega
 ·rw [if_neg c1] at a;by_cases c2:cmpL g.Colors h.Colors=0
  ·rw [<-j.1 c2,if_neg c1];exact a
  ·rw [if_neg c2] at b;have:=l a ω;rw [if_neg ω];exact this
theorem Least.leaf {g:Zc} {c:List Int} {s:CSt} {L:List Zc} (h:BestOf s L):BestOf (leafM g c s) (L++[relab g c]):=by
 unfold leafM;rcases h with ⟨h1,rfl⟩|⟨h1,k,j⟩
 ·right;dsimp only;rw [if_pos h1];refine ⟨by simp,?_⟩;rw [if_pos ω];exact ⟨by simp,fun h l=>by simp at l;rw [l,ZmY];omega⟩
 ·right;dsimp only;rw [if_neg h1];by_cases i:cmpG (relab g c) s.best<0
  ·rw [if_pos i,if_pos i];refine ⟨by simp,by simp,fun h l=>?_⟩;rcases List.mem_append.1 l with l|l
   ·have:=ZxW i (j h l);omega
   ·simp at l;rw [l,ZmY];omega
  ·rw [if_neg i,if_neg i];refine ⟨by by_cases e:cmpG (relab g c) s.best=0<;>simp [e,h1],List.mem_append_left _ k,fun h l=>?_⟩;rcases List.mem_append.1 l with l|l
   ·exact j h l
   ·simp at l;rw [l];have:=ZlD (relab g c) s.best;omega
theorem ZhJ {g:Zc} {near:List (List Int)} (B:Int):∀ (d:Nat) (c:List Int) (s:CSt) (L:List Zc),Cel near.length c->near.length<d+cnt c->s.nodes<=B ->
  (s.full=true->(srch g near B d c s).full=true) /\
  (s.full=false->s.nodes+nds near d c<=B->BestOf s L->(srch g near B d c s).full=false/\(srch g near B d c s).nodes=s.nodes+nds near d c/\BestOf (srch g near B d c s) (L++fms g near d c)) /\
  (s.full=false->B<s.nodes+nds near d c->(srch g near B d c s).full=true)
 | 0,c,s,L,l,hd,hB=>by have:=ZeV c;have:=l.len;omega
 | d+1,c,s,L,l,hd,hB=>by
  rw [Zk7,nds,fms];by_cases ht:tgt c<0
  ·rw [if_pos ht,if_pos ht,if_pos ht];refine ⟨fun h=>h,fun h i j=>⟨h,by show s.nodes=_;omega,Least.leaf j⟩,fun h i=>by omega⟩
  ·rw [if_neg ht,if_neg ht,if_neg ht];have a2:∀ (vs:List Int) (s:CSt),s.full=true->(vs.foldl (stepM g near B d c) s).full=true:=by
    intro vs;induction vs with
    | nil=>intro s h;exact h
    | cons v vs ih=>intro s h;rw [List.foldl_cons];exact ih _ (by unfold stepM;rw [if_pos h];exact h)
   have ac:∀ (vs:List Int) (s:CSt) (L:List Zc),(∀ v∈vs,v∈vts c (tgt c))->s.full=false->s.nodes<=B ->
     (s.nodes+((vs.map fun v=>1+nds near d (refN near (sgl c v))).sum:Nat)<=B->BestOf s L->(vs.foldl (stepM g near B d c) s).full=false/\(vs.foldl (stepM g near B d c) s).nodes=s.nodes+((vs.map fun v=>1+nds near d (refN near (sgl c v))).sum:Nat)/\BestOf (vs.foldl (stepM g near B d c) s) (L++vs.flatMap fun v=>fms g near d (refN near (sgl c v)))) /\
     (B<s.nodes+((vs.map fun v=>1+nds near d (refN near (sgl c v))).sum:Nat)->(vs.foldl (stepM g near B d c) s).full=true):=by
    intro vs;induction vs with
    | nil=>intro s L _ hf hB;exact ⟨fun _ j=>⟨hf,by simp,by simpa using j⟩,fun h=>by simp at h;omega⟩
    | cons v vs ih=>
     intro s L hm hf hB;have ag:=l.more (near:=near) ht (hm v (List.mem_cons_self ..));have a5:Cel near.length (refN near (sgl c v)):=Cel.ref (by rw [Zdt,l.len]);rw [List.foldl_cons,List.map_cons,List.sum_cons,List.flatMap_cons];by_cases j:s.nodes=B
     ·have a7:stepM g near B d c s v={ s with full:=true }:=by unfold stepM;rw [if_neg (by rw [hf];simp),if_pos j]
      rw [a7];exact ⟨fun h _=>by omega,fun _=>a2 vs _ rfl⟩
     ·have a7:stepM g near B d c s v=srch g near B d (refN near (sgl c v)) { s with nodes:=s.nodes+1 }:=by unfold stepM;rw [if_neg (by rw [hf];simp),if_neg j]
      rw [a7];obtain ⟨_,y,r3⟩:=ZhJ (g:=g) B d (refN near (sgl c v)) { s with nodes:=s.nodes+1 } L a5 ω (by show s.nodes+1<=B;omega);by_cases a6:s.nodes+1+nds near d (refN near (sgl c v))<=B
      ·constructor
       ·intro i ae;obtain ⟨k,q2,o⟩:=y hf a6 ae;have q2:_=s.nodes+1+_:=q2;obtain ⟨i1,_⟩:=ih _ (L++fms g near d (refN near (sgl c v))) (fun u hu=>hm u (List.mem_cons_of_mem _ hu)) k ω;obtain ⟨k1,k2,k3⟩:=i1 ω o;exact ⟨k1,by omega,by rw [<-List.append_assoc];exact k3⟩
       ·intro i
        -- whatever list of forms: only counts matter
        have aj:=y hf a6;by_cases hp:s.perms=[]
        ·obtain ⟨_,a8,_⟩:=ZhJ (g:=g) B d (refN near (sgl c v)) { s with nodes:=s.nodes+1 } [] a5 ω (by show s.nodes+1<=B;omega);obtain ⟨k,q2,o⟩:=a8 hf a6 (.inl ⟨hp,rfl⟩);have q2:_=s.nodes+1+_:=q2;obtain ⟨_,x⟩:=ih _ [] (fun u hu=>hm u (List.mem_cons_of_mem _ hu)) k ω;exact x ω
        ·obtain ⟨_,a8,_⟩:=ZhJ (g:=g) B d (refN near (sgl c v)) { s with nodes:=s.nodes+1 } [s.best] a5 ω (by show s.nodes+1<=B;omega);obtain ⟨k,q2,o⟩:=a8 hf a6 (.inr ⟨hp,by simp,fun h hh=>by simp at hh;rw [hh,ZmY];omega⟩);have q2:_=s.nodes+1+_:=q2;obtain ⟨_,x⟩:=ih _ [] (fun u hu=>hm u (List.mem_cons_of_mem _ hu)) k ω;exact x ω
      ·have af:=r3 hf (by show B<s.nodes+1+_;omega);exact ⟨fun i _=>by omega,fun _=>a2 vs _ af⟩
   refine ⟨fun h=>a2 _ _ h,fun h i j=>?_,fun h i=>?_⟩
   ·exact (ac _ s L (fun v hv=>hv) h hB).1 i j
   ·exact (ac _ s L (fun v hv=>hv) h hB).2 i
def act (q c:List Int):List Int:=tabl q.length fun i=>ix c (q.idxOf i:Int)
theorem Za4 (q c:List Int):(act q c).length=q.length:=by unfold act;rw [ZA];omega
section
variable {q:List Int} {n:Nat} (hq:Vc.Perm q n)
include hq
theorem ZbG {c:List Int} {v:Int} (i:0<=v) (h1:v<(n:Int)):ix (act q c) (ix q v)=ix c v:=by
 have hl:=hq.len;have hr:=hq.rng _ (Zj (xs:=q) i ω);unfold act;rw [ZJ hr.1 ω,ZtP hq.nd i ω]
theorem Zcn {i:Int} (j:0<=i) (h1:i<(n:Int)):0<=(q.idxOf i:Int)/\(q.idxOf i:Int)<(n:Int)/\ix q (q.idxOf i:Int)=i:=by
 have hl:=hq.len;obtain ⟨a,b⟩:=Zds (Ze1 hq j h1);exact ⟨by omega,by omega,b⟩
theorem ZuW {c e:List Int} (he:e.length=n) (h:∀ v:Int,0<=v->v<(n:Int)->ix e (ix q v)=ix c v):e=act q c:=by
 have hl:=hq.len;refine Zar (by rw [Za4];omega) fun i l o=>?_;obtain ⟨a,b,j⟩:=Zcn hq l ω;have:=h _ a b;rw [j] at this;rw [this];have k:=ZbG hq (c:=c) a b;rw [j] at k;exact k.symm
theorem Zj8 {c:List Int} (hc:c.length=n):(act q c).Perm c:=by
 have hl:=hq.len;have h1:act q c=(tabl q.length fun i=>(q.idxOf i:Int)).map fun j=>ix c j:=by
  refine Zar (by rw [Za4,List.length_map,ZA];omega) fun i k l=>?_;rw [Za4] at l;rw [ZaX k (by rw [ZA];omega),ZJ k ω];unfold act;rw [ZJ k ω]
 have h2:c=(idP (n:Int)).map fun j=>ix c j:=by
  refine Zar (by rw [List.length_map,Zaf];omega) fun i k l=>?_;rw [ZaX k (by rw [Zaf];omega),ZcU k ω]
 have h3:(tabl q.length fun i=>(q.idxOf i:Int)).Perm (idP (n:Int)):=by
  refine ZgM ?_ (fun x hx=>?_) (by rw [ZA,Zaf];omega)
  ·unfold List.Nodup;rw [List.pairwise_iff_getElem];intro i j hi hj a6 he;rw [ZA] at hi hj;have o:ix (tabl q.length fun i=>(q.idxOf i:Int)) (i:Int)=_:=ZJ ω ω;have u:ix (tabl q.length fun i=>(q.idxOf i:Int)) (j:Int)=_:=ZJ ω ω;rw [ZX (List.getElem?_eq_getElem (by rw [ZA];omega))] at o u;rw [o,u] at he;have a:=(Zcn hq (i:=(i:Int)) ω ω).2.2;have b:=(Zcn hq (i:=(j:Int)) ω ω).2.2;rw [he,b] at a;omega
  ·obtain ⟨i,k,l,rfl⟩:=ZL hx;rw [ZA] at l;rw [ZJ k ω];obtain ⟨a,b,_⟩:=Zcn hq k ω;exact Zap.2 ⟨a,b⟩
 have y:=h3.map fun j=>ix c j;rw [<-h2,<-h1] at y;exact y
theorem Zqj {c:List Int} (i:c.length=n):dis (act q c)=dis c:=ZsB (ZgI _) fun z=>by rw [ZbS,(Zj8 hq i).mem_iff]
theorem ZsS {c:List Int} (i:c.length=n):cnt (act q c)=cnt c:=by unfold cnt;rw [Zqj hq i]
theorem ZAD {c:List Int} (i:c.length=n):tgt (act q c)=tgt c:=by
 unfold tgt;rw [Zqj hq i];congr 2;funext t;rw [(Zj8 hq i).count_eq]
theorem ZzP {c:List Int} (u:c.length=n) (t:Int):(vts (act q c) t).Perm ((vts c t).map fun v=>ix q v):=by
 have hl:=hq.len;rw [List.perm_ext_iff_of_nodup]
 ·intro x;rw [Zb3,List.mem_map,Za4];constructor
  ·rintro ⟨⟨i,y⟩,j⟩;obtain ⟨a,b,e⟩:=Zcn hq i ω;refine ⟨_,Zb3.2 ⟨⟨a,by omega⟩,?_⟩,e⟩;have:=ZbG hq (c:=c) a b;rw [e,j] at this;exact this.symm
  ·rintro ⟨v,hv,rfl⟩;obtain ⟨⟨a,b⟩,e⟩:=Zb3.1 hv;have:=hq.rng _ (Zj (xs:=q) a ω);exact ⟨⟨this.1,by omega⟩,by rw [ZbG hq a ω,e]⟩
 ·exact (Zcg _).filter _
 ·have k:(vts c t).Nodup:=(Zcg _).filter _;unfold List.Nodup at *;rw [List.pairwise_map];refine k.imp_of_mem fun {a b} ha l a2 h=>a2 ?_;obtain ⟨⟨a0,a1⟩,_⟩:=Zb3.1 ha;obtain ⟨⟨o,b1⟩,_⟩:=Zb3.1 l;exact ZbE hq.nd a0 ω o ω h
theorem ZAh {c:List Int} (j:c.length=n) {v:Int} (i:0<=v) (h1:v<(n:Int)):sgl (act q c) (ix q v)=act q (sgl c v):=by
 have hl:=hq.len;refine ZuW hq (by rw [Zdt,Za4];omega) fun w w0 w1=>?_;have hr:=hq.rng _ (Zj (xs:=q) w0 ω);rw [Zgy hr.1 (by rw [Za4];omega),ZbG hq w0 w1,Zgy w0 ω];by_cases e:w=v
 ·rw [e,if_pos rfl,if_pos rfl]
 ·rw [if_neg e,if_neg fun h=>e (ZbE hq.nd w0 ω i ω h)]
end
section
variable {g:Zc} {q:List Int} (hg:ValidG g) (hq:Vc.Perm q g.Colors.length)
include hg hq
theorem Zqw {a b:Int} (a0:0<=a) (a1:a<(g.Colors.length:Int)) (k:0<=b) (l:b<(g.Colors.length:Int)):adj (relab g q).Edges (ix q a) (ix q b)=adj g.Edges a b:=by
 have hl:=hq.len;rw [Bool.eq_iff_iff,Zmy,Zmy];constructor
 ·rintro ⟨e,he,h⟩;obtain ⟨d,i,rfl⟩:=List.mem_map.1 (Zdg.1 he);have hv:=Zb0 hg i;refine ⟨d,i,?_⟩;have a2:∀ x y:Int,0<=x->x<(g.Colors.length:Int)->0<=y->y<(g.Colors.length:Int)->ix q x=ix q y->x=y:=fun x y o u y0 y1 h=>ZbE hq.nd o ω y0 ω h;have h:(min (ix q d.A) (ix q d.B)=ix q a/\max (ix q d.A) (ix q d.B)=ix q b)\/(min (ix q d.A) (ix q d.B)=ix q b/\max (ix q d.A) (ix q d.B)=ix q a):=h;have:(ix q d.A=ix q a/\ix q d.B=ix q b)\/(ix q d.A=ix q b/\ix q d.B=ix q a):=ω;rcases this with ⟨h1,j⟩|⟨h1,j⟩
  ·exact .inl ⟨a2 _ _ ω ω a0 a1 h1,a2 _ _ ω ω k l j⟩
  ·exact .inr ⟨a2 _ _ ω ω k l h1,a2 _ _ ω ω a0 a1 j⟩
 ·rintro ⟨d,i,h⟩;refine ⟨mapE q d,Zdg.2 (List.mem_map_of_mem i),?_⟩;show (min (ix q d.A) (ix q d.B)=ix q a/\max (ix q d.A) (ix q d.B)=ix q b)\/(min (ix q d.A) (ix q d.B)=ix q b/\max (ix q d.A) (ix q d.B)=ix q a);rcases h with ⟨rfl,rfl⟩|⟨rfl,rfl⟩<;>omega
theorem Zfk:(relab g q).Colors.length=g.Colors.length:=by
 have _:=hg;have:=hq.len;show (colM g q).length=_;rw [ZgH];omega
theorem ZBG {a:Int} (a0:0<=a) (a1:a<(g.Colors.length:Int)):(ix (nearM (relab g q)) (ix q a)).Perm ((ix (nearM g) a).map fun w=>ix q w):=by
 have hl:=hq.len;have o:=Zfk hg hq;have hr:=hq.rng _ (Zj (xs:=q) a0 ω);rw [List.perm_ext_iff_of_nodup]
 ·intro x;rw [Zdq hr.1 ω,List.mem_map,o];constructor
  ·rintro ⟨⟨i,u⟩,j⟩;obtain ⟨k,l,e⟩:=Zcn hq i ω;refine ⟨_,(Zdq a0 a1).2 ⟨⟨k,l⟩,?_⟩,e⟩;rw [<-Zqw hg hq a0 a1 k l,e];exact j
  ·rintro ⟨w,hw,rfl⟩;obtain ⟨⟨w0,w1⟩,e⟩:=(Zdq a0 a1).1 hw;have:=hq.rng _ (Zj (xs:=q) w0 ω);exact ⟨⟨this.1,by omega⟩,by rw [Zqw hg hq a0 a1 w0 w1];exact e⟩
 ·rw [ZiH hr.1 ω];exact (Zcg _).filter _
 ·have a2:(ix (nearM g) a).Nodup:=by rw [ZiH a0 a1];exact (Zcg _).filter _
  unfold List.Nodup at *;rw [List.pairwise_map];refine a2.imp_of_mem fun {x y} j hy a3 h=>a3 ?_;obtain ⟨⟨i,u⟩,_⟩:=(Zdq a0 a1).1 j;obtain ⟨⟨y0,y1⟩,_⟩:=(Zdq a0 a1).1 hy;exact ZbE hq.nd i ω y0 ω h
theorem ZoC {c:List Int} {v:Int} (i:0<=v) (h1:v<(g.Colors.length:Int)):keyAt (nearM (relab g q)) (act q c) (ix q v)=keyAt (nearM g) c v:=by
 unfold keyAt;rw [ZbG hq i h1];congr 1;have hp:=(ZBG hg hq i h1).map fun w=>ix (act q c) w;rw [List.map_map] at hp;have e:(ix (nearM g) v).map ((fun w=>ix (act q c) w) ∘ fun w=>ix q w)=(ix (nearM g) v).map fun w=>ix c w:=by
  refine List.map_congr_left fun w j=>?_;obtain ⟨⟨w0,w1⟩,_⟩:=(Zdq i h1).1 j;exact ZbG hq w0 w1
 rw [e] at hp;exact Zi7 (((ZaV _).trans hp).trans (ZaV _).symm) (ZdV _) (ZdV _)
theorem Zyk {c:List Int}:kindsOf (rkeys (nearM (relab g q)) (act q c))=kindsOf (rkeys (nearM g) c):=by
 have hl:=hq.len;have l:=Zfk hg hq;have u:=Za3 g;have o:=Za3 (relab g q);refine Zta (ZlB _) fun z=>?_;rw [ZeO];constructor
 ·intro h;obtain ⟨i,j,k,rfl⟩:=ZL h;rw [ZbO] at k;obtain ⟨a,b,e⟩:=Zcn hq j ω;rw [ZcX j k,<-e,ZoC hg hq a b,<-ZcX a ω];exact Zj a (by rw [ZbO];omega)
 ·intro h;obtain ⟨i,j,k,rfl⟩:=ZL h;rw [ZbO] at k;have hr:=hq.rng _ (Zj (xs:=q) (i:=i) j ω);rw [ZcX j k,<-ZoC hg hq j ω,<-ZcX hr.1 ω];exact Zj hr.1 (by rw [ZbO];omega)
theorem ZAq (c:List Int):rnd (nearM (relab g q)) (act q c)=act q (rnd (nearM g) c):=by
 have hl:=hq.len;have i:=Zfk hg hq;have k:=Za3 g;have j:=Za3 (relab g q);refine ZuW hq (by rw [Zdv];omega) fun v v0 v1=>?_;have hr:=hq.rng _ (Zj (xs:=q) v0 ω);rw [ZfP hr.1 ω,ZfP v0 ω,Zyk hg hq,ZoC hg hq v0 v1]
theorem Zr4:∀ (f:Nat) (c:List Int),c.length=g.Colors.length->refM (nearM (relab g q)) f (act q c)=act q (refM (nearM g) f c)
 | 0,c,i=>rfl
 | f+1,c,i=>by
  have hr:(rnd (nearM g) c).length=g.Colors.length:=by rw [Zdv,Za3]
  rw [refM,refM,ZAq hg hq,ZsS hq hr,ZsS hq i];split
  ·rfl
  ·exact Zr4 f _ hr
theorem Zr0 {c:List Int} (i:c.length=g.Colors.length):refN (nearM (relab g q)) (act q c)=act q (refN (nearM g) c):=by
 unfold refN;rw [Za3,Za3,Zfk hg hq];exact Zr4 hg hq _ c i
theorem ZwF {p:List Int} (hp:Vc.Perm p g.Colors.length):relab (relab g q) (act q p)=relab g p:=by
 have hl:=hq.len;have a8:=hp.len;have o:colM (relab g q) (act q p)=colM g p:=by
  refine Zar (by rw [ZgH,ZgH,Za4];omega) fun i k u=>?_;rw [ZgH,Za4] at u;have a3:Vc.Perm (act q p) g.Colors.length:=⟨by rw [Za4];omega,fun x y=>hp.rng x ((Zj8 hq ω).mem_iff.1 y),(Zj8 hq ω).nodup_iff.2 hp.nd⟩
  unfold colM;rw [ZJ k (by rw [Za4];omega),ZJ k ω];obtain ⟨a,b,e⟩:=Zcn hp k ω;obtain ⟨a',b',e'⟩:=Zcn a3 k ω
  -- the place in act q p is q of the place in p
  have hr:=hq.rng _ (Zj (xs:=q) a ω);have l:=ZbG hq (c:=p) a b;have h3:((act q p).idxOf i:Int)=ix q (p.idxOf i:Int):=ZbE a3.nd a' (by rw [Za4];omega) hr.1 (by rw [Za4];omega) (by rw [e',l,e]);rw [h3];exact ZbG hq (c:=g.Colors) a b
 have e2:srtE ((relab g q).Edges.map (mapE (act q p)))=srtE (g.Edges.map (mapE p)):=by
  refine Zif (Zl3 _) fun z=>?_;rw [Zdg,List.mem_map,List.mem_map];have a2:∀ d∈g.Edges,mapE (act q p) (mapE q d)=mapE p d:=fun d j=>by
   have hv:=Zb0 hg j;have h1:=ZbG hq (c:=p) (v:=d.A) ω ω;have l:=ZbG hq (c:=p) (v:=d.B) ω ω;unfold mapE;dsimp only;rcases Int.le_total (ix q d.A) (ix q d.B) with h|h
   ·rw [Int.min_eq_left h,Int.max_eq_right h,h1,l]
   ·rw [Int.min_eq_right h,Int.max_eq_left h,h1,l,Int.min_comm,Int.max_comm]
  constructor
  ·rintro ⟨e,he,rfl⟩;obtain ⟨d,j,rfl⟩:=List.mem_map.1 (Zdg.1 he);exact ⟨d,j,(a2 d j).symm⟩
  ·rintro ⟨d,j,rfl⟩;exact ⟨mapE q d,Zdg.2 (List.mem_map_of_mem j),a2 d j⟩
 unfold relab at *;rw [o,e2]
theorem ZuC:∀ (d:Nat) (c:List Int),Cel g.Colors.length c->g.Colors.length<d+cnt c->nds (nearM (relab g q)) d (act q c)=nds (nearM g) d c/\∀ f,f∈fms (relab g q) (nearM (relab g q)) d (act q c)↔f∈fms g (nearM g) d c
 | 0,c,i,j=>by have:=ZeV c;have:=i.len;omega
 | d+1,c,i,j=>by
  have hN:=Za3 g;have hl:=hq.len;rw [nds,nds,fms,fms,ZAD hq i.len];by_cases l:tgt c<0
  ·rw [if_pos l,if_pos l,if_pos l,if_pos l];have a4:c.Nodup:=by
    rcases ZdD (cells:=c) (fun x k=>(i.rng x k).1) with ⟨_,h⟩|⟨h,_⟩
    ·exact h
    ·omega
   rw [ZwF hg hq (i.perm a4)];exact ⟨rfl,fun f=>Iff.rfl⟩
  ·rw [if_neg l,if_neg l,if_neg l,if_neg l];have hp:=ZzP hq i.len (tgt c);have step:∀ v∈vts c (tgt c),nds (nearM (relab g q)) d (refN (nearM (relab g q)) (sgl (act q c) (ix q v)))=nds (nearM g) d (refN (nearM g) (sgl c v))/\∀ f,f∈fms (relab g q) (nearM (relab g q)) d (refN (nearM (relab g q)) (sgl (act q c) (ix q v)))↔f∈fms g (nearM g) d (refN (nearM g) (sgl c v)):=by
    intro v hv;obtain ⟨⟨v0,v1⟩,_⟩:=Zb3.1 hv;have u:(sgl c v).length=g.Colors.length:=by rw [Zdt,i.len]
    have a5:=Cel.more (near:=nearM g) (cells:=c) (by rw [hN];exact i) l hv;rw [ZAh hq i.len v0 (by have:=i.len;omega),Zr0 hg hq u];have o:=Cel.ref (near:=nearM g) (cells:=sgl c v) (by rw [u,hN]);rw [hN] at o;exact ZuC d _ o ω
   constructor
   ·rw [(hp.map _).sum_nat,List.map_map];congr 1;refine List.map_congr_left fun v hv=>?_;show 1+_=1+_;rw [(step v hv).1]
   ·intro f;rw [List.mem_flatMap,List.mem_flatMap];constructor
    ·rintro ⟨w,hw,hf⟩;obtain ⟨v,hv,rfl⟩:=List.mem_map.1 (hp.mem_iff.1 hw);exact ⟨v,hv,((step v hv).2 f).1 hf⟩
    ·rintro ⟨v,hv,hf⟩;exact ⟨ix q v,hp.mem_iff.2 (List.mem_map_of_mem hv),((step v hv).2 f).2 hf⟩
end
theorem ZGB {f h:Zc} (hf:∀ e∈f.Edges,True) (h1:cmpG f h<=0) (o:cmpG h f<=0):f=h:=by
 have u:=ZlD f h;have i:cmpG f h=0:=ω;unfold cmpG at i;have k:cmpL f.Colors h.Colors=0:=by
  by_cases c:cmpL f.Colors h.Colors=0
  ·exact c
  ·rw [if_neg c] at i;exact absurd i c
 rw [if_pos k] at i;have e1:=(Zaw _ _).1 k;have l:=(Zaw _ _).1 i;have a2:∀ (a b:List Zd),flatE a=flatE b->a=b:=by
  intro a;induction a with
  | nil=>
   intro b j;cases b with
   | nil=>rfl
   | cons y b=>simp [flatE] at j
  | cons x a ih=>
   intro b j;cases b with
   | nil=>simp [flatE] at j
   | cons y b=>
    simp only [flatE,List.flatMap_cons,List.cons_append,List.nil_append,List.cons.injEq] at j;obtain ⟨hA,hB,hr⟩:=j;rw [ih b hr];cases x;cases y;simp_all
 have e3:=a2 _ _ l;cases f;cases h;simp_all
theorem ZFl {α:Type} [Inhabited α] {xs ys:List α} (h:xs.Perm ys):∃ s:List Int,Vc.Perm s xs.length/\∀ i,0<=i->i<(xs.length:Int)->ix ys (ix s i)=ix xs i:=by
 induction h with
 | nil=>exact ⟨[],⟨rfl,by simp,List.nodup_nil⟩,fun i a b=>by simp at b;omega⟩
 | @cons x l1 l2 h ih=>
  obtain ⟨s,⟨h1,o,h3⟩,h4⟩:=ih;refine ⟨0::s.map (·+1),⟨by simp;omega,fun z hz=>?_,?_⟩,fun i k j=>?_⟩
  ·rw [List.length_cons];rcases List.mem_cons.1 hz with rfl|hz
   ·omega
   ·obtain ⟨y,hy,rfl⟩:=List.mem_map.1 hz;have:=o y hy;omega
  ·refine List.nodup_cons.2 ⟨fun hm=>?_,?_⟩
   ·obtain ⟨y,hy,e⟩:=List.mem_map.1 hm;have:=o y hy;omega
   ·unfold List.Nodup;rw [List.pairwise_map];exact h3.imp fun {a b} a4=>by omega
  ·rw [List.length_cons] at j;by_cases e:i=0
   ·subst e;rw [ZgF,ZgF,ZgF]
   ·have hr:=o _ (Zj (xs:=s) (i:=i-1) ω ω);rw [Zax (x:=(0:Int)) ω,ZaX ω ω,Zax (x:=x) (xs:=l1) ω,Zax (x:=x) ω,<-h4 (i-1) ω ω];congr 1;omega
 | swap x y l=>
  refine ⟨1::0::(idP l.length).map (·+2),⟨by simp [Zaf],fun z hz=>?_,?_⟩,fun i k j=>?_⟩
  ·rw [List.length_cons,List.length_cons];rcases List.mem_cons.1 hz with rfl|hz
   ·omega
   rcases List.mem_cons.1 hz with rfl|hz
   ·omega
   ·obtain ⟨y,hy,rfl⟩:=List.mem_map.1 hz;have:=Zap.1 hy;omega
  ·refine List.nodup_cons.2 ⟨fun hm=>?_,List.nodup_cons.2 ⟨fun hm=>?_,?_⟩⟩
   ·rcases List.mem_cons.1 hm with h|hm
    ·cases h
    obtain ⟨y,hy,e⟩:=List.mem_map.1 hm;have:=Zap.1 hy;omega
   ·obtain ⟨y,hy,e⟩:=List.mem_map.1 hm;have:=Zap.1 hy;omega
   ·unfold List.Nodup;rw [List.pairwise_map];exact (Zcg _).imp fun {a b} a4=>by omega
  ·rw [List.length_cons,List.length_cons] at j;by_cases e:i=0
   ·subst e;rfl
   by_cases e:i=1
   ·subst e;rfl
   ·have hl:((idP (l.length:Int)).length:Int)=l.length:=by rw [Zaf];omega
    rw [Zax (x:=(1:Int)) ω,Zax (x:=(0:Int)) ω,ZaX ω ω,Zax (x:=y) (xs:=x::l) ω,Zax (x:=x) (xs:=l) ω];rw [show ix (idP (l.length:Int)) (i-1-1)=i-1-1 from ZJ ω ω];rw [Zax (x:=x) ω,Zax (x:=y) ω];congr 1;omega
 | @trans l1 l2 l3 h1 o j i2=>
  obtain ⟨s,a1,a2⟩:=j;obtain ⟨t,u,b2⟩:=i2;have hl:=h1.length_eq;refine ⟨s.map fun i=>ix t i,⟨by rw [List.length_map];exact a1.len,fun z hz=>?_,?_⟩,fun i k j=>?_⟩
  ·obtain ⟨y,hy,rfl⟩:=List.mem_map.1 hz;have hy:=a1.rng y hy;have:=u.len;have:=u.rng _ (Zj (xs:=t) (i:=y) ω ω);omega
  ·unfold List.Nodup;rw [List.pairwise_map];refine List.Pairwise.imp_of_mem (fun {a b} ha hb a4 e=>a4 ?_) a1.nd;have ha:=a1.rng a ha;have hb:=a1.rng b hb;have:=u.len;exact ZbE u.nd ω ω ω ω e
  ·have:=a1.len;have hr:=a1.rng _ (Zj (xs:=s) k ω);rw [ZaX k ω,b2 _ ω ω,a2 i k j]
section
variable {v:Int} {sets sets':List (List Int)} {p s:List Int} (h:Sts v sets) (hp:Vc.Perm p v) (hs:Vc.Perm s sets.length)
 (hr:∀ i,0<=i->i<(sets.length:Int)->∀ z,z∈ix sets' (ix s i)↔∃ x∈ix sets i,ix p x=z)
def qOf (v:Int) (p s:List Int):List Int:=p++s.map fun i=>v+i
include hp in
theorem q_pt {x:Int} (i:0<=x) (j:x<v):ix (qOf v p s) x=ix p x:=ZeR i (by have:=hp.len;omega)
include hp hs in
theorem q_set {i:Int} (j:0<=i) (k:i<(sets.length:Int)):ix (qOf v p s) (v+i)=v+ix s i:=by
 have:=hp.len;have:=hs.len;unfold qOf;rw [Zd8 ω,show v+i-(p.length:Int)=i by omega,ZaX j ω]
include hp hs in
theorem Zrc:Vc.Perm (qOf v p s) (v+sets.length):=by
 have h1:=hp.len;have k:=hs.len;refine ⟨by unfold qOf;rw [List.length_append,List.length_map];omega,fun x i=>?_,?_⟩
 ·rcases List.mem_append.1 i with i|i
  ·have:=hp.rng x i;omega
  ·obtain ⟨y,l,rfl⟩:=List.mem_map.1 i;have:=hs.rng y l;omega
 ·refine List.nodup_append.2 ⟨hp.nd,?_,fun a o b j e=>?_⟩
  ·unfold List.Nodup;rw [List.pairwise_map];exact hs.nd.imp fun {a b} u=>by omega
  ·obtain ⟨y,l,rfl⟩:=List.mem_map.1 j;have:=hs.rng y l;have:=hp.rng a o;omega
include h hp hs in
theorem ZjC {e:Zd} (he:e∈bipK v sets.length (fun x i=>decide (x∈ix sets i)) v):∃ i,(0<=i/\i<(sets.length:Int))/\e.A∈ix sets i/\e.B=v+i/\mapE (qOf v p s) e=⟨ix p e.A,v+ix s i⟩:=by
 have _:=h;obtain ⟨⟨a0,a1⟩,i,hi,j,hB⟩:=Ze5.1 he;refine ⟨i,hi,by simpa using j,hB,?_⟩;have h1:=hp.len;have o:=hs.len;have k:=q_pt (s:=s) hp a0 a1;have l:=q_set (sets:=sets) hp hs hi.1 hi.2;have u:=hp.rng _ (Zj (xs:=p) a0 ω);have y:=hs.rng _ (Zj (xs:=s) hi.1 ω);unfold mapE;rw [hB,k,l,Int.min_eq_left ω,Int.max_eq_right ω]
include h hp hs hr in
theorem Zul {z:Zd}:z∈bipK v sets.length (fun x i=>decide (x∈ix sets' i)) v↔z∈(bipK v sets.length (fun x i=>decide (x∈ix sets i)) v).map (mapE (qOf v p s)):=by
 rw [List.mem_map];constructor
 ·intro hz;obtain ⟨⟨a0,a1⟩,j,hj,k,hB⟩:=Ze5.1 hz;have k:z.A∈ix sets' j:=by simpa using k
  obtain ⟨i,l,y,hi⟩:=ZL (Ze1 hs hj.1 hj.2);have u:=hs.len;rw [<-hi] at k;obtain ⟨x,k,e⟩:=(hr i l ω _).1 k;have hv:=h.rng _ (Zj l ω) x k;have o:(⟨x,v+i⟩:Zd)∈bipK v sets.length (fun x i=>decide (x∈ix sets i)) v:=Ze5.2 ⟨hv,i,⟨l,by omega⟩,by simpa using k,rfl⟩;refine ⟨_,o,?_⟩;obtain ⟨i',a7,_,a5,e'⟩:=ZjC h hp hs o;have:i'=i:=by dsimp only at a5;omega
  rw [e',this];cases z;dsimp only at e hB;simp only [Zd.mk.injEq];exact ⟨e,by rw [hi];exact hB.symm⟩
 ·rintro ⟨e,he,rfl⟩;obtain ⟨i,hi,k,hB,e'⟩:=ZjC h hp hs he;have h1:=hp.len;have u:=hs.len;have hv:=h.rng _ (Zj hi.1 hi.2) _ k;rw [e'];refine Ze5.2 ⟨hp.rng _ (Zj (xs:=p) hv.1 ω),ix s i,hs.rng _ (Zj (xs:=s) hi.1 ω),?_,rfl⟩;simp only [decide_eq_true_eq];exact (hr i hi.1 hi.2 _).2 ⟨_,k,rfl⟩
include h hp hs hr in
theorem ZCN:(bipK v sets.length (fun x i=>decide (x∈ix sets' i)) v).length=(bipK v sets.length (fun x i=>decide (x∈ix sets i)) v).length:=by
 have:=List.Perm.length_eq ((List.perm_ext_iff_of_nodup (pw_nd (Zei v sets.length v (fun x i=>decide (x∈ix sets' i)))) ?_).2 fun e=>Zul h hp hs hr)
 ·rw [this,List.length_map]
 ·unfold List.Nodup;rw [List.pairwise_map];refine List.Pairwise.imp_of_mem (fun {a b} ha l a3 e=>a3 ?_) (pw_nd (Zei _ _ _ _));obtain ⟨i,hi,o,hB,u⟩:=ZjC h hp hs ha;obtain ⟨j,hj,hy,hC,y⟩:=ZjC h hp hs l;rw [u,y] at e;simp only [Zd.mk.injEq] at e;have h1:=hp.len;have h2:=hs.len;have hv:=h.rng _ (Zj hi.1 hi.2) _ o;have hw:=h.rng _ (Zj hj.1 hj.2) _ hy;have k:=ZbE hp.nd hv.1 ω hw.1 ω e.1;have q2:=ZbE hs.nd hi.1 ω hj.1 ω (show ix s i=ix s j by omega);cases a;cases b;dsimp only at k hB hC;simp only [Zd.mk.injEq];exact ⟨k,by omega⟩
include h hp hs hr in
theorem ZE5:relab ⟨cols v sets.length,bipK v sets.length (fun x i=>decide (x∈ix sets i)) v⟩ (qOf v p s)=⟨cols v sets.length,bipK v sets.length (fun x i=>decide (x∈ix sets' i)) v⟩:=by
 have hq:=Zrc (sets:=sets) hp hs;have h1:=hp.len;have u:=hs.len;have hl:=hq.len;unfold relab;simp only [Zc.mk.injEq];refine ⟨?_,(Zif (Zei _ _ _ _) fun z=>Zul h hp hs hr).symm⟩;unfold colM;have e:((qOf v p s).length:Int)=v+sets.length:=hl;rw [e];refine Z2 fun i l o=>?_;dsimp only;obtain ⟨a,b⟩:=Zds (Ze1 hq l o);have v0:=h.v0;have k:0<=((qOf v p s).idxOf i:Int):=ω;generalize ((qOf v p s).idxOf i:Int)=j at a b k;unfold cols;rw [ZJ k ω];by_cases c:j<v
 ·have y:=hp.rng _ (Zj (xs:=p) k ω);rw [q_pt hp k c] at b;rw [if_pos c,if_pos ω]
 ·have r2:=hs.rng _ (Zj (xs:=s) (i:=j-v) ω ω);have:=q_set (sets:=sets) hp hs (i:=j-v) ω ω;rw [show v+(j-v)=j by omega,b] at this;rw [if_neg c,if_neg ω]
end
def eT (e:Zd):ByteArray:=itoaB e.A++⟨#[45]⟩++itoaB e.B
noncomputable def gT (g:Zc):ByteArray:=tL g.Colors++⟨#[59]⟩++joinB (g.Edges.map eT) ⟨#[44]⟩
section
variable {g:Zc} (hg:ValidG g)
include hg
theorem Zs1 {k:Int} (i:0<=k) (k1:k<(g.Edges.length:Int)):InR (ix g.Edges k).A/\InR (ix g.Edges k).B:=by
 have:=(hg.edg k i k1).1;have:=hg.cl;unfold InR;omega
theorem Zv0 {k:Int} (i:0<=k) (k1:k<(g.Edges.length:Int)):(eT (ix g.Edges k)).size<=21:=by
 obtain ⟨h1,j⟩:=Zs1 hg i k1;have:=ZeY h1;have:=ZeY j;unfold eT;rw [Zbn,Zbn];show _+1+_<=21;omega
theorem ZBe (i:Nat):(joinB ((g.Edges.take i).map eT) ⟨#[44]⟩).size<=22*512:=by
 refine jsize (xs:=g.Edges) (f:=eT) (s:=⟨#[44]⟩) (m:=21) (N:=512) (fun x j=>?_) (by have:=hg.el;omega) i;obtain ⟨i,a,b,rfl⟩:=ZL j;exact Zv0 hg a b
theorem ZxJ:Zk0 g=some (gT g):=by
 unfold Zk0;have ab:=ZjY g.Colors;have aa:=hg.el;have ac:=hg.cl;have hv:=(ZoL (g:=g) ω ω).eq hg;have o:gFit (tL g.Colors) ⟨#[59]⟩=some ():=gFitW (by show _+1<=_;omega);have hP:(tL g.Colors++(⟨#[59]⟩:ByteArray)).size<=1101:=by rw [Zbn];show _+1<=_;omega
 have hl:=Zoh g.Colors;have hj:=ZBe hg g.Edges.length;rw [List.take_length] at hj;have hq:=ZnU (l:=g.Edges.map eT) (s:=⟨#[44]⟩) (by rw [List.length_map];omega) (Nat.le_trans hj (by decide));have e:loop (ZfR g) ([],0)=some (gT g):=by
  have h:=ZG (B:=ZfR g) (fun k:Int=>((g.Edges.take k.toNat).map eT,k)) (i:=0) (n:=g.Edges.length) ω fun k j k1=>by
   obtain ⟨hA,hB⟩:=Zs1 hg j k1;have dA:=ZfI (n:=(ix g.Edges k).A) (by have:=hA.1;omega) (by have:=hA.2;omega);have dB:=ZfI (n:=(ix g.Edges k).B) (by have:=hB.1;omega) (by have:=hB.2;omega);have zA:=ZeY hA;have zB:=ZeY hB;have u:gFit (itoaB (ix g.Edges k).A) ⟨#[45]⟩=some ():=gFitW (by show _+1<=_;omega);have x:gFit (itoaB (ix g.Edges k).A++⟨#[45]⟩) (itoaB (ix g.Edges k).B)=some ():=gFitW (by rw [Zbn];show _+1+_<=_;omega);have a5:eT (ix g.Edges k)=itoaB (ix g.Edges k).A++⟨#[45]⟩++itoaB (ix g.Edges k).B:=rfl;have a7:((g.Edges.take k.toNat).map eT).length<=512:=by rw [List.length_map,List.length_take];omega
   rw [ZfW j k1,a5];generalize (g.Edges.take k.toNat).map eT=X at a7 ⊢;have a6:gApp 16 X [itoaB (ix g.Edges k).A++⟨#[45]⟩++itoaB (ix g.Edges k).B]=some (X++[itoaB (ix g.Edges k).A++⟨#[45]⟩++itoaB (ix g.Edges k).B]):=gApp1 ω ω;simp (disch:=omega) only [pz,ZfR,dA,dB,u,x,a6]
  refine h.trans (Ze ?_);rw [Int.toNat_natCast,List.take_length];unfold gT;generalize joinB (g.Edges.map eT) ⟨#[44]⟩=J at hj hq ⊢;have y:gFit (tL g.Colors++⟨#[59]⟩) J=some ():=gFitW ω;simp (disch:=omega) only [pz,ZfR,hl,o,hq,y]
 simp (disch:=omega) only [pz,hv,e]
end
theorem ZqI (B:Int):ZgY B=some (decide (1<=B/\B<=20000)):=by
 unfold ZgY;rw [Z1];rfl
def ndG (g:Zc):Nat:=nds (nearM g) (g.Colors.length+1) (refN (nearM g) g.Colors)
def fmG (g:Zc):List Zc:=fms g (nearM g) (g.Colors.length+1) (refN (nearM g) g.Colors)
def sNew:CSt:=⟨⟨[],[]⟩,[],0,0,false⟩
theorem ZjB {g:Zc} (hg:ValidG g) {B:Int} (h1:1<=B) (u:B<=20000):((ndG g:Int)<=B/\∃ f,Least f (fmG g)/\Zb7 g B=some (gT f,0))\/(B<(ndG g:Int)/\Zb7 g B=some (⟨#[]⟩,5)):=by
 have ao:=hg.cl;have am:=hg.el;have a8:=(ZoL (g:=g) ω ω).eq hg;have a6:=ZqI B;rw [decide_eq_true (And.intro h1 u)] at a6;have a5:=ZHj hg;have ad:=Zug hg;have a2:=Za3 g;have a4:=ZuX (near:=nearM g) (c:=g.Colors) ad a2.symm;have hC:=Cel.ref (near:=nearM g) (cells:=g.Colors) a2.symm;have hi:CInv B 0 sNew:=⟨by show (0:Int)<=0+0;omega,by show (0:Int)<=0;omega,by show (0:Int)<=0;omega,by show (0:Int)<=B;omega⟩
 have j:Bst g sNew:=fun h=>absurd rfl h;have hm:(nearM g).length+1<=fuel:=by unfold fuel;omega
 have k:(nearM g).length<(nearM g).length+1+cnt (refN (nearM g) g.Colors):=ω;have ri:=Zvx hg u ((nearM g).length+1) fuel (refN (nearM g) g.Colors) sNew 0 hm hC k ω hi j;obtain ⟨x,a9⟩:=ZoF (g:=g) a2 B ((nearM g).length+1) (refN (nearM g) g.Colors) sNew hC k j;obtain ⟨_,a1,i⟩:=ZhJ (g:=g) B ((nearM g).length+1) (refN (nearM g) g.Colors) sNew [] hC k (by show (0:Int)<=B;omega);have a1:=a1 rfl;have i:=i rfl;have eN:nds (nearM g) ((nearM g).length+1) (refN (nearM g) g.Colors)=ndG g:=by unfold ndG;rw [a2]
 have eF:fms g (nearM g) ((nearM g).length+1) (refN (nearM g) g.Colors)=fmG g:=by unfold fmG;rw [a2]
 rw [eN] at a1 i;rw [eF] at a1;generalize srch g (nearM g) B ((nearM g).length+1) (refN (nearM g) g.Colors) sNew=s at ri x a9 a1 i;have eG:Zc.mk g.Colors g.Edges=g:=rfl;have y:ipS g (nearM g) B sNew=⟨⟨B,false⟩,g,nearM g,0,0,⟨[],[]⟩,[]⟩:=by
  show ZE.mk ⟨B-0,false⟩ _ _ _ _ _ _=_;rw [Int.sub_zero];rfl
 rw [y] at ri;have a3:Znf ⟨⟨B,false⟩,g,nearM g,0,0,⟨[],[]⟩,[]⟩ (refN (nearM g) g.Colors)=some (ipS g (nearM g) B s):=ri;unfold Zb7 ZpJ Znb;generalize nearM g=near at a5 a4 a3;generalize refN near g.Colors=c0 at a4 a3;have z:sNew.nodes=0:=rfl;by_cases hN:(ndG g:Int)<=B
 ·obtain ⟨hf,_,ae⟩:=a1 (by rw [z];omega) (.inl ⟨rfl,rfl⟩);have o:=a9 hf;obtain ⟨p,hp,af⟩:=x o;have ag:ValidG s.best:=by rw [af];exact ZiO hg hp
  have ti:=ZxJ ag;have eB:Zc.mk s.best.Colors s.best.Edges=s.best:=rfl;have hx:gIdx s.perms 0=some (ix s.perms 0):=ZaZ ω (by cases hh:s.perms with|nil=>exact absurd hh o|cons a l=>simp);refine .inl ⟨hN,s.best,?_,by simp (disch:=omega) only [pz,eG,a8,a6,a5,a4,a3,ipS,hf,eB,ti,hx]⟩;rcases ae with ⟨h,_⟩|⟨_,h⟩
  ·exact absurd h o
  ·rwa [List.nil_append] at h
 ·have hf:=i (by rw [z];omega);exact .inr ⟨by omega,by simp (disch:=omega) only [pz,eG,a8,a6,a5,a4,a3,ipS,hf]⟩
theorem ZCl {g:Zc} (hg:ValidG g) {q:List Int} (hq:Vc.Perm q g.Colors.length) {B:Int} (h1:1<=B) (i:B<=20000):Zb7 (relab g q) B=Zb7 g B:=by
 have u:=ZiO hg hq;have o:=Za3 g;have hC:=Cel.ref (near:=nearM g) (cells:=g.Colors) o.symm;rw [o] at hC;obtain ⟨j,k⟩:=ZuC hg hq (g.Colors.length+1) (refN (nearM g) g.Colors) hC ω;have x:(relab g q).Colors=act q g.Colors:=rfl;have l:(relab g q).Colors.length=g.Colors.length:=Zfk hg hq;have hr:refN (nearM (relab g q)) (relab g q).Colors=act q (refN (nearM g) g.Colors):=by rw [x];exact Zr0 hg hq rfl
 have n1:ndG (relab g q)=ndG g:=by unfold ndG;rw [hr,l];exact j
 have n2:∀ f,f∈fmG (relab g q)↔f∈fmG g:=fun f=>by unfold fmG;rw [hr,l];exact k f
 rcases ZjB hg h1 i with ⟨a,f,hf,c⟩|⟨a,c⟩
 ·rcases ZjB u h1 i with ⟨a',f',hf',c'⟩|⟨a',c'⟩
  ·have:f'=f:=ZGB (fun _ _=>trivial) (hf'.2 f ((n2 f).2 hf.1)) (hf.2 f' ((n2 f').1 hf'.1));rw [c,c',this]
  ·omega
 ·rcases ZjB u h1 i with ⟨a',f',hf',c'⟩|⟨a',c'⟩
  ·omega
  ·rw [c,c']
set_option linter.unusedSectionVars false
theorem ZtN {l:List Int} {lo hi:Int} (h:Rising l lo hi) {i:Int} (k:0<=i):∀ (d:Nat) (j:Int),j=i+1+d->j<(l.length:Int)->ix l i<ix l j
 | 0,j,hj,hl=>by
  have:=(h j ω hl).2 ω;rw [show j-1=i by omega] at this;exact this
 | d+1,j,hj,hl=>by
  have:=(h j ω hl).2 ω;have o:=ZtN h k d (j-1) ω ω;omega
theorem ZtX {l:List Int} {lo hi:Int} (h:Rising l lo hi) {i j:Int} (k:0<=i) (h1:i<j) (o:j<(l.length:Int)):ix l i<ix l j:=ZtN h k (j-i-1).toNat j ω o
def cntB (bs:List (List Int)) (p:List Int->Bool):Nat->Int
 | 0=>0
 | n+1=>cntB bs p n+if p (ix bs n) then 1 else 0
section
variable {d:Zw} (hv:ValidD d)
include hv
end
section
variable {f:Zb} {q:Int} {inv:List Int} (hF:Ff f q inv)
include hF
variable {w:Int} {m:List (List Int)}
variable (hm:Mat q w m)
include hm
end
def wtN (r:List Int):Nat->Int
 | 0=>0
 | n+1=>wtN r n+if ix r (n:Int)=0 then 0 else 1
def wt (r:List Int):Int:=wtN r r.length
def cwN (ws:List (List Int)) (w:Int) (m:Nat):List Int:=tabl (w+1) fun y=>cntB ws (fun r=>decide (wt r=y)) m
section
variable {f:Zb} {q:Int} {inv:List Int} (hF:Ff f q inv)
include hF
variable {w:Int} {m:List (List Int)} (hm:Mat q w m)
include hm
end
section
variable {e:List Int} {ws:List (List Int)} (he:(e.length:Int)<=64) (hl:∀ r∈ws,(r.length:Int)=e.length) (hi:∀ r∈ws,In 2 r) (w1:1<=(ws.length:Int)) (wN:(ws.length:Int)<=4096)
include he hl hi w1 wN
end
section
variable {a:List (List Int)} (h:ValidSq a) (h6:(a.length:Int)<=6)
include h h6
end
theorem ZsC {l:List Int} {hi:Int} (h:Rising l 0 hi):∀ n:Nat,(n:Int)<l.length->(n:Int)<=ix l n
 | 0,i=>(h 0 ω i).1.1
 | n+1,i=>by
  have:=ZsC h n ω;have j:=(h ((n+1:Nat):Int) ω i).2 ω;rw [show ((n+1:Nat):Int)-1=(n:Int) by omega] at j;omega
theorem Zv9 {l:List Int} {lo hi:Int} (h:Rising l lo hi):l.Nodup:=by
 unfold List.Nodup;rw [List.pairwise_iff_getElem];intro i j hi x u;have h1:=ZtX h (i:=(i:Int)) (j:=(j:Int)) ω ω ω;have k:=ZY (xs:=l) (i:=(i:Int)) ω ω;have o:=ZY (xs:=l) (i:=(j:Int)) ω ω;rw [Int.toNat_natCast,List.getElem?_eq_getElem ω] at k o;rw [Option.some.inj k,Option.some.inj o];omega
theorem ZhY {d:Zw} (h:ValidD d):Sts d.Points d.Blocks where
 v0:=by have:=h.p1;omega
 v1:=by have:=h.p2;omega
 m:=by have:=h.len;omega
 len:=fun s hs=>by
  obtain ⟨k,i,k1,rfl⟩:=ZL hs;have hr:=(h.blk k i k1).2;have y:=h.p2;by_cases hz:(ix d.Blocks k).length=0
  ·omega
  ·have h3:=ZsC hr ((ix d.Blocks k).length-1) ω;have h4:=(hr (((ix d.Blocks k).length-1:Nat):Int) ω ω).1.2;omega
 nd:=fun s hs=>by
  obtain ⟨k,i,k1,rfl⟩:=ZL hs;exact Zv9 (h.blk k i k1).2
 rng:=fun s hs x l=>by
  obtain ⟨k,i,k1,rfl⟩:=ZL hs;obtain ⟨j,o,u,rfl⟩:=ZL l;have:=((h.blk k i k1).2 j o u).1;omega
theorem ZGJ {b:List Int} {n:Int} (h:Rising b 0 (n-1)):SetIn b n:=by
 refine ⟨?_,fun x u=>?_⟩
 ·rw [List.pairwise_iff_getElem];intro i j hi hj a2;have h1:=ZtX h (i:=(i:Int)) (j:=(j:Int)) ω ω ω;have l:=ZY (xs:=b) (i:=(i:Int)) ω ω;have o:=ZY (xs:=b) (i:=(j:Int)) ω ω;rw [Int.toNat_natCast,List.getElem?_eq_getElem ω] at l o;rw [Option.some.inj l,Option.some.inj o];exact h1
 ·obtain ⟨k,y,k1,rfl⟩:=ZL u;have:=(h k y k1).1;omega
theorem ZE2 {b:List Int} {n:Int} (h:SetIn b n):Rising b 0 (n-1):=fun k o k1=>by
 have hr:=h.rng _ (Zj o k1);refine ⟨by omega,fun u=>?_⟩;have j:=ZY (xs:=b) (i:=k-1) ω ω;have l:=ZY (xs:=b) (i:=k) ω ω;rw [List.getElem?_eq_getElem ω] at j l;have:=List.pairwise_iff_getElem.1 h.srt (k-1).toNat k.toNat ω ω ω;rwa [Option.some.inj j,Option.some.inj l] at this
def imgD (d:Zw) (p:List Int):Zw:=⟨d.Points,sortRows (d.Blocks.map (imgS p))⟩
theorem ZrJ {d:Zw} (h:ValidD d):∀ b∈d.Blocks,SetIn b d.Points:=fun b i=>by
 obtain ⟨k,j,k1,rfl⟩:=ZL i;exact ZGJ (h.blk k j k1).2
theorem ZtY {d:Zw} (h:ValidD d) {p:List Int} (hp:Vc.Perm p d.Points):ValidD (imgD d p):=by
 have hl:((imgD d p).Blocks.length:Int)=d.Blocks.length:=by show ((sortRows _).length:Int)=_;rw [Zau,List.length_map]
 refine ⟨h.p1,h.p2,by rw [hl];exact h.len,fun k l k1=>?_,fun k l k1=>?_⟩
 ·obtain ⟨b,o,e⟩:=List.mem_map.1 (Zal.1 (Zj (xs:=sortRows (d.Blocks.map (imgS p))) l k1));show Blk (ix (sortRows (d.Blocks.map (imgS p))) k) d.Points;rw [<-e];obtain ⟨j,y,j1,rfl⟩:=ZL o;exact ⟨by rw [ZfC];exact (h.blk j y j1).1,ZE2 (Zro hp (ZrJ h _ o))⟩
 ·have hs:=Zd4 (d.Blocks.map (imgS p));unfold SortedL at hs;have k1:k<((sortRows (d.Blocks.map (imgS p))).length:Int):=k1;have u:=ZY (xs:=sortRows (d.Blocks.map (imgS p))) (i:=k-1) ω ω;have x:=ZY (xs:=sortRows (d.Blocks.map (imgS p))) (i:=k) ω ω;rw [List.getElem?_eq_getElem ω] at u x;have:=List.pairwise_iff_getElem.1 hs (k-1).toNat k.toNat ω ω ω;rw [Option.some.inj u,Option.some.inj x,Zaz] at this;exact this
theorem Zxt {d:Zw} (h:ValidD d) {p:List Int} (hp:Vc.Perm p d.Points) {B:Int} (h1:1<=B) (u:B<=20000):
  let g:=bipG d.Points d.Blocks.length fun x i=>decide (x∈ix d.Blocks i)
  let g':=bipG d.Points d.Blocks.length fun x i=>decide (x∈ix (imgD d p).Blocks i)
  g.2=g'.2/\(g.2=0->∃ r,Zb7 g'.1 B=some r/\Zb7 g.1 B=some r):=by
 intro g g';have a3:=ZhY h;obtain ⟨s,hs,o⟩:=ZFl (ZeA (d.Blocks.map (imgS p))).symm;rw [List.length_map] at hs;have hr:∀ i,0<=i->i<(d.Blocks.length:Int)->∀ z,z∈ix (imgD d p).Blocks (ix s i)↔∃ x∈ix d.Blocks i,ix p x=z:=fun i y i1 z=>by
  have e:=o i y (by rw [List.length_map];exact i1);show z∈ix (sortRows (d.Blocks.map (imgS p))) (ix s i)↔_;rw [e,ZaX y i1];exact Zlj
 have a5:=ZCN a3 hp hs hr;have a4:=ZE5 a3 hp hs hr;show (bipG _ _ _).2=(bipG _ _ _).2/\_;have j:g=bipG d.Points d.Blocks.length fun x i=>decide (x∈ix d.Blocks i):=rfl;have l:g'=bipG d.Points d.Blocks.length fun x i=>decide (x∈ix (imgD d p).Blocks i):=rfl;unfold bipG at j l ⊢;by_cases c:d.Points+(d.Blocks.length:Int)>64
 ·rw [if_pos c] at j l ⊢;rw [if_pos c,j];exact ⟨rfl,fun h=>by cases h⟩
 ·rw [if_neg c] at j l ⊢;rw [if_neg c];rw [a5] at l ⊢;by_cases c2:((bipK d.Points d.Blocks.length (fun x i=>decide (x∈ix d.Blocks i)) d.Points).length:Int)>512
  ·rw [if_pos c2] at j l ⊢;rw [if_pos c2,j];exact ⟨rfl,fun h=>by cases h⟩
  ·rw [if_neg c2] at j l ⊢;rw [if_neg c2,j,l];have hq:=Zrc (sets:=d.Blocks) hp hs;have p1:=h.p1;have a7:((cols d.Points d.Blocks.length).length:Int)=d.Points+d.Blocks.length:=by rw [ZvI];omega
   have hv:ValidG ⟨cols d.Points d.Blocks.length,bipK d.Points d.Blocks.length (fun x i=>decide (x∈ix d.Blocks i)) d.Points⟩:=by
    refine ZqR (by show ((cols d.Points d.Blocks.length).length:Int)<=64;omega) (fun x o=>?_) (by show ((bipK _ _ _ _).length:Int)<=512;omega) (Zei _ _ _ _) fun e he=>?_
    ·obtain ⟨k,k0,k1,rfl⟩:=ZL o;have k1:k<((cols d.Points d.Blocks.length).length:Int):=k1;show 0<=ix (cols d.Points d.Blocks.length) k/\ix (cols d.Points d.Blocks.length) k<=63;unfold cols;rw [ZJ k0 ω];split<;>omega
    ·obtain ⟨a,i,hi,_,hB⟩:=Ze5.1 he;show _/\_/\e.B<((cols d.Points d.Blocks.length).length:Int);omega
   refine ⟨rfl,fun _=>?_⟩;have hi:=ZCl hv (q:=qOf d.Points p s) (by show Vc.Perm _ ((cols d.Points d.Blocks.length).length:Int);rw [a7];exact hq) h1 u;rw [a4] at hi;rcases ZjB hv h1 u with ⟨_,f,_,c⟩|⟨_,c⟩
   ·exact ⟨_,hi.trans c,c⟩
   ·exact ⟨_,hi.trans c,c⟩
theorem ZCv {d:Zw} (h:ValidD d) (hz:Sz2 d.Blocks) {p:List Int} (hp:Vc.Perm p d.Points) {B:Int} (h1:1<=B) (k:B<=20000):∃ r,ZdA ⟨2,d.Points,d.Blocks⟩ B=some r/\ZdA ⟨2,(imgD d p).Points,(imgD d p).Blocks⟩ B=some r:=by
 have h':=ZtY h hp;have hl:((imgD d p).Blocks.length:Int)=d.Blocks.length:=by show ((sortRows _).length:Int)=_;rw [Zau,List.length_map]
 have a3:Sz2 (imgD d p).Blocks:=⟨by have:=hz.1;omega,fun b hb=>by
  obtain ⟨x,hx,rfl⟩:=List.mem_map.1 (Zal.1 hb);rw [ZfC];exact hz.2 x hx⟩
 have v1:=(ZdL hz).eq h;have l:=(ZdL a3).eq h';have o:Zae ⟨2,d.Points,d.Blocks⟩=some true:=by
  unfold Zae;simp (disch:=omega) only [pz,ZaW,Zan hz,v1]
 have u:Zae ⟨2,(imgD d p).Points,(imgD d p).Blocks⟩=some true:=by
  unfold Zae;simp (disch:=omega) only [pz,ZaW,Zan a3,l]
 have y:=Zq7 (ZhY h);have j:=Zq7 (ZhY h');rw [hl,show (imgD d p).Points=d.Points from rfl] at j;obtain ⟨a,b⟩:=Zxt h hp h1 k;have a2:=ZqI B;rw [decide_eq_true (And.intro h1 k)] at a2;generalize (bipG d.Points d.Blocks.length fun x i=>decide (x∈ix d.Blocks i))=g at a b y;generalize (bipG d.Points d.Blocks.length fun x i=>decide (x∈ix (imgD d p).Blocks i))=g' at a b j;have j:Ze8 (imgD d p).Points (imgD d p).Blocks=some g':=j;have G1:Zes ⟨2,d.Points,d.Blocks⟩=some (g.1,g.2):=by
  unfold Zes Zid;simp (disch:=omega) only [pz,ZaW,Zan hz,v1,y]
 have G2:Zes ⟨2,(imgD d p).Points,(imgD d p).Blocks⟩=some (g'.1,g.2):=by
  unfold Zes Zid;rw [a];simp (disch:=omega) only [pz,ZaW,Zan a3,l,j]
 unfold ZdA;by_cases c:g.2=0
 ·obtain ⟨r,r2,r1⟩:=b c;exact ⟨r,by simp (disch:=omega) only [pz,o,a2,G1,r1],by simp (disch:=omega) only [pz,u,a2,G2,r2]⟩
 ·exact ⟨(⟨#[]⟩,g.2),by simp (disch:=omega) only [pz,o,a2,G1],by simp (disch:=omega) only [pz,u,a2,G2]⟩
theorem ZwQ {code:List Int} (i:Bytes code) {d:Zw} (h:ValidD d):∃ p,Vc.Perm p d.Points/\ZfV code d=some (imgD d p):=by
 unfold ZfV;obtain ⟨s,e,_,hs⟩:=Zt5 (code:=code);rw [e];simp only [Option.bind_some];obtain ⟨p,s',j,hp,_⟩:=Zol i hs ω h.p1 h.p2;have l:Zbg (Za.mk s.qcode s.qat s.qseed) d.Points=some (p,s'):=j;rw [l];simp only [Option.bind_some];have o:=ZhY h;have k:=Zuj (d:=d) hp (ZrJ h) ⟨by have:=h.len;omega,fun b i=>by
  have:=o.len b i;omega⟩
 have u:Zee (Zw.mk d.Points d.Blocks) p=some ⟨d.Points,sortRows (d.Blocks.map (imgS p))⟩:=k;rw [u];exact ⟨p,hp,rfl⟩
theorem Zzg {i:List Int} (j:Bytes i) {o:Zf} (hz:Sz2 o.Rows) (hv:Zae o=some true):ZjI i o=some true:=by
 unfold ZjI;by_cases l:o.Kind=2
 ·have e:Zf.mk o.Kind o.Size o.Rows=o:=rfl;have k:ValidD ⟨o.Size,o.Rows⟩:=by
   refine Classical.byContradiction fun u=>?_;have q:=(ZdL (d:=⟨o.Size,o.Rows⟩) hz).ne u;have:Zae o=some false:=by
    unfold Zae;simp (disch:=omega) only [pz,e,ZaW,Zan hz,q]
   rw [hv] at this;cases this
  have eD:Zis o=some (⟨o.Size,o.Rows⟩,0):=by
   unfold Zis Zi3;simp (disch:=omega) only [pz,e,hv,ZaW,Zan hz]
  obtain ⟨p,hp,eI⟩:=ZwQ j k;have a4:ZfV i (Zw.mk o.Size o.Rows)=some (imgD ⟨o.Size,o.Rows⟩ p):=eI;have a5:=ZtY k hp;have a2:Sz2 (imgD ⟨o.Size,o.Rows⟩ p).Blocks:=⟨by show ((sortRows _).length:Int)<=_;rw [Zau,List.length_map];exact hz.1,fun b j=>by
   obtain ⟨x,y,rfl⟩:=List.mem_map.1 (Zal.1 j);rw [ZfC];exact hz.2 x y⟩
  have q2:=(ZdL a2).eq a5;obtain ⟨r,c1,c2⟩:=ZCv k hz hp (B:=400) ω ω;generalize imgD ⟨o.Size,o.Rows⟩ p=d' at a4 a5 a2 q2 c2;have a6:Zc7 (Zw.mk d'.Points d'.Blocks)=some true:=q2;have eO:Zka d'=some (⟨2,d'.Points,d'.Blocks⟩,0):=by
   unfold Zka ZnA;simp (disch:=omega) only [pz,a6,Zan a2]
  have c1:ZdA o 400=some r:=by rw [<-c1,<-l]
  have hq:=(Zbr r.1 r.1).2 rfl;simp (disch:=omega) only [pz,e,eD,a4,eO,ZlZ,c1,c2,hq]
 ·simp (disch:=omega) only [pz,]
theorem Zz4 {y0 k:List Int} (u:OkL (fun x=>0<=x/\x<=255) y0) (h1:OkL (fun x=>0<=x/\x<=255) k):Znz y0 k=some true:=by
 unfold Znz ZlO;by_cases j:(y0.length:Int)>1048576
 ·rw [decide_eq_true j];rfl
 by_cases l:(k.length:Int)>1048576
 ·rw [decide_eq_false j,decide_eq_true l];rfl
 rw [decide_eq_false j,decide_eq_false l];simp only [cond_false,Option.bind_some];have y:Bytes y0:=⟨by omega,u.2⟩
 have b1:Bytes k:=⟨by omega,h1.2⟩
 obtain ⟨o,e1,hz,ho⟩:=ZFR y;obtain ⟨c,hv,i⟩:=Zvv hz;rw [ho] at hv;rw [<-Option.some.inj hv] at i;obtain ⟨s,n1,n2,_,_,et⟩:=Zqo hz i;have hr:=ZAF hz i et;have k1:=Zzg b1 hz i;generalize ((((s++⟨#[32]⟩)++itoaB o.Size)++⟨#[32]⟩)++tR o.Rows)=t at et hr;have e:Zf.mk o.Kind o.Size o.Rows=o:=rfl;have hs:=(ZlL (a:=o.Rows) (b:=o.Rows) hz.1 hz.2).eq rfl;have a3:ZkQ o o=some true:=by
  unfold ZkQ;simp (disch:=omega) only [pz,hs]
 simp (disch:=omega) only [pz,e1,e,et,hr,n1,n2,a3,i,k1]
end Go.Proofs.YtahnjnfpjcfklaaGreatDoor
