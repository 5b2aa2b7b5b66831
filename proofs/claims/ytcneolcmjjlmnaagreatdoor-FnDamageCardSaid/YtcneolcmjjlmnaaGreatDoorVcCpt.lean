import Derived.Test.YtcneolcmjjlmnaaGreatDoorVcCl
open Int renaming toNat_natCast->Jp
open List renaming take_length->Jx,length_drop->JO,getElem?_drop->XE,set->Yh,drop_length->Yi,append_nil->JL,length->Jk
open Option renaming some->Jg
open Go.IntKind renaming i64->Y
namespace Go.Vc
set_option linter.unusedVariables false
set_option linter.unusedSimpArgs false
open Go
section
variable {ψ:CM} {h0 h:Heap} {os:List Ob} {α:Type}
theorem ZGc {E:El α} (hp:Plain E):Frz E E:=⟨rfl,λφ L cs x h _=>(hp φ φ L cs x h).2⟩
theorem Zt5 {E:El α} (bv:Plain E) {z:Nat} (hz:E.z=z) {zero:Jc} (cb:zero=E.zc) (LD:Heap->Addr->(α->Prop)->Prop) (ST:Heap->Addr->α->(Heap->Prop)->Prop) (eqb:α->α->Bool)
  (af:∀{h:Heap} {v:Value} {xs:List α} {i:Int} {x:α} {p:Addr} {K:α->Prop},SlC (hcell h) E v xs->AddrOf v i z p->gIdx xs i=Jg x->K x->LD h p K)
  (cc:∀{h:Heap} {os:List Ob} {v:Value} {xs:List α} {k:Int} {y x0:α} {p:Addr} {K:Heap->Prop} (_:S ψ h0 h os) (i:Nat),os[i]?=Jg (.it (El.ow E) [v] xs)->AddrOf v k z p->gIdx xs k=Jg x0->(∀h',S ψ h0 h' (os.set i (.it (El.ow E) [v] (xs.set k.toNat y)))->K h')->ST h p y K)
  {x0 r:List α} {v0:Value} (d7:Jk x0<4611686018427387904) (hp:cptL (λa b=>Jg (eqb a b)) x0=Jg r) (st:S ψ h0 h (.it (El.ow E) [v0] x0::os)) {R:Value->Heap->Prop} (hR:∀v h',S ψ h0 h' (.it (El.ow E) [v] r::os)->R v h'):
  vLen v0 λn7=>
  bif ((n7:Int):Int)<2 then
   R v0 h
  else
   ∃J:Nat->Int->Heap->Prop,(∃ai,J ai 1 h)/\∀(n:Nat) (_:Env) (x3:Int) (e:Heap),J n x3 e ->
   vLen v0 λaj=>
   bif (x3:Int)<(aj:Int) then
    vIdx v0 x3 z λak=>
    LD e ak λal=>
    vIdx v0 (Y.wrap (x3-1)) z λam=>
    LD e am λao=>
    bif eqb al ao then
     vSliceS v0 z (Jg (.int .i64 x3)) none none λa5=>
     ∃a6:Nat->Int->Int->Heap->Prop,(∃aq,a6 aq x3 1 e)/\∀(a7:Nat) (_:Env) (f:Int) (g:Int) (o:Heap),a6 a7 f g o ->
     vLen a5 λar=>
     bif (g:Int)<(ar:Int) then
      vIdx a5 g z λau=>
      LD o au λav=>
      vIdx a5 (Y.wrap (g-1)) z λaw=>
      LD o aw λax=>
      bif !(eqb av ax) then
       vIdx a5 g z λay=>
       LD o ay λaz=>
       vIdx v0 f z λb0=>
       ST o b0 az λa2=>
       ∃a3,a3<a7/\a6 a3 (Y.wrap (f+1)) (Y.wrap (g+1)) a2
      else
       ∃a3,a3<a7/\a6 a3 f (Y.wrap (g+1)) o
     else
      vSliceS v0 z (Jg (.int .i64 f)) none none λb1=>
      vClear zero b1 o λ_ b2=>
      vSliceS v0 z none (Jg (.int .i64 f)) none λb3=>
      R b3 b2
    else
     ∃m,m<n/\J m (Y.wrap (x3+1)) e
   else
    R v0 e:=by
 have frz:Frz E E:=ZGc bv;have ap:∀{k:Nat} {x:α} {ys:List α},ys[k]?=Jg x->gIdx ys (k:Int)=Jg x:=λh=>by unfold gIdx;rw [if_pos Z,Jp];exact h
 have w1:∀{k:Nat},k<Jk x0->Y.wrap ((k:Int)+1)=((k+1:Nat):Int):=λh=>by rw [Zap Z Z];omega
 have w2:∀{k:Nat},k+1<=Jk x0->Y.wrap (((k+1:Nat):Int)-1)=(k:Int):=λh=>by rw [Zap Z Z];omega
 refine ZF (st.rdL 0 rfl frz) ?_;refine ZfU (λs=>?_) (λs=>?_)
 .have hl:Jk x0<2:=by have:=of_decide_eq_true s;omega
  have hr:r=x0:=by
   cases x0 with
   | nil=>exact (Option.some.inj hp).symm
   | cons a t=>
    cases t with
    | nil=>exact (Option.some.inj hp).symm
    | cons b t=>simp at hl;omega
  subst hr;exact hR _ _ st
 .have hl:2<=Jk x0:=by have:=of_decide_eq_false s;omega
  refine ⟨λn g e=>S ψ h0 e (.it (El.ow E) [v0] x0::os)/\∃k p q,g=((k+1:Nat):Int)/\k+1+n=Jk x0/\x0[k]?=Jg p/\cpt (λa b=>Jg (eqb a b)) p (x0.drop (k+1))=Jg q/\r=x0.take (k+1)++q,⟨Jk x0-1,st,?_⟩,?_⟩
  .cases x0 with
   | nil=>simp at hl
   | cons a t=>
    have hp:(cpt (λa b=>Jg (eqb a b)) a t).map (a::·)=Jg r:=hp;cases u:cpt (λa b=>Jg (eqb a b)) a t with
    | none=>rw [u] at hp;cases hp
    | some q=>rw [u] at hp;exact ⟨0,a,q,rfl,by simp;omega,rfl,by simpa using u,by simpa using (Option.some.inj hp).symm⟩
  .rintro n _ g e ⟨st,k,p,q,rfl,d8,b6,u,hr⟩;refine ZF (st.rdL 0 rfl frz) ?_;refine ZfU (λs=>?_) (λs=>?_)
   .have hk:k+1<Jk x0:=by have:=of_decide_eq_true s;omega
    obtain ⟨y,hy⟩:=Zbs (xs:=x0) (k:=k+1) hk;obtain ⟨b,l,w,f2,f3⟩:=ZlQ (Zn1 hy) u;have w:eqb y p=b:=Option.some.inj w;refine ZS (st.rdL 0 rfl frz) (ap hy) λbb ad=>?_;refine af (st.rdL 0 rfl frz) ad (ap hy) ?_;simp only [w2 (k:=k) Z];refine ZS (st.rdL 0 rfl frz) (ap b6) λbc aa=>?_;refine af (st.rdL 0 rfl frz) aa (ap b6) ?_;cases b with
    | false=>
     refine Zok w ?_;refine ⟨n-1,by omega,st,k+1,y,l,w1 hk,by omega,hy,f2,?_⟩;rw [hr,f3,Zmy hy];simp
    | true=>
     refine Zlv w ?_;have hg:gSl x0 ((k+1:Nat):Int) (Jk x0:Int)=Jg (x0.drop (k+1)):=by
      unfold gSl;rw [if_pos ⟨by omega,by omega,by omega⟩,Jp,Jp,Jx]
     refine ZeB (Jg ((k+1:Nat):Int)) none (st.rdL 0 rfl frz) hg λag hv=>?_;simp only [Option.getD_some,Option.getD_none,Jp] at hv;have b5:r=x0.take (k+1)++l:=by rw [hr,f3];rfl
     refine ⟨λn3 g x7 a2=>∃ys:List α,S ψ h0 a2 (.it (El.ow E) [v0] ys::os)/\∃k' k2 p q,g=((k':Nat):Int)/\x7=((k2+1:Nat):Int)/\k+1+k2+1+n3=Jk x0/\(Jk ys)=Jk x0/\k'<=k+1+k2/\x0[k+1+k2]?=Jg p/\(∀j,k+1+k2<=j->ys[j]?=x0[j]?)/\cpt (λa b=>Jg (eqb a b)) p (x0.drop (k+1+k2+1))=Jg q/\r=ys.take k'++q,
      ⟨Jk x0-(k+2),x0,st,k+1,0,y,l,rfl,rfl,by omega,rfl,by omega,hy,λ_ _=>rfl,f2,b5⟩,?_⟩
     rintro n3 _ g x7 a2 ⟨ys,st,k',k2,p,q,rfl,rfl,bd,bk,d9,b6,b7,u,hr⟩;have c6:gSl ys ((k+1:Nat):Int) (Jk ys:Int)=Jg (ys.drop (k+1)):=by
      unfold gSl;rw [if_pos ⟨by omega,by omega,by omega⟩,Jp,Jp,Jx]
     have c9:IsView v0 z (((k+1:Nat):Int)).toNat ((Jk ys:Int)).toNat ag:=by rw [bk];exact hv
     have fv:SlC (hcell a2) E ag (ys.drop (k+1)):=c9.C (st.rdL 0 rfl frz) c6 hz;refine ZF fv ?_;refine ZfU (λs=>?_) (λs=>?_)
     .have ab:k+1+k2+1<Jk x0:=by
       have:=of_decide_eq_true s;rw [JO] at this;omega
      obtain ⟨y,hy⟩:=Zbs (xs:=x0) (k:=k+1+k2+1) ab;obtain ⟨b,l,w,f2,f3⟩:=ZlQ (Zn1 hy) u;have w:eqb y p=b:=Option.some.inj w;have g1:(ys.drop (k+1))[k2+1]?=Jg y:=by rw [XE,show k+1+(k2+1)=k+1+k2+1 by omega,b7 _ Z];exact hy
      have g2:(ys.drop (k+1))[k2]?=Jg p:=by rw [XE,b7 _ Z];exact b6
      refine ZS fv (ap g1) λbe ad=>?_;refine af fv ad (ap g1) ?_;simp only [w2 (k:=k2) Z];refine ZS fv (ap g2) λbf aa=>?_;refine af fv aa (ap g2) ?_;cases b with
      | false=>
       refine Zlv (by rw [w];rfl) ?_;refine ZS fv (ap g1) λbg b8=>?_;refine af fv b8 (ap g1) ?_;obtain ⟨z',bu⟩:=Zbs (xs:=ys) (k:=k') Z;refine ZS (st.rdL 0 rfl frz) (ap bu) λbh b9=>?_;refine cc st 0 rfl b9 (ap bu) λbi st=>?_;dsimp only [Yh] at st;rw [Jp] at st;refine ⟨n3-1,by omega,_,st,k'+1,k2+1,y,l,w1 Z,w1 Z,by omega,by rw [List.length_set];exact bk,by omega,hy,λj hj=>?_,f2,?_⟩
       .rw [List.getElem?_set_ne Z];exact b7 j Z
       .rw [hr,f3,Zmy (y:=y) (List.getElem?_set_self Z),List.take_set_of_le (Nat.le_refl _)];simp
      | true=>
       refine Zok (by rw [w];rfl) ?_;exact ⟨n3-1,by omega,ys,st,k',k2+1,y,l,rfl,w1 Z,by omega,bk,by omega,hy,λj hj=>b7 j Z,f2,by rw [hr,f3];rfl⟩
     .have ab:k+1+k2+1=Jk x0:=by
       have:=of_decide_eq_false s;rw [JO] at this;omega
      have ac:q=[]:=by
       rw [ab,Yi] at u;exact (Option.some.inj u).symm
      refine ZDS (λφ L cs x h=>(bv φ φ L cs x h).1) st 0 rfl hz cb Z Z λv' h' st=>?_;dsimp only [Yh] at st;rw [Jp] at st;rw [hr,ac,JL] at hR;exact hR v' h' st
   .have hk:k+1=Jk x0:=by have:=of_decide_eq_false s;omega
    have ac:q=[]:=by
     rw [hk,Yi] at u;exact (Option.some.inj u).symm
    rw [hr,ac,hk,Jx,JL] at hR;exact hR v0 e st
end
end Go.Vc
