import Derived.Test.YtdmledeildfidaaGreatDoorVcCl
open Go.IntKind renaming i64->ε
namespace Go.Vc
set_option linter.unusedVariables false
set_option linter.unusedSimpArgs false
open Go
section
variable {ψ:CM} {h0 h:Heap} {os:List Ob} {α:Type}
theorem ZA9 {E:El α} (hp:Plain E):Frz E E:=⟨rfl,fun a L cs x h _=>(hp a a L cs x h).2⟩
theorem Zwp {E:El α} (bq:Plain E) {z:Nat} (hz:E.z=z) {zero:List Value} (ca:zero=E.zc) (LD:Heap->Addr->(α->Prop)->Prop) (ST:Heap->Addr->α->(Heap->Prop)->Prop) (eqb:α->α->Bool)
  (ab:∀ {h:Heap} {v:Value} {xs:List α} {i:Int} {x:α} {p:Addr} {K:α->Prop},SlC (hcell h) E v xs->AddrOf v i z p->gIdx xs i=some x->K x->LD h p K)
  (c6:∀ {h:Heap} {os:List Ob} {v:Value} {xs:List α} {k:Int} {y x0:α} {p:Addr} {K:Heap->Prop} (_:S ψ h0 h os) (i:Nat),os[i]?=some (.it (El.ow E) [v] xs)->AddrOf v k z p->gIdx xs k=some x0->(∀ h',S ψ h0 h' (os.set i (.it (El.ow E) [v] (xs.set k.toNat y)))->K h')->ST h p y K)
  {x0 r:List α} {v0:Value} (d4:x0.length<4611686018427387904) (hp:cptL (fun a b=>some (eqb a b)) x0=some r) (st:S ψ h0 h (.it (El.ow E) [v0] x0::os)) {R:Value->Heap->Prop} (hR:∀ v h',S ψ h0 h' (.it (El.ow E) [v] r::os)->R v h'):
  vLen v0 fun n7=>
  bif decide (((n7:Int):Int)<2) then
   R v0 h
  else
   ∃ J:Nat->Int->Heap->Prop,(∃ af,J af 1 h)/\∀ (n:Nat) (_:Env) (x3:Int) (c:Heap),J n x3 c ->
   vLen v0 fun ag=>
   bif decide ((x3:Int)<(ag:Int)) then
    vIdx v0 x3 z fun ah=>
    LD c ah fun ai=>
    vIdx v0 (ε.wrap (x3-1)) z fun aj=>
    LD c aj fun ak=>
    bif eqb ai ak then
     vSliceS v0 z (some (.int .i64 x3)) none none fun a2=>
     ∃ a3:Nat->Int->Int->Heap->Prop,(∃ al,a3 al x3 1 c)/\∀ (a4:Nat) (_:Env) (e:Int) (f:Int) (g:Heap),a3 a4 e f g ->
     vLen a2 fun am=>
     bif decide ((f:Int)<(am:Int)) then
      vIdx a2 f z fun ao=>
      LD g ao fun aq=>
      vIdx a2 (ε.wrap (f-1)) z fun ar=>
      LD g ar fun au=>
      bif !(eqb aq au) then
       vIdx a2 f z fun av=>
       LD g av fun aw=>
       vIdx v0 e z fun ax=>
       ST g ax aw fun w=>
       ∃ a0,a0<a4/\a3 a0 (ε.wrap (e+1)) (ε.wrap (f+1)) w
      else
       ∃ a0,a0<a4/\a3 a0 e (ε.wrap (f+1)) g
     else
      vSliceS v0 z (some (.int .i64 e)) none none fun ay=>
      vClear zero ay g fun _ az=>
      vSliceS v0 z none (some (.int .i64 e)) none fun b0=>
      R b0 az
    else
     ∃ m,m<n/\J m (ε.wrap (x3+1)) c
   else
    R v0 c:=by
 have frz:Frz E E:=ZA9 bq;have ap:∀ {k:Nat} {x:α} {ys:List α},ys[k]?=some x->gIdx ys (k:Int)=some x:=fun h=>by unfold gIdx;rw [if_pos ω,Int.toNat_natCast];exact h
 have w1:∀ {k:Nat},k<x0.length->ε.wrap ((k:Int)+1)=((k+1:Nat):Int):=fun h=>by rw [Zaf ω ω];omega
 have w2:∀ {k:Nat},k+1<=x0.length->ε.wrap (((k+1:Nat):Int)-1)=(k:Int):=fun h=>by rw [Zaf ω ω];omega
 refine Zi (st.rdL 0 rfl frz) ?_;refine Zes (fun o=>?_) (fun o=>?_)
 ·have hl:x0.length<2:=by have:=of_decide_eq_true o;omega
  have hr:r=x0:=by
   cases x0 with
   | nil=>exact (Option.some.inj hp).symm
   | cons a t=>
    cases t with
    | nil=>exact (Option.some.inj hp).symm
    | cons b t=>simp at hl;omega
  subst hr;exact hR _ _ st
 ·have hl:2<=x0.length:=by have:=of_decide_eq_false o;omega
  refine ⟨fun n f c=>S ψ h0 c (.it (El.ow E) [v0] x0::os)/\∃ k p q,f=((k+1:Nat):Int)/\k+1+n=x0.length/\x0[k]?=some p/\cpt (fun a b=>some (eqb a b)) p (x0.drop (k+1))=some q/\r=x0.take (k+1)++q,⟨x0.length-1,st,?_⟩,?_⟩
  ·cases x0 with
   | nil=>simp at hl
   | cons a t=>
    have hp:(cpt (fun a b=>some (eqb a b)) a t).map (a::·)=some r:=hp;cases s:cpt (fun a b=>some (eqb a b)) a t with
    | none=>rw [s] at hp;cases hp
    | some q=>rw [s] at hp;exact ⟨0,a,q,rfl,by simp;omega,rfl,by simpa using s,by simpa using (Option.some.inj hp).symm⟩
  ·rintro n _ f c ⟨st,k,p,q,rfl,d5,b4,s,hr⟩;refine Zi (st.rdL 0 rfl frz) ?_;refine Zes (fun o=>?_) (fun o=>?_)
   ·have hk:k+1<x0.length:=by have:=of_decide_eq_true o;omega
    obtain ⟨y,hy⟩:=ZaK (xs:=x0) (k:=k+1) hk;obtain ⟨b,l,u,f2,f3⟩:=Zi9 (ZlD hy) s;have u:eqb y p=b:=Option.some.inj u;refine ZZ (st.rdL 0 rfl frz) (ap hy) fun b8 ad=>?_;refine ab (st.rdL 0 rfl frz) ad (ap hy) ?_;simp only [w2 (k:=k) ω];refine ZZ (st.rdL 0 rfl frz) (ap b4) fun b9 a7=>?_;refine ab (st.rdL 0 rfl frz) a7 (ap b4) ?_;cases b with
    | false=>
     refine Zkw u ?_;refine ⟨n-1,by omega,st,k+1,y,l,w1 hk,by omega,hy,f2,?_⟩;rw [hr,f3,ZmS hy];simp
    | true=>
     refine ZiW u ?_;have hg:gSl x0 ((k+1:Nat):Int) (x0.length:Int)=some (x0.drop (k+1)):=by
      unfold gSl;rw [if_pos ⟨by omega,by omega,by omega⟩,Int.toNat_natCast,Int.toNat_natCast,List.take_length]
     refine Zqe (some ((k+1:Nat):Int)) none (st.rdL 0 rfl frz) hg fun ac hv=>?_;simp only [Option.getD_some,Option.getD_none,Int.toNat_natCast] at hv;have b2:r=x0.take (k+1)++l:=by rw [hr,f3];rfl
     refine ⟨fun n3 f x7 w=>∃ ys:List α,S ψ h0 w (.it (El.ow E) [v0] ys::os)/\∃ k' k2 p q,f=((k':Nat):Int)/\x7=((k2+1:Nat):Int)/\k+1+k2+1+n3=x0.length/\ys.length=x0.length/\k'<=k+1+k2/\x0[k+1+k2]?=some p/\(∀ j,k+1+k2<=j->ys[j]?=x0[j]?)/\cpt (fun a b=>some (eqb a b)) p (x0.drop (k+1+k2+1))=some q/\r=ys.take k'++q,
      ⟨x0.length-(k+2),x0,st,k+1,0,y,l,rfl,rfl,by omega,rfl,by omega,hy,fun _ _=>rfl,f2,b2⟩,?_⟩
     rintro n3 _ f x7 w ⟨ys,st,k',k2,p,q,rfl,rfl,ba,bh,d6,b4,b3,s,hr⟩;have c9:gSl ys ((k+1:Nat):Int) (ys.length:Int)=some (ys.drop (k+1)):=by
      unfold gSl;rw [if_pos ⟨by omega,by omega,by omega⟩,Int.toNat_natCast,Int.toNat_natCast,List.take_length]
     have c4:IsView v0 z (((k+1:Nat):Int)).toNat ((ys.length:Int)).toNat ac:=by rw [bh];exact hv
     have fv:SlC (hcell w) E ac (ys.drop (k+1)):=c4.C (st.rdL 0 rfl frz) c9 hz;refine Zi fv ?_;refine Zes (fun o=>?_) (fun o=>?_)
     ·have a8:k+1+k2+1<x0.length:=by
       have:=of_decide_eq_true o;rw [List.length_drop] at this;omega
      obtain ⟨y,hy⟩:=ZaK (xs:=x0) (k:=k+1+k2+1) a8;obtain ⟨b,l,u,f2,f3⟩:=Zi9 (ZlD hy) s;have u:eqb y p=b:=Option.some.inj u;have g1:(ys.drop (k+1))[k2+1]?=some y:=by rw [List.getElem?_drop,show k+1+(k2+1)=k+1+k2+1 by omega,b3 _ ω];exact hy
      have g2:(ys.drop (k+1))[k2]?=some p:=by rw [List.getElem?_drop,b3 _ ω];exact b4
      refine ZZ fv (ap g1) fun bb ad=>?_;refine ab fv ad (ap g1) ?_;simp only [w2 (k:=k2) ω];refine ZZ fv (ap g2) fun bc a7=>?_;refine ab fv a7 (ap g2) ?_;cases b with
      | false=>
       refine ZiW (by rw [u];rfl) ?_;refine ZZ fv (ap g1) fun bd b5=>?_;refine ab fv b5 (ap g1) ?_;obtain ⟨z',bp⟩:=ZaK (xs:=ys) (k:=k') ω;refine ZZ (st.rdL 0 rfl frz) (ap bp) fun be b6=>?_;refine c6 st 0 rfl b6 (ap bp) fun bf st=>?_;dsimp only [List.set] at st;rw [Int.toNat_natCast] at st;refine ⟨n3-1,by omega,_,st,k'+1,k2+1,y,l,w1 ω,w1 ω,by omega,by rw [List.length_set];exact bh,by omega,hy,fun j hj=>?_,f2,?_⟩
       ·rw [List.getElem?_set_ne ω];exact b3 j ω
       ·rw [hr,f3,ZmS (y:=y) (List.getElem?_set_self ω),List.take_set_of_le (Nat.le_refl _)];simp
      | true=>
       refine Zkw (by rw [u];rfl) ?_;exact ⟨n3-1,by omega,ys,st,k',k2+1,y,l,rfl,w1 ω,by omega,bh,by omega,hy,fun j hj=>b3 j ω,f2,by rw [hr,f3];rfl⟩
     ·have a8:k+1+k2+1=x0.length:=by
       have:=of_decide_eq_false o;rw [List.length_drop] at this;omega
      have a9:q=[]:=by
       rw [a8,List.drop_length] at s;exact (Option.some.inj s).symm
      refine Zr7 (fun φ L cs x h=>(bq φ φ L cs x h).1) st 0 rfl hz ca ω ω fun v' h' st=>?_;dsimp only [List.set] at st;rw [Int.toNat_natCast] at st;rw [hr,a9,List.append_nil] at hR;exact hR v' h' st
   ·have hk:k+1=x0.length:=by have:=of_decide_eq_false o;omega
    have a9:q=[]:=by
     rw [hk,List.drop_length] at s;exact (Option.some.inj s).symm
    rw [hr,a9,hk,List.take_length,List.append_nil] at hR;exact hR v0 c st
end
end Go.Vc
