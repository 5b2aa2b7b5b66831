import Derived.Test.YtccncimchmimdaaGreatDoorVcCl
open Go.IntKind renaming i64->ε
namespace Go.Vc
set_option linter.unusedVariables false
set_option linter.unusedSimpArgs false
open Go
section
variable {ψ:CM} {h0 h:Heap} {os:List Ob} {α:Type}
theorem Zzh {E:El α} (hp:Plain E):Frz E E:=⟨rfl,fun a L cs x h _=>(hp a a L cs x h).2⟩
theorem Zuq {E:El α} (br:Plain E) {z:Nat} (hz:E.z=z) {zero:List Value} (c8:zero=E.zc) (LD:Heap->Addr->(α->Prop)->Prop) (ST:Heap->Addr->α->(Heap->Prop)->Prop) (eqb:α->α->Bool)
  (ae:∀ {h:Heap} {v:Value} {xs:List α} {i:Int} {x:α} {p:Addr} {K:α->Prop},SlC (hcell h) E v xs->AddrOf v i z p->gIdx xs i=some x->K x->LD h p K)
  (c5:∀ {h:Heap} {os:List Ob} {v:Value} {xs:List α} {k:Int} {y c:α} {p:Addr} {K:Heap->Prop} (_:S ψ h0 h os) (i:Nat),os[i]?=some (.it (El.ow E) [v] xs)->AddrOf v k z p->gIdx xs k=some c->(∀ h',S ψ h0 h' (os.set i (.it (El.ow E) [v] (xs.set k.toNat y)))->K h')->ST h p y K)
  {c r:List α} {v0:Value} (d3:c.length<4611686018427387904) (hp:cptL (fun a b=>some (eqb a b)) c=some r) (st:S ψ h0 h (.it (El.ow E) [v0] c::os)) {R:Value->Heap->Prop} (hR:∀ v h',S ψ h0 h' (.it (El.ow E) [v] r::os)->R v h'):
  vLen v0 fun n7=>
  bif decide (((n7:Int):Int)<2) then
   R v0 h
  else
   ∃ J:Nat->Int->Heap->Prop,(∃ ah,J ah 1 h)/\∀ (n:Nat) (_:Env) (x3:Int) (f:Heap),J n x3 f ->
   vLen v0 fun ai=>
   bif decide ((x3:Int)<(ai:Int)) then
    vIdx v0 x3 z fun aj=>
    LD f aj fun ak=>
    vIdx v0 (ε.wrap (x3-1)) z fun al=>
    LD f al fun am=>
    bif eqb ak am then
     vSliceS v0 z (some (.int .i64 x3)) none none fun a4=>
     ∃ a5:Nat->Int->Int->Heap->Prop,(∃ an,a5 an x3 1 f)/\∀ (a6:Nat) (_:Env) (g:Int) (o:Int) (s:Heap),a5 a6 g o s ->
     vLen a4 fun ao=>
     bif decide ((o:Int)<(ao:Int)) then
      vIdx a4 o z fun aq=>
      LD s aq fun ar=>
      vIdx a4 (ε.wrap (o-1)) z fun au=>
      LD s au fun av=>
      bif !(eqb ar av) then
       vIdx a4 o z fun aw=>
       LD s aw fun ax=>
       vIdx v0 g z fun ay=>
       ST s ay ax fun a1=>
       ∃ a2,a2<a6/\a5 a2 (ε.wrap (g+1)) (ε.wrap (o+1)) a1
      else
       ∃ a2,a2<a6/\a5 a2 g (ε.wrap (o+1)) s
     else
      vSliceS v0 z (some (.int .i64 g)) none none fun az=>
      vClear zero az s fun _ b0=>
      vSliceS v0 z none (some (.int .i64 g)) none fun b1=>
      R b1 b0
    else
     ∃ m,m<n/\J m (ε.wrap (x3+1)) f
   else
    R v0 f:=by
 have frz:Frz E E:=Zzh br
 have ap:∀ {k:Nat} {x:α} {ys:List α},ys[k]?=some x->gIdx ys (k:Int)=some x:=fun h=>by unfold gIdx;rw [if_pos ω,Int.toNat_natCast];exact h
 have w1:∀ {k:Nat},k<c.length->ε.wrap ((k:Int)+1)=((k+1:Nat):Int):=fun h=>by rw [ZaI ω ω];omega
 have w2:∀ {k:Nat},k+1<=c.length->ε.wrap (((k+1:Nat):Int)-1)=(k:Int):=fun h=>by rw [ZaI ω ω];omega
 refine Zp (st.rdL 0 rfl frz) ?_
 refine Zfu (fun u=>?_) (fun u=>?_)
 ·have hl:c.length<2:=by have:=of_decide_eq_true u;omega
  have hr:r=c:=by
   cases c with
   | nil=>exact (Option.some.inj hp).symm
   | cons a t=>
    cases t with
    | nil=>exact (Option.some.inj hp).symm
    | cons b t=>simp at hl;omega
  subst hr
  exact hR _ _ st
 ·have hl:2<=c.length:=by have:=of_decide_eq_false u;omega
  refine ⟨fun n o f=>S ψ h0 f (.it (El.ow E) [v0] c::os)/\∃ k p q,o=((k+1:Nat):Int)/\k+1+n=c.length/\c[k]?=some p/\cpt (fun a b=>some (eqb a b)) p (c.drop (k+1))=some q/\r=c.take (k+1)++q,⟨c.length-1,st,?_⟩,?_⟩
  ·cases c with
   | nil=>simp at hl
   | cons a t=>
    have hp:(cpt (fun a b=>some (eqb a b)) a t).map (a::·)=some r:=hp
    cases w:cpt (fun a b=>some (eqb a b)) a t with
    | none=>rw [w] at hp;cases hp
    | some q=>rw [w] at hp;exact ⟨0,a,q,rfl,by simp;omega,rfl,by simpa using w,by simpa using (Option.some.inj hp).symm⟩
  ·rintro n _ o f ⟨st,k,p,q,rfl,d8,b5,w,hr⟩
   refine Zp (st.rdL 0 rfl frz) ?_
   refine Zfu (fun u=>?_) (fun u=>?_)
   ·have hk:k+1<c.length:=by have:=of_decide_eq_true u;omega
    obtain ⟨y,hy⟩:=ZaV (xs:=c) (k:=k+1) hk
    obtain ⟨b,l,f1,f2,f3⟩:=Zmm (Zld hy) w
    have f1:eqb y p=b:=Option.some.inj f1
    refine Z6 (st.rdL 0 rfl frz) (ap hy) fun b9 ad=>?_
    refine ae (st.rdL 0 rfl frz) ad (ap hy) ?_
    simp only [w2 (k:=k) ω]
    refine Z6 (st.rdL 0 rfl frz) (ap b5) fun ba a9=>?_
    refine ae (st.rdL 0 rfl frz) a9 (ap b5) ?_
    cases b with
    | false=>
     refine ZgF f1 ?_
     refine ⟨n-1,by omega,st,k+1,y,l,w1 hk,by omega,hy,f2,?_⟩
     rw [hr,f3,Zln hy];simp
    | true=>
     refine Zgb f1 ?_
     have hg:gSl c ((k+1:Nat):Int) (c.length:Int)=some (c.drop (k+1)):=by
      unfold gSl
      rw [if_pos ⟨by omega,by omega,by omega⟩,Int.toNat_natCast,Int.toNat_natCast,List.take_length]
     refine Zm0 (some ((k+1:Nat):Int)) none (st.rdL 0 rfl frz) hg fun af hv=>?_
     simp only [Option.getD_some,Option.getD_none,Int.toNat_natCast] at hv
     have b3:r=c.take (k+1)++l:=by rw [hr,f3];rfl
     refine ⟨fun n3 o x7 a1=>∃ ys:List α,S ψ h0 a1 (.it (El.ow E) [v0] ys::os)/\∃ k' e p q,o=((k':Nat):Int)/\x7=((e+1:Nat):Int)/\k+1+e+1+n3=c.length/\ys.length=c.length/\k'<=k+1+e/\c[k+1+e]?=some p/\(∀ j,k+1+e<=j->ys[j]?=c[j]?)/\cpt (fun a b=>some (eqb a b)) p (c.drop (k+1+e+1))=some q/\r=ys.take k'++q,
      ⟨c.length-(k+2),c,st,k+1,0,y,l,rfl,rfl,by omega,rfl,by omega,hy,fun _ _=>rfl,f2,b3⟩,?_⟩
     rintro n3 _ o x7 a1 ⟨ys,st,k',e,p,q,rfl,rfl,bb,bk,d7,b5,b4,w,hr⟩
     have c4:gSl ys ((k+1:Nat):Int) (ys.length:Int)=some (ys.drop (k+1)):=by
      unfold gSl
      rw [if_pos ⟨by omega,by omega,by omega⟩,Int.toNat_natCast,Int.toNat_natCast,List.take_length]
     have cb:IsView v0 z (((k+1:Nat):Int)).toNat ((ys.length:Int)).toNat af:=by rw [bk];exact hv
     have fv:SlC (hcell a1) E af (ys.drop (k+1)):=cb.C (st.rdL 0 rfl frz) c4 hz
     refine Zp fv ?_
     refine Zfu (fun u=>?_) (fun u=>?_)
     ·have aa:k+1+e+1<c.length:=by
       have:=of_decide_eq_true u
       rw [List.length_drop] at this;omega
      obtain ⟨y,hy⟩:=ZaV (xs:=c) (k:=k+1+e+1) aa
      obtain ⟨b,l,f1,f2,f3⟩:=Zmm (Zld hy) w
      have f1:eqb y p=b:=Option.some.inj f1
      have g1:(ys.drop (k+1))[e+1]?=some y:=by rw [List.getElem?_drop,show k+1+(e+1)=k+1+e+1 by omega,b4 _ ω];exact hy
      have g2:(ys.drop (k+1))[e]?=some p:=by rw [List.getElem?_drop,b4 _ ω];exact b5
      refine Z6 fv (ap g1) fun bc ad=>?_
      refine ae fv ad (ap g1) ?_
      simp only [w2 (k:=e) ω]
      refine Z6 fv (ap g2) fun bd a9=>?_
      refine ae fv a9 (ap g2) ?_
      cases b with
      | false=>
       refine Zgb (by rw [f1];rfl) ?_
       refine Z6 fv (ap g1) fun be b6=>?_
       refine ae fv b6 (ap g1) ?_
       obtain ⟨z',bt⟩:=ZaV (xs:=ys) (k:=k') ω
       refine Z6 (st.rdL 0 rfl frz) (ap bt) fun bf b7=>?_
       refine c5 st 0 rfl b7 (ap bt) fun bg st=>?_
       dsimp only [List.set] at st
       rw [Int.toNat_natCast] at st
       refine ⟨n3-1,by omega,_,st,k'+1,e+1,y,l,w1 ω,w1 ω,by omega,by rw [List.length_set];exact bk,by omega,hy,fun j hj=>?_,f2,?_⟩
       ·rw [List.getElem?_set_ne ω];exact b4 j ω
       ·rw [hr,f3,Zln (y:=y) (List.getElem?_set_self ω),List.take_set_of_le (Nat.le_refl _)];simp
      | true=>
       refine ZgF (by rw [f1];rfl) ?_
       exact ⟨n3-1,by omega,ys,st,k',e+1,y,l,rfl,w1 ω,by omega,bk,by omega,hy,fun j hj=>b4 j ω,f2,by rw [hr,f3];rfl⟩
     ·have aa:k+1+e+1=c.length:=by
       have:=of_decide_eq_false u
       rw [List.length_drop] at this;omega
      have ab:q=[]:=by
       rw [aa,List.drop_length] at w
       exact (Option.some.inj w).symm
      refine ZsT (fun φ L cs x h=>(br φ φ L cs x h).1) st 0 rfl hz c8 ω ω fun v' h' st=>?_
      dsimp only [List.set] at st
      rw [Int.toNat_natCast] at st
      rw [hr,ab,List.append_nil] at hR
      exact hR v' h' st
   ·have hk:k+1=c.length:=by have:=of_decide_eq_false u;omega
    have ab:q=[]:=by
     rw [hk,List.drop_length] at w
     exact (Option.some.inj w).symm
    rw [hr,ab,hk,List.take_length,List.append_nil] at hR
    exact hR v0 f st
end
end Go.Vc
