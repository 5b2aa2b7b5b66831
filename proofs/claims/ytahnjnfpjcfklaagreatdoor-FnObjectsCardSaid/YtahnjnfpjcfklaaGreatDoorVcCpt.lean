import Derived.Test.YtahnjnfpjcfklaaGreatDoorVcCl
open Go.IntKind renaming i64->ε
namespace Go.Vc
set_option linter.unusedVariables false
set_option linter.unusedSimpArgs false
open Go
section
variable {ψ:CM} {h0 h:Heap} {os:List Ob} {α:Type}
theorem ZH3 {E:El α} (hp:Plain E):Frz E E:=⟨rfl,fun φ L cs x h _=>(hp φ φ L cs x h).2⟩
theorem ZqO {E:El α} (bx:Plain E) {z:Nat} (hz:E.z=z) {zero:List Value} (ce:zero=E.zc) (LD:Heap->Addr->(α->Prop)->Prop) (ST:Heap->Addr->α->(Heap->Prop)->Prop) (eqb:α->α->Bool)
  (ah:∀ {h:Heap} {v:Value} {xs:List α} {i:Int} {x:α} {p:Addr} {K:α->Prop},SlC (hcell h) E v xs->AddrOf v i z p->gIdx xs i=some x->K x->LD h p K)
  (c9:∀ {h:Heap} {os:List Ob} {v:Value} {xs:List α} {k:Int} {y e:α} {p:Addr} {K:Heap->Prop} (_:S ψ h0 h os) (i:Nat),os[i]?=some (.it (El.ow E) [v] xs)->AddrOf v k z p->gIdx xs k=some e->(∀ h',S ψ h0 h' (os.set i (.it (El.ow E) [v] (xs.set k.toNat y)))->K h')->ST h p y K)
  {e r:List α} {v0:Value} (d1:e.length<4611686018427387904) (hp:cptL (fun a b=>some (eqb a b)) e=some r) (st:S ψ h0 h (.it (El.ow E) [v0] e::os)) {R:Value->Heap->Prop} (hR:∀ v h',S ψ h0 h' (.it (El.ow E) [v] r::os)->R v h'):
  vLen v0 fun n7=>
  bif decide (((n7:Int):Int)<2) then
   R v0 h
  else
   ∃ J:Nat->Int->Heap->Prop,(∃ ak,J ak 1 h)/\∀ (n:Nat) (_:Env) (x3:Int) (g:Heap),J n x3 g ->
   vLen v0 fun al=>
   bif decide ((x3:Int)<(al:Int)) then
    vIdx v0 x3 z fun am=>
    LD g am fun ao=>
    vIdx v0 (ε.wrap (x3-1)) z fun aq=>
    LD g aq fun ar=>
    bif eqb ao ar then
     vSliceS v0 z (some (.int .i64 x3)) none none fun a7=>
     ∃ a8:Nat->Int->Int->Heap->Prop,(∃ au,a8 au x3 1 g)/\∀ (a9:Nat) (_:Env) (o:Int) (s:Int) (u:Heap),a8 a9 o s u ->
     vLen a7 fun av=>
     bif decide ((s:Int)<(av:Int)) then
      vIdx a7 s z fun aw=>
      LD u aw fun ax=>
      vIdx a7 (ε.wrap (s-1)) z fun ay=>
      LD u ay fun az=>
      bif !(eqb ax az) then
       vIdx a7 s z fun b0=>
       LD u b0 fun b1=>
       vIdx v0 o z fun b2=>
       ST u b2 b1 fun a4=>
       ∃ a5,a5<a9/\a8 a5 (ε.wrap (o+1)) (ε.wrap (s+1)) a4
      else
       ∃ a5,a5<a9/\a8 a5 o (ε.wrap (s+1)) u
     else
      vSliceS v0 z (some (.int .i64 o)) none none fun b3=>
      vClear zero b3 u fun _ b4=>
      vSliceS v0 z none (some (.int .i64 o)) none fun b5=>
      R b5 b4
    else
     ∃ m,m<n/\J m (ε.wrap (x3+1)) g
   else
    R v0 g:=by
 have frz:Frz E E:=ZH3 bx;have ap:∀ {k:Nat} {x:α} {ys:List α},ys[k]?=some x->gIdx ys (k:Int)=some x:=fun h=>by unfold gIdx;rw [if_pos ω,Int.toNat_natCast];exact h
 have w1:∀ {k:Nat},k<e.length->ε.wrap ((k:Int)+1)=((k+1:Nat):Int):=fun h=>by rw [Zbd ω ω];omega
 have w2:∀ {k:Nat},k+1<=e.length->ε.wrap (((k+1:Nat):Int)-1)=(k:Int):=fun h=>by rw [Zbd ω ω];omega
 refine Zy (st.rdL 0 rfl frz) ?_;refine ZeC (fun w=>?_) (fun w=>?_)
 ·have hl:e.length<2:=by have:=of_decide_eq_true w;omega
  have hr:r=e:=by
   cases e with
   | nil=>exact (Option.some.inj hp).symm
   | cons a t=>
    cases t with
    | nil=>exact (Option.some.inj hp).symm
    | cons b t=>simp at hl;omega
  subst hr;exact hR _ _ st
 ·have hl:2<=e.length:=by have:=of_decide_eq_false w;omega
  refine ⟨fun n s g=>S ψ h0 g (.it (El.ow E) [v0] e::os)/\∃ k p q,s=((k+1:Nat):Int)/\k+1+n=e.length/\e[k]?=some p/\cpt (fun a b=>some (eqb a b)) p (e.drop (k+1))=some q/\r=e.take (k+1)++q,⟨e.length-1,st,?_⟩,?_⟩
  ·cases e with
   | nil=>simp at hl
   | cons a t=>
    have hp:(cpt (fun a b=>some (eqb a b)) a t).map (a::·)=some r:=hp;cases hq:cpt (fun a b=>some (eqb a b)) a t with
    | none=>rw [hq] at hp;cases hp
    | some q=>rw [hq] at hp;exact ⟨0,a,q,rfl,by simp;omega,rfl,by simpa using hq,by simpa using (Option.some.inj hp).symm⟩
  ·rintro n _ s g ⟨st,k,p,q,rfl,da,b9,hq,hr⟩;refine Zy (st.rdL 0 rfl frz) ?_;refine ZeC (fun w=>?_) (fun w=>?_)
   ·have hk:k+1<e.length:=by have:=of_decide_eq_true w;omega
    obtain ⟨y,hy⟩:=Za2 (xs:=e) (k:=k+1) hk;obtain ⟨b,l,f1,f2,f3⟩:=ZjP (Ziz hy) hq;have f1:eqb y p=b:=Option.some.inj f1;refine ZV (st.rdL 0 rfl frz) (ap hy) fun bd ad=>?_;refine ah (st.rdL 0 rfl frz) ad (ap hy) ?_;simp only [w2 (k:=k) ω];refine ZV (st.rdL 0 rfl frz) (ap b9) fun be ac=>?_;refine ah (st.rdL 0 rfl frz) ac (ap b9) ?_;cases b with
    | false=>
     refine Zir f1 ?_;refine ⟨n-1,by omega,st,k+1,y,l,w1 hk,by omega,hy,f2,?_⟩;rw [hr,f3,Zkf hy];simp
    | true=>
     refine Zkc f1 ?_;have hg:gSl e ((k+1:Nat):Int) (e.length:Int)=some (e.drop (k+1)):=by
      unfold gSl;rw [if_pos ⟨by omega,by omega,by omega⟩,Int.toNat_natCast,Int.toNat_natCast,List.take_length]
     refine Zc1 (some ((k+1:Nat):Int)) none (st.rdL 0 rfl frz) hg fun ai hv=>?_;simp only [Option.getD_some,Option.getD_none,Int.toNat_natCast] at hv;have b7:r=e.take (k+1)++l:=by rw [hr,f3];rfl
     refine ⟨fun n3 s x7 a4=>∃ ys:List α,S ψ h0 a4 (.it (El.ow E) [v0] ys::os)/\∃ k' f p q,s=((k':Nat):Int)/\x7=((f+1:Nat):Int)/\k+1+f+1+n3=e.length/\ys.length=e.length/\k'<=k+1+f/\e[k+1+f]?=some p/\(∀ j,k+1+f<=j->ys[j]?=e[j]?)/\cpt (fun a b=>some (eqb a b)) p (e.drop (k+1+f+1))=some q/\r=ys.take k'++q,
      ⟨e.length-(k+2),e,st,k+1,0,y,l,rfl,rfl,by omega,rfl,by omega,hy,fun _ _=>rfl,f2,b7⟩,?_⟩
     rintro n3 _ s x7 a4 ⟨ys,st,k',f,p,q,rfl,rfl,bf,bm,d9,b9,b8,hq,hr⟩;have cf:gSl ys ((k+1:Nat):Int) (ys.length:Int)=some (ys.drop (k+1)):=by
      unfold gSl;rw [if_pos ⟨by omega,by omega,by omega⟩,Int.toNat_natCast,Int.toNat_natCast,List.take_length]
     have cc:IsView v0 z (((k+1:Nat):Int)).toNat ((ys.length:Int)).toNat ai:=by rw [bm];exact hv
     have fv:SlC (hcell a4) E ai (ys.drop (k+1)):=cc.C (st.rdL 0 rfl frz) cf hz;refine Zy fv ?_;refine ZeC (fun w=>?_) (fun w=>?_)
     ·have ae:k+1+f+1<e.length:=by
       have:=of_decide_eq_true w;rw [List.length_drop] at this;omega
      obtain ⟨y,hy⟩:=Za2 (xs:=e) (k:=k+1+f+1) ae;obtain ⟨b,l,f1,f2,f3⟩:=ZjP (Ziz hy) hq;have f1:eqb y p=b:=Option.some.inj f1;have g1:(ys.drop (k+1))[f+1]?=some y:=by rw [List.getElem?_drop,show k+1+(f+1)=k+1+f+1 by omega,b8 _ ω];exact hy
      have g2:(ys.drop (k+1))[f]?=some p:=by rw [List.getElem?_drop,b8 _ ω];exact b9
      refine ZV fv (ap g1) fun bg ad=>?_;refine ah fv ad (ap g1) ?_;simp only [w2 (k:=f) ω];refine ZV fv (ap g2) fun bh ac=>?_;refine ah fv ac (ap g2) ?_;cases b with
      | false=>
       refine Zkc (by rw [f1];rfl) ?_;refine ZV fv (ap g1) fun bi ba=>?_;refine ah fv ba (ap g1) ?_;obtain ⟨z',bw⟩:=Za2 (xs:=ys) (k:=k') ω;refine ZV (st.rdL 0 rfl frz) (ap bw) fun bj bb=>?_;refine c9 st 0 rfl bb (ap bw) fun bk st=>?_;dsimp only [List.set] at st;rw [Int.toNat_natCast] at st;refine ⟨n3-1,by omega,_,st,k'+1,f+1,y,l,w1 ω,w1 ω,by omega,by rw [List.length_set];exact bm,by omega,hy,fun j hj=>?_,f2,?_⟩
       ·rw [List.getElem?_set_ne ω];exact b8 j ω
       ·rw [hr,f3,Zkf (y:=y) (List.getElem?_set_self ω),List.take_set_of_le (Nat.le_refl _)];simp
      | true=>
       refine Zir (by rw [f1];rfl) ?_;exact ⟨n3-1,by omega,ys,st,k',f+1,y,l,rfl,w1 ω,by omega,bm,by omega,hy,fun j hj=>b8 j ω,f2,by rw [hr,f3];rfl⟩
     ·have ae:k+1+f+1=e.length:=by
       have:=of_decide_eq_false w;rw [List.length_drop] at this;omega
      have af:q=[]:=by
       rw [ae,List.drop_length] at hq;exact (Option.some.inj hq).symm
      refine Ztf (fun φ L cs x h=>(bx φ φ L cs x h).1) st 0 rfl hz ce ω ω fun v' h' st=>?_;dsimp only [List.set] at st;rw [Int.toNat_natCast] at st;rw [hr,af,List.append_nil] at hR;exact hR v' h' st
   ·have hk:k+1=e.length:=by have:=of_decide_eq_false w;omega
    have af:q=[]:=by
     rw [hk,List.drop_length] at hq;exact (Option.some.inj hq).symm
    rw [hr,af,hk,List.take_length,List.append_nil] at hR;exact hR v0 g st
end
end Go.Vc
