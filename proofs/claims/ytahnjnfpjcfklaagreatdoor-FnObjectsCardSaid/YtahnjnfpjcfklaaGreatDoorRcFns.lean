import Derived.Test.YtahnjnfpjcfklaaGreatDoorVcLw
import Derived.Test.YtahnjnfpjcfklaaGreatDoorVcAu
import Derived.Test.YtahnjnfpjcfklaaGreatDoorVcDn
import Derived.Test.YtahnjnfpjcfklaaGreatDoorRcFnsP3
open Go.IntKind renaming i64->ε
namespace Go.Proofs.YtahnjnfpjcfklaaGreatDoor
open Go Go.Vc
set_option linter.unusedVariables false
set_option linter.unusedSimpArgs false
set_option maxRecDepth 20000
set_option maxHeartbeats 4000000
attribute [local irreducible] CallsQ vLen vIdx IntKind.wrap hcell vNew vNewS vSliceS vStore1 vAppend vMake vCopy vB2S vS2B vNilS vSliceStr
theorem ZG6 {ψ:CM} {h0 h:Heap} {os:List Ob} {f:List (List Int)} {v0:Value} {u:(List Int)->(List Int)->Option Bool} {w:Nat} {a3:List Value} {r:List (List Int)} (N:Zf9 f u=some r) (C:S ψ h0 h (.it (El.ow eL) [v0] f::os)) (o1:ctx.okf w=true) (k1:∀ {h1:Heap},ExtH h0 h1->∀ {ψ1:CM},CLe ψ1 (hcell h1)->∀ {y0:List Int} {a4:Value} {y1:List Int} {a5:Value} {r1:Bool},u y0 y1=some r1->SlC (hcell h1) eI a4 y0->SlC (hcell h1) eI a5 y1->CallsH P w (([a4,a5]:List Value)++a3).toArray h1 (fun v h'=>v=.bool r1/\S ψ1 h1 h' [])):CallsH P 323 #[v0,.func (.func w) #[] a3.toArray] h (fun v h'=>∃ w0,v=w0/\S ψ h0 h' (.it (El.ow eL) [w0] r::os)):=by
  apply ZEU;unfold Zf9 at N;split at N
  case isFalse=>cases N
  rename_i ce;have frz:Frz eL eL:=Zaj _;have ap:∀ {k:Nat} {x:List Int} {ys:List (List Int)},ys[k]?=some x->gIdx ys (k:Int)=some x:=fun h=>by unfold gIdx;rw [if_pos ω,Int.toNat_natCast];exact h
  have w1:∀ {k:Nat},k<f.length->ε.wrap ((k:Int)+1)=((k+1:Nat):Int):=fun h=>by rw [Zbd ω ω];omega
  have w2:∀ {k:Nat},k+1<=f.length->ε.wrap (((k+1:Nat):Int)-1)=(k:Int):=fun h=>by rw [Zbd ω ω];omega
  refine Zy slA ?_;refine ZeC (fun i=>?_) (fun i=>?_)
  · have hl:f.length<2:=by have:=of_decide_eq_true i;omega
    have hr:r=f:=by
      cases f with
      | nil=>exact (oI N).symm
      | cons a t=>
        cases t with
        | nil=>exact (oI N).symm
        | cons b t=>simp at hl;omega
    subst hr;exact ⟨v0,rfl,C⟩
  · have hl:2<=f.length:=by have:=of_decide_eq_false i;omega
    refine ⟨fun n x5 aj=>S ψ h0 aj (.it (El.ow eL) [v0] f::os)/\∃ k p q,x5=((k+1:Nat):Int)/\k+1+n=f.length/\f[k]?=some p/\cpt u p (f.drop (k+1))=some q/\r=f.take (k+1)++q,⟨f.length-1,C,?_⟩,?_⟩
    · cases f with
      | nil=>simp at hl
      | cons a t=>
        have N:(cpt u a t).map (a::·)=some r:=N;cases o:cpt u a t with
        | none=>rw [o] at N;cases N
        | some q=>rw [o] at N;exact ⟨0,a,q,rfl,by simp;omega,rfl,by simpa using o,by simpa using (oI N).symm⟩
    · rintro n _ x5 aj ⟨C,k,p,q,rfl,ci,ai,o,hr⟩;refine Zy slA ?_;refine ZeC (fun i=>?_) (fun i=>?_)
      · have hk:k+1<f.length:=by have:=of_decide_eq_true i;omega
        obtain ⟨y,hy⟩:=Za2 (xs:=f) (k:=k+1) hk;obtain ⟨b,l,f1,f2,f3⟩:=ZjP (Ziz hy) o;refine ZV slA (ap hy) fun b5 ad=>?_;refine ldV_C slA (CLe.refl _) ad (ap hy) fun au a9=>?_;simp only [w2 (k:=k) ω];refine ZV slA (ap ai) fun b6 aa=>?_;refine ldV_C slA (CLe.refl _) aa (ap ai) fun av ab=>?_;refine Zcr o1 ?_;obtain ⟨φ,L,s,q0⟩:=id C;refine (k1 C.ext s.fle f1 a9 ab).mono fun v b7 ⟨e,t⟩=>⟨_,e,?_⟩;replace C:=join0 s q0 t;clear t s q0;cases b with
        | false=>
          refine Zir rfl ?_;refine ⟨n-1,by omega,C,k+1,y,l,w1 hk,by omega,hy,f2,?_⟩;rw [hr,f3,Zkf hy];simp
        | true=>
          refine Zkc rfl ?_;have hg:gSl f ((k+1:Nat):Int) (f.length:Int)=some (f.drop (k+1)):=by
            unfold gSl;rw [if_pos ⟨by omega,by omega,by omega⟩,Int.toNat_natCast,Int.toNat_natCast,List.take_length]
          refine Zc1 (some ((k+1:Nat):Int)) none slA hg fun ae hv=>?_;simp only [Option.getD_some,Option.getD_none,Int.toNat_natCast] at hv;have ax:r=f.take (k+1)++l:=by rw [hr,f3];rfl
          refine ⟨fun n3 x5 x7 af=>∃ ys,S ψ h0 af (.it (El.ow eL) [v0] ys::os)/\∃ k' g p q,x5=((k':Nat):Int)/\x7=((g+1:Nat):Int)/\k+1+g+1+n3=f.length/\ys.length=f.length/\k'<=k+1+g/\f[k+1+g]?=some p/\(∀ j,k+1+g<=j->ys[j]?=f[j]?)/\cpt u p (f.drop (k+1+g+1))=some q/\r=ys.take k'++q,
            ⟨f.length-(k+2),f,C,k+1,0,y,l,rfl,rfl,by omega,rfl,by omega,hy,fun _ _=>rfl,f2,ax⟩,?_⟩
          rintro n3 _ x5 x7 af ⟨ys,C,k',g,p,q,rfl,rfl,b8,ak,ch,ai,ac,o,hr⟩;have az:gSl ys ((k+1:Nat):Int) (ys.length:Int)=some (ys.drop (k+1)):=by
            unfold gSl;rw [if_pos ⟨by omega,by omega,by omega⟩,Int.toNat_natCast,Int.toNat_natCast,List.take_length]
          have aq:IsView v0 1 (((k+1:Nat):Int)).toNat ((ys.length:Int)).toNat ae:=by rw [ak];exact hv
          have fv:SlC (hcell af) eL ae (ys.drop (k+1)):=aq.C slA az rfl;refine Zy fv ?_;refine ZeC (fun i=>?_) (fun i=>?_)
          · have ag:k+1+g+1<f.length:=by
              have:=of_decide_eq_true i;rw [List.length_drop] at this;omega
            obtain ⟨y,hy⟩:=Za2 (xs:=f) (k:=k+1+g+1) ag;obtain ⟨b,l,f1,f2,f3⟩:=ZjP (Ziz hy) o;have w:(ys.drop (k+1))[g+1]?=some y:=by rw [List.getElem?_drop,show k+1+(g+1)=k+1+g+1 by omega,ac _ ω];exact hy
            have g2:(ys.drop (k+1))[g]?=some p:=by rw [List.getElem?_drop,ac _ ω];exact ai
            refine ZV fv (ap w) fun b9 ad=>?_;refine ldV_C fv (CLe.refl _) ad (ap w) fun au a9=>?_;simp only [w2 (k:=g) ω];refine ZV fv (ap g2) fun ba aa=>?_;refine ldV_C fv (CLe.refl _) aa (ap g2) fun av ab=>?_;refine Zcr o1 ?_;obtain ⟨φ,L,s,q0⟩:=id C;refine (k1 C.ext s.fle f1 a9 ab).mono fun v b0 ⟨e,t⟩=>⟨_,e,?_⟩;replace C:=join0 s q0 t;clear t s q0;have fv:SlC (hcell b0) eL ae (ys.drop (k+1)):=aq.C slA az rfl;cases b with
            | false=>
              refine Zkc rfl ?_;refine ZV fv (ap w) fun b1 b2=>?_;have b3:AddrOf v0 (((k+1:Nat):Int)+((g+1:Nat):Int)) 1 b1:=aq.addr b2 ω (by rw [Int.toNat_natCast,Int.toNat_natCast,Int.toNat_natCast];omega);have c3:gIdx ys (((k+1:Nat):Int)+((g+1:Nat):Int))=some y:=by
                rw [show ((k+1:Nat):Int)+((g+1:Nat):Int)=((k+1+g+1:Nat):Int) by omega];exact ap (by rw [ac _ ω];exact hy)
              refine Zb9 C 0 rfl b3 c3 fun bb C=>?_;obtain ⟨z,hz⟩:=Za2 (xs:=ys) (k:=k') ω;refine ZV slA (ap hz) fun bc b4=>?_;refine ZfE C 0 rfl b4 (ap hz) rfl fun bd C=>?_;dsimp only [List.set] at C;rw [Int.toNat_natCast] at C;refine ⟨n3-1,by omega,_,C,k'+1,g+1,y,l,w1 ω,w1 ω,by omega,by rw [List.length_set];exact ak,by omega,hy,fun j hj=>?_,f2,?_⟩
              · rw [List.getElem?_set_ne ω];exact ac j ω
              · rw [hr,f3,Zkf (y:=y) (List.getElem?_set_self ω),List.take_set_of_le (Nat.le_refl _)];simp
            | true=>
              refine Zir rfl ?_;exact ⟨n3-1,by omega,ys,C,k',g+1,y,l,rfl,w1 ω,by omega,ak,by omega,hy,fun j hj=>ac j ω,f2,by rw [hr,f3];rfl⟩
          · have ag:k+1+g+1=f.length:=by
              have:=of_decide_eq_false i;rw [List.length_drop] at this;omega
            have ah:q=[]:=by
              rw [ag,List.drop_length] at o;exact (oI o).symm
            refine Ztf Zfh C 0 rfl rfl rfl ω ω fun v' h' C=>?_;dsimp only [List.set] at C;rw [Int.toNat_natCast] at C;rw [hr,ah,List.append_nil];exact ⟨v',rfl,C⟩
      · have hk:k+1=f.length:=by have:=of_decide_eq_false i;omega
        have ah:q=[]:=by
          rw [hk,List.drop_length] at o;exact (oI o).symm
        rw [hr,ah,hk,List.take_length,List.append_nil];exact ⟨v0,rfl,C⟩
section
variable {ψ:CM} {h:Heap} (hψ:CLe ψ (hcell h))
include hψ
theorem ZF5 {y0 v0 y1 v1 r} (N:ZkN y0 y1=some r) (f0:sc h eL v0 y0) (f1:sc h eI v1 y1):zL 295 #[v0,v1] h ψ eI r:=by
 refine zT [[3,132],[7,49,192],[19,390]] Tryz.func295 fun C=>?_;refine vL f1 C.le ?_;refine mkO oL N fun b7 l b8 C N=>?_;refine vL f1 C.le ?_;refine lw11 N (fun a3 xs=>([.it (El.ow oL) [l] xs],a3,xs)) fun a3 b9 xs a C N O=>?_;apply brQ N<;>intro N
 ·refine ixI slA N fun a4 N=>?_;refine ixV f0 C.le N fun ba bb f N=>?_;refine vL f C.le ?_;have C:=C.nilO (E:=eI);refine lw21 N (fun v8 a5 y8=>([.it oL [v8] y8,.it (El.ow oL) [l] xs],y8,a5)) fun v8 a5 bc y8 bd C N O=>?_;apply brQ N<;>intro N
  ·refine ixI slA N fun be N=>?_;refine ixI slA N fun bf N=>?_;refine puA N 0 fun bg bh bi C N=>?_;exact endL
  ·obtain ⟨bj,ad,N⟩:=obind N;obtain ⟨φ,L,s,a6⟩:=id C;refine (Zjf ad (s.upS a6) ).mono fun bk bm ⟨eq,t⟩=>⟨eq,?_⟩;replace C:=s.downS t;clear t s a6;refine ZP (E:=eI) (css:=[[.int .i64 a4]]) (xs:=([a4]:List Int)) C (fun _=>⟨[],[],rfl,⟨rfl,rfl⟩,rfl⟩) rfl rfl fun bn bo C=>?_;obtain ⟨bp,ae,N⟩:=obind N;refine app_S C 0 rfl (Zf3 (ZdK _) slA) rfl rfl ae fun bq br C=>?_;dsimp at C;refine ixA slA N fun bs bt af ag N=>?_;refine ZfE C 1 rfl af ag rfl fun bu C=>?_;dsimp at C;exact endX
 ·have C:=frA 0;refine cl1 N C (fun ap aq _ u=>ZFC ap.fle u (frF aq 0 rfl)) fun bv bw az C N=>⟨_,rfl,?_⟩;obtain ⟨bx,v,N⟩:=obind N;obtain ⟨b0,bz,o,a7⟩:=id C;refine (Zp9 v (o.upS a7) κ (fun a8=>fun e=>fun g i j=>ZrB e g i j)).mono fun c0 b1 ⟨ah,a9⟩=>⟨ah,?_⟩
  replace C:=o.downS a9;clear a9 o a7;obtain ⟨ar,w,N⟩:=obind N;refine (ZG6 w C κ (fun a8=>fun e=>fun g i j=>ZtC e g i j)).mono fun c3 b2 ⟨au,ai,C⟩=>⟨_,ai,?_⟩
  refine vL f1 C.le ?_;refine mkO eI N fun c4 av b3 C N=>?_;refine Zy slA ?_;refine lw11 N (fun aa k=>([.it oL [av] k,.it (El.ow eL) [au] ar,.it (El.sl eL) [l] xs],aa,k)) fun aa b4 k c5 C N O=>?_;apply brQ N<;>intro N
  ·refine ixA slA N fun c6 c7 aj x N=>?_;refine ZtF C 2 rfl aj x fun c8 C=>?_;refine cl0 N C (fun aw _ _ y=>Zs5 aw.fle y slA slA κ (fun a8=>fun e=>fun g i j=>ZeH e g i j)) fun c9 b5 C N=>⟨_,_,rfl,?_⟩
   refine ixA slA N fun ca cb ak a2 N=>?_;refine st1_S C 1 rfl ak a2 rfl (fun _=>⟨rfl,rfl⟩) fun b6 C=>?_;dsimp at C;exact endL
  ·exact endX
end
theorem ZHE {ψ:CM} {e h:Heap} {os:List Ob} {f:List Int} {v0:Value} {r:List Int} (N:Zjq f=some r) (C:S ψ e h (.it oL [v0] f::os)):CallsH P 324 #[v0] h (fun v g=>∃ w0,v=w0/\S ψ e g (.it oL [w0] r::os)):=by
 apply ZyY;unfold Zjq at N;split at N
 case isFalse=>cases N
 rename_i j;exact ZqO (E:=eI) (ZdK _) (z:=1) rfl (zero:=[.int .i64 0]) rfl (fun h p K=>ldI .i64 h p K) (fun h p y K=>vStore1 h p (.int .i64 y) K) (fun a b=>a==b) (fun u N hi k=>ldI_C u N hi k) (fun C i o N k l=>st1_S C i o N k rfl (fun _=>⟨rfl,rfl⟩) l) j N C (R:=fun v g=>∃ w0,v=w0/\S ψ e g (.it oL [w0] r::os)) fun v g C=>⟨v,rfl,C⟩
section
variable {ψ:CM} {h:Heap} (hψ:CLe ψ (hcell h))
include hψ
theorem Zqg {cells0 v0 r} (N:Zgv cells0=some r) (f0:sc h eI v0 cells0):zR 296 #[v0] h ψ (.int .i64 r):=by
 refine zO Tryz.func296 fun C=>?_;refine cm1 N C (fun s l=>ZjT s l slA) fun r5 v5 u C N=>⟨_,rfl,?_⟩;obtain ⟨r7,g,N⟩:=obind N;obtain ⟨o,v,a,e⟩:=id C;refine (Zjf g (a.upS e) ).mono fun w x ⟨i,f⟩=>⟨i,?_⟩;replace C:=a.downS f;clear f a e;obtain ⟨r9,j,N⟩:=obind N;refine (ZHE j C ).mono fun y a2 ⟨v9,k,C⟩=>⟨_,k,?_⟩;refine Zy slA ?_;exact tZ
theorem Zvz {lists0 v0 cells1 v1 r} (N:ZjN lists0 cells1=some r) (w:sc h eL v0 lists0) (i:SlC ψ eI v1 cells1):zL 245 #[v0,v1] h ψ eI r:=by
 refine zT [[1,7]] Tryz.func245 fun C=>?_;have C:=C.arg i;refine lw11 N (fun f e=>([.it eL [f] e],e)) fun f j e a C N O=>?_;refine cm1 N C (fun s g=>ZF5 s g slA slA) fun x y k C N=>⟨_,rfl,?_⟩;refine cm0 N C (fun s g=>Zqg s g slA) fun l o C N=>⟨_,rfl,?_⟩;refine cm0 N C (fun s g=>Zqg s g slA) fun u v C N=>⟨_,rfl,?_⟩;apply brQ N<;>intro N
 ·exact endX
 ·have C:=frA 0;exact endL
theorem ZIe {cells0 v0 r} (N:Zik cells0=some r) (f:sc h eI v0 cells0):zL 292 #[v0] h ψ eI r:=by
 refine zT [[2,54],[6,25,84]] Tryz.func292 fun C=>?_;refine vL f C.le ?_;refine lp1 N (nlS C) fun m v i a C N O=>?_;apply brQ N<;>intro N
 ·refine vL f C.le ?_;have C:=C.nilO (E:=eI);refine lw21 N (fun g e w=>([.it oL [g] w],w,e)) fun g e j w k C N O=>?_;apply brQ N<;>intro N
  ·refine ixI slA N fun l N=>?_;apply brQ N<;>intro N
   ·refine puA N 0 fun o s u C N=>?_;exact endL
   ·exact endL
  ·refine Zy slA ?_;apply brQ N<;>intro N
   ·exact endX
   ·exact endX
 ·exact endX
theorem ZvK {y e f p1 v1 r} (N:Zhe y p1=some r) (k:sc h eI e y.Colors) (l:sc h Zx f y.Edges) (f1:sc h eI v1 p1):CallsH P 320 #[.agg #[e,f],v1] h (fun v h'=>∃ w0 w1,v=.agg #[w0,w1]/\S ψ h h' [.it oL [w0] r.Colors,.it (El.ow Zx) [w1] r.Edges]):=by
 refine zS hψ ⟨an [[3,108],[8,210]],[],[],[(10,⟨kdL [0,2,0,0,1,0,1,0,0,1,0,1,0,3,4,0,4],.fin (rgs [(2,12),(0,2),(14,3)]),true⟩)]⟩ Tryz.func320 fun C=>?_;refine new_S C fun b2 am C=>?_;refine new_S C fun b4 ao C=>?_;refine bV C 1 0 ?_;refine vL k C.le ?_;refine mkO eI N fun ap j aq C N=>?_;refine Zh oneA ?_;refine new_S C fun b5 ar C=>?_;(iterate 2 refine boxA fun au C=>?_);refine bV C 3 0 ?_;refine vL k C.le ?_;refine lw11 N (fun w xs=>([.box b5 [j,(.slice none 0 0)],.it oL [j] xs,.box b4 [(.slice none 0 0),(.slice none 0 0)],.box b2 [e,f]],w,xs)) fun w av xs a C N O=>?_;apply brQ N<;>intro N
 ·refine ixI slA N fun aw N=>?_;refine bV C 0 0 ?_;refine ixI slA N fun ax N=>?_;refine ixA slA N fun ay az a2 a3 N=>?_;refine st1_S C 1 rfl a2 a3 rfl (fun _=>⟨rfl,rfl⟩) fun b0 C=>?_;dsimp at C;exact endL
 ·refine bV C 3 1 ?_;refine vL l C.le ?_;have C:=C.nilO (E:=Zx);refine lw12 N (fun x i o=>([.box b5 [j,o],.it oL [j] xs,.box b4 [(.slice none 0 0),(.slice none 0 0)],.box b2 [e,f],.it (El.ow Zx) [o] i],x,i)) fun x ad i o b1 C N O=>?_;apply brQ N<;>intro N
  ·refine ixA slA N fun b3 b6 a4 a5 N=>?_;obtain ⟨cs,ck,hr⟩:=l.cells a4 a5 rfl;obtain rfl:=ZaI hr;refine lsA ?_;refine new_S C fun b9 ae C=>?_;(iterate 2 refine boxA fun a6 C=>?_);refine ⟨fun _=>False,?_⟩;have u:=C;have g:=eX a6;refine bI C 0 0 ?_;refine ixI slA N fun ab N=>?_;refine bI C 0 1 ?_;refine ixI slA N fun ac N=>?_;refine ZeN C fun b7 af xE C=>⟨eZ (g.trans xE),?_⟩;replace g:=g.trans xE;refine Z4 ?_;refine ldV_K (u.cells 1 rfl) 1 rfl rfl ?_;obtain ⟨b8,a7,N⟩:=obind N;refine Zk3 C 6 rfl 0 rfl (fun _=>⟨[.int .i64 ab],[.int .i64 ac],[],[],rfl,rfl,⟨rfl,rfl⟩,⟨rfl,rfl⟩⟩) rfl rfl a7 fun ba ag xE C=>?_;refine boxA fun ah C=>?_;exact endL
  ·refine bV C 0 1 ?_;refine cm1 N C (fun s hx=>Zsg s hx slA) fun bb bc aj C N=>⟨_,rfl,?_⟩;refine boxA fun ak C=>?_;refine lsA ?_;(iterate 2 refine boxA fun al C=>?_);refine lsA ?_;exact endX
theorem ZuI {edges0 v0 r} (N:Zhd edges0=some r) (i:sc h Zx v0 edges0):zL 339 #[v0] h ψ eI r:=by
 refine zT [[3,19,48]] Tryz.func339 fun C=>?_;refine vL i C.le ?_;have C:=C.nilO (E:=eI);refine lw21 N (fun j k e=>([.it oL [j] e],e,k)) fun j k s e a C N O=>?_;apply brQ N<;>intro N
 ·refine ixA slA N fun f u l o N=>?_;obtain ⟨cs,ck,hr⟩:=i.cells l o rfl;obtain rfl:=ZaI hr;refine lsA ?_;refine new_S C fun b5 v C=>?_;(iterate 2 refine boxA fun w C=>?_);refine lsA ?_;refine ZP (E:=eI) (css:=[[.int .i64 f.A],[.int .i64 f.B]]) (xs:=([f.A,f.B]:List Int)) C (fun _=>⟨[],[],rfl,⟨rfl,rfl⟩,⟨[],[],rfl,⟨rfl,rfl⟩,rfl⟩⟩) rfl rfl fun x y C=>?_;obtain ⟨a2,g,N⟩:=obind N;refine app_S C 2 rfl (Zf3 (ZdK _) slA) rfl rfl g fun a3 a4 C=>?_;dsimp at C;exact endL
 ·exact endX
theorem ZAu {l e f h1 g i r} (N:Zfq l h1=some r) (v:sc h eI e l.Colors) (w:sc h Zx f l.Edges) (x:sc h eI g h1.Colors) (y:sc h Zx i h1.Edges):zR 321 #[.agg #[e,f],.agg #[g,i]] h ψ (.int .i64 r):=by
 refine zS hψ ⟨[],[],[],[(4,⟨kdL [0,1,3,0,2,4,4,0],.fin (rgs [(0,8)]),true⟩)]⟩ Tryz.func321 fun C=>?_;refine new_S C fun b2 a2 C=>?_;refine new_S C fun b3 a3 C=>?_;refine lsA ?_;refine cm0 N C (fun s j=>ZeH s j slA slA) fun a4 u C N=>⟨_,rfl,?_⟩;refine brZ fun N=>?_;refine ⟨fun _=>False,?_⟩;have k:=C;have a:=eX u;refine bV C 1 1 ?_;obtain ⟨a5,o,N⟩:=obind N;refine ce1 C (fun s=>ZuI s.fle o slA) fun a6 a7 xE C=>⟨_,rfl,eZ (a.trans xE),?_⟩;replace a:=a.trans xE;refine Z4 ?_;refine ldV_K (k.cells 0 rfl) 1 rfl rfl ?_;refine cm1 N C (fun s j=>ZuI s j slA) fun a8 a9 aa C N=>⟨_,rfl,?_⟩;refine cm0 N C (fun s j=>ZeH s j slA slA) fun ab ac C N=>⟨_,rfl,?_⟩;exact tZ
end
theorem ZyH {ψ:CM} {w h:Heap} {os:List Ob} {a:ZE} {b0:Nat} {e:List Value} {f g i j k l:Value} {p1:List Int} {v1:Value} {r:ZE} (N:ZeJ a p1=some r) (C:S ψ w h (.box b0 (.int .i64 a.qcounter.qleft::.bool a.qcounter.qspent::f::g::i::.int .i64 a.qnodes::.int .i64 a.qleaves::j::k::l::e)::.it oL [j] a.qform.Colors::.it (El.ow Zx) [k] a.qform.Edges::.it (El.ow eL) [l] a.qbest::os)) (ae:SlC (UB ψ w) eI f a.qgraph.Colors) (af:SlC (UB ψ w) Zx g a.qgraph.Edges) (ag:SlC (UB ψ w) eL i a.qlists) (f1:SlC ψ eI v1 p1):CallsH P 293 #[.pointer (some ⟨b0,0,none⟩),v1] h (fun v h'=>∃ w0 w1 w2,v=.tuple #[]/\S ψ w h' (.box b0 (.int .i64 r.qcounter.qleft::.bool r.qcounter.qspent::f::g::i::.int .i64 r.qnodes::.int .i64 r.qleaves::w0::w1::w2::e)::.it oL [w0] r.qform.Colors::.it (El.ow Zx) [w1] r.qform.Edges::.it (El.ow eL) [w2] r.qbest::os)):=by
 refine zv ⟨[],an [[5,30],[7]],[],[]⟩ Tryz.func293 ?_;refine bI C 0 6 ?_;refine boxA fun al C=>?_;refine lsA ?_;refine cl2 N C (fun s _ _ hx=>ZvK s.fle hx slA slA (f1.mono C.leF)) fun a5 a6 a2 am C N=>⟨_,_,rfl,?_⟩;refine new_S C fun b4 ao C=>?_;(iterate 2 refine boxA fun ap C=>?_);refine ⟨fun c5 a7=>S ψ w a7 (.box b4 [a6,a2]::.it oL [a6] a5.Colors::.it (El.ow Zx) [a2] a5.Edges::.box b0 (.int .i64 a.qcounter.qleft::.bool a.qcounter.qspent::f::g::i::.int .i64 a.qnodes::.int .i64 (ε.wrap (a.qleaves+1))::j::k::l::e)::.it oL [j] a.qform.Colors::.it (El.ow Zx) [k] a.qform.Edges::.it (El.ow eL) [l] a.qbest::os)/\Zc8 a p1 a5 c5=some r,?_,?_⟩
 ·refine bV C 3 9 ?_;refine Zy slA ?_;apply brQ N<;>intro N
  ·refine lsA ?_;refine cm0 N C (fun s hx=>ZAu s hx slA slA slA slA) fun aq ai C N=>⟨_,rfl,?_⟩;exact ⟨pkT C 7 [0,1,2,3,4,5,6],N⟩
  ·exact ⟨pkT C 7 [0,1,2,3,4,5,6],N⟩
 ·rintro _ c5 a7 ⟨C,N⟩;refine ⟨fun a8=>∃ xs o x u y a3,S ψ w a8 (.box b0 (.int .i64 a.qcounter.qleft::.bool a.qcounter.qspent::f::g::i::.int .i64 a.qnodes::.int .i64 (ε.wrap (a.qleaves+1))::o::u::a3::e)::.it oL [o] xs::.it (El.ow Zx) [u] x::.it (El.ow eL) [a3] y::os)/\ZdC a p1 c5 xs x y=some r,?_,?_⟩
  ·apply brQ N<;>intro N
   ·refine lsA ?_;(iterate 3 refine boxA fun aj C=>?_);have C:=C.nilO (E:=eL);exact ⟨_,_,_,_,_,_,pkT C 8 [4,2,3,0],N⟩
   ·exact ⟨_,_,_,_,_,_,pkT C 7 [3,4,5,6],N⟩
  ·rintro _ a8 ⟨xs,o,x,u,y,a3,C,N⟩;apply brQ N<;>intro N
   ·refine bV C 0 9 ?_;refine Zh (f1.mono C.leF).one ?_;have C:=C.arg f1;obtain ⟨ar,ac,N⟩:=obind N;refine Zbw C 3 rfl rfl rfl ac fun ad au C=>?_;refine boxA fun ak C=>?_;obtain rfl:=oI N;exact ⟨o,u,ad,rfl,pkT C 4 [0,1,2,3]⟩
   ·obtain rfl:=oI N;exact ⟨o,u,a3,rfl,pkT C 4 [0,1,2,3]⟩
theorem ZGX {ψ:CM} {g h:Heap} {os:List Ob} {e:Zad} {f:Nat} {a:List Value} {r:Bool×Zad} (N:Zj0 e=some r) (C:S ψ g h (.box f (.int .i64 e.qleft::.bool e.qspent::a)::os))  :CallsH P 294 #[.pointer (some ⟨f,0,none⟩)] h (fun v k=>v=.bool r.1/\S ψ g k (.box f (.int .i64 r.2.qleft::.bool r.2.qspent::a)::os)):=by
 refine zv annO Tryz.func294 ?_;refine bI C 0 0 ?_;apply brQ N<;>intro N
 ·refine boxA fun i C=>?_;obtain rfl:=oI N;exact ⟨rfl,pkT C 1 [0]⟩
 ·refine bI C 0 0 ?_;refine boxA fun j C=>?_;obtain rfl:=oI N;exact ⟨rfl,pkT C 1 [0]⟩
theorem rq_impl_explorer_search {a4:ZE->(List Int)->Option ZE}  (ad:∀ {ψ:CM} {x h:Heap} {os:List Ob} {e:ZE} {b0:Nat} {f:List Value} {g i j y a2 a3:Value} {y1:List Int} {v1:Value} {r:ZE} (N:a4 e y1=some r) (C:S ψ x h (.box b0 (.int .i64 e.qcounter.qleft::.bool e.qcounter.qspent::g::i::j::.int .i64 e.qnodes::.int .i64 e.qleaves::y::a2::a3::f)::.it oL [y] e.qform.Colors::.it (El.ow Zx) [a2] e.qform.Edges::.it (El.ow eL) [a3] e.qbest::os)) (ae:SlC (UB ψ x) eI g e.qgraph.Colors) (af:SlC (UB ψ x) Zx i e.qgraph.Edges) (ag:SlC (UB ψ x) eL j e.qlists) (f1:SlC ψ eI v1 y1),CallsH P 244 #[.pointer (some ⟨b0,0,none⟩),v1] h (fun v h'=>∃ w0 w1 w2,v=.tuple #[]/\S ψ x h' (.box b0 (.int .i64 r.qcounter.qleft::.bool r.qcounter.qspent::g::i::j::.int .i64 r.qnodes::.int .i64 r.qleaves::w0::w1::w2::f)::.it oL [w0] r.qform.Colors::.it (El.ow Zx) [w1] r.qform.Edges::.it (El.ow eL) [w2] r.qbest::os))):∀ {ψ:CM} {x h:Heap} {os:List Ob} {e:ZE} {b0:Nat} {f:List Value} {g:Value} {i:Value} {j:Value} {y:Value} {a2:Value} {a3:Value} {y1:List Int} {v1:Value} {r:ZE} (N:q_impl_explorer_search a4 e y1=some r) (C:S ψ x h (.box b0 (.int .i64 e.qcounter.qleft::.bool e.qcounter.qspent::g::i::j::.int .i64 e.qnodes::.int .i64 e.qleaves::y::a2::a3::f)::.it oL [y] e.qform.Colors::.it (El.ow Zx) [a2] e.qform.Edges::.it (El.ow eL) [a3] e.qbest::os)) (ae:SlC (UB ψ x) eI g e.qgraph.Colors) (af:SlC (UB ψ x) Zx i e.qgraph.Edges) (ag:SlC (UB ψ x) eL j e.qlists) (f1:SlC ψ eI v1 y1),CallsH P 244 #[.pointer (some ⟨b0,0,none⟩),v1] h (fun v h'=>∃ w0 w1 w2,v=.tuple #[]/\S ψ x h' (.box b0 (.int .i64 r.qcounter.qleft::.bool r.qcounter.qspent::g::i::j::.int .i64 r.qnodes::.int .i64 r.qleaves::w0::w1::w2::f)::.it oL [w0] r.qform.Colors::.it (El.ow Zx) [w1] r.qform.Edges::.it (El.ow eL) [w2] r.qbest::os)):=by
 intro ψ x h os e b0 f g i j y a2 a3 y1 v1 r N C ae af ag f1;refine zv ⟨an [[4,120],[10,288]],an [[7]],[],[]⟩ Tryz.func244 ?_;rw [q_impl_explorer_search] at N;refine cl1 N C (fun s _ _ hx=>ZIe s.fle hx (f1.mono C.leF)) fun a7 a9 bk C N=>⟨_,rfl,?_⟩;refine Zy slA ?_;apply brQ N<;>intro N
 ·have C:S ψ x bk (.box b0 (.int .i64 e.qcounter.qleft::.bool e.qcounter.qspent::g::i::j::.int .i64 e.qnodes::.int .i64 e.qleaves::y::a2::a3::f)::.it oL [y] e.qform.Colors::.it (El.ow Zx) [a2] e.qform.Edges::.it (El.ow eL) [a3] e.qbest::.it oL [a9] a7::os):=pkT C 5 [1,2,3,4,0];obtain ⟨c6,b9,N⟩:=obind N;obtain ⟨bx,c7,a8,ay⟩:=id C;refine (ZyH b9 (a8.upS ay) (ae.mono a8.ubU) (af.mono a8.ubU) (ag.mono a8.ubU) (f1.mono a8.bas)).mono fun c8 c9 ⟨bm,au,av,ba,az⟩=>⟨ba,?_⟩;replace C:=a8.downS az;clear az a8 ay;obtain rfl:=oI N;exact ⟨bm,au,av,rfl,pkT C 5 [0,1,2,3]⟩
 ·refine Zy slA ?_;obtain ⟨bn,hn⟩:=ZN N;refine ⟨fun n ak am=>∃ q al a5 a6 xs k u l w o,S ψ x am (.it oL [a9] a7::.box b0 (.int .i64 q::.bool al::g::i::j::.int .i64 a5::.int .i64 a6::k::l::o::f)::.it oL [k] xs::.it (El.ow Zx) [l] u::.it (El.ow eL) [o] w::os)/\loopN (Zcz a4 e y1 a7) n (ak,q,al,a5,a6,xs,u,w)=some r,⟨bn,_,_,_,_,_,_,_,_,_,_,pkT C 5 [0,1,2,3,4],hn⟩,?_⟩;rintro n _ ak am ⟨q,al,a5,a6,xs,k,u,l,w,o,C,hn⟩;obtain ⟨m,a,rfl,N,O⟩:=ZM hn;apply brQ N<;>intro N
  ·refine ixI slA N fun ao N=>?_;refine ⟨fun b1=>∃ aa ab,S ψ x b1 (.it oL [a9] a7::.box b0 (.int .i64 aa::.bool ab::g::i::j::.int .i64 a5::.int .i64 a6::k::l::o::f)::.it oL [k] xs::.it (El.ow Zx) [l] u::.it (El.ow eL) [o] w::os)/\Zoi a4 e y1 ak a5 a6 xs u w ao aa ab=some a,?_,?_⟩
   ·refine bB C 1 1 ?_;apply brQ N<;>intro N
    ·obtain rfl:=oI N;obtain rfl:=oI O;exact ⟨k,l,o,rfl,pkT C 5 [1,2,3,4]⟩
    ·have C:S ψ x am (.box b0 (.int .i64 q::.bool al::g::i::j::.int .i64 a5::.int .i64 a6::k::l::o::f)::.it oL [a9] a7::.it oL [k] xs::.it (El.ow Zx) [l] u::.it (El.ow eL) [o] w::os):=pkT C 5 [1,0,2,3,4];obtain ⟨ca,aw,N⟩:=obind N;obtain ⟨bz,cb,ap,b2⟩:=id C;refine (ZGX aw (ap.upS b2) ).mono fun cc c0 ⟨bc,b3⟩=>⟨_,bc,?_⟩;replace C:=ap.downS b3;clear b3 ap b2;apply brQ N<;>intro N
     ·obtain rfl:=oI N;obtain rfl:=oI O;exact ⟨k,l,o,rfl,pkT C 5 [0,2,3,4]⟩
     ·exact ⟨_,_,pkT C 5 [1,0,2,3,4],N⟩
   ·rintro _ b1 ⟨aa,ab,C,N⟩;refine bI C 1 5 ?_;refine boxA fun cd C=>?_;refine vL f1 C.leF ?_;refine mkO eI N fun ce b4 cf C N=>?_;refine vL f1 C.leF ?_;obtain ⟨bo,aj⟩:=ZN N;refine ⟨fun b5 b6 b7=>∃ ah,S ψ x b7 (.it oL [b4] ah::.it oL [a9] a7::.box b0 (.int .i64 aa::.bool ab::g::i::j::.int .i64 (ε.wrap (a5+1))::.int .i64 a6::k::l::o::f)::.it oL [k] xs::.it (El.ow Zx) [l] u::.it (El.ow eL) [o] w::os)/\loopN (Zez a4 e y1 ak a5 a6 xs u w ao aa ab) b5 (b6,ah)=some a,⟨bo,_,pkT C 6 [0,1,2,3,4,5],aj⟩,?_⟩;rintro b5 _ b6 b7 ⟨ah,C,aj⟩;obtain ⟨cg,ch,rfl,N,aq⟩:=ZM aj;apply brQ N<;>intro N
    ·refine ixI (f1.mono C.leF) N fun ci N=>?_;refine ixA slA N fun cj ck bd be N=>?_;refine st1_S C 0 rfl bd be rfl (fun _=>⟨rfl,rfl⟩) fun cm C=>?_;dsimp at C;obtain rfl:=oI N;exact ⟨_,ltS,_,pkT C 6 [0,1,2,3,4,5],aq⟩
    ·refine ixI slA N fun bp N=>?_;refine ixA slA N fun cn co bf bg N=>?_;refine st1_S C 0 rfl bf bg rfl (fun _=>⟨rfl,rfl⟩) fun c3 C=>?_;dsimp at C;refine bV C 2 4 ?_;have C:=frA 0;refine cl1 N C (fun bq br _ bh=>Zvz bq.fle bh slA (frF br 0 rfl)) fun bs bt bi C N=>⟨_,rfl,?_⟩;have C:=frA 0;have C:S ψ x bi (.box b0 (.int .i64 aa::.bool ab::g::i::j::.int .i64 (ε.wrap (a5+1))::.int .i64 a6::k::l::o::f)::.it oL [k] xs::.it (El.ow Zx) [l] u::.it (El.ow eL) [o] w::.it eL [bt] bs::.it eL [b4] (ah.set (ao:Int).toNat (ε.wrap (bp-1)))::.it oL [a9] a7::os):=pkT C 7 [3,4,5,6,0,1,2];obtain ⟨cp,ax,N⟩:=obind N;obtain ⟨c4,cq,ac,ar⟩:=id C;refine (ad ax (ac.upS ar) (ae.mono ac.ubU) (af.mono ac.ubU) (ag.mono ac.ubU) (frF ar 4 rfl)).mono fun cr c5 ⟨cs,bu,bv,bj,b8⟩=>⟨bj,?_⟩;replace C:=ac.downS b8;clear b8 ac ar;obtain rfl:=oI N;obtain rfl:=oI aq;exact ⟨_,ltS,_,_,_,_,_,_,_,_,_,_,pkT C 7 [6,0,1,2,3],O⟩
  ·obtain rfl:=oI N;obtain rfl:=oI O;exact ⟨k,l,o,rfl,pkT C 5 [1,2,3,4]⟩
theorem rn_impl_explorer_search:∀ n,(∀ {ψ:CM} {j h:Heap} {os:List Ob} {a:ZE} {s:Nat} {i:List Value} {e:Value} {f:Value} {g:Value} {k:Value} {l:Value} {o:Value} {u:List Int} {v1:Value} {r:ZE} (N:(pn_impl_explorer_search n) a u=some r) (C:S ψ j h (.box s (.int .i64 a.qcounter.qleft::.bool a.qcounter.qspent::e::f::g::.int .i64 a.qnodes::.int .i64 a.qleaves::k::l::o::i)::.it oL [k] a.qform.Colors::.it (El.ow Zx) [l] a.qform.Edges::.it (El.ow eL) [o] a.qbest::os)) (w:SlC (UB ψ j) eI e a.qgraph.Colors) (x:SlC (UB ψ j) Zx f a.qgraph.Edges) (y:SlC (UB ψ j) eL g a.qlists) (f1:SlC ψ eI v1 u),CallsH P 244 #[.pointer (some ⟨s,0,none⟩),v1] h (fun v h'=>∃ w0 w1 w2,v=.tuple #[]/\S ψ j h' (.box s (.int .i64 r.qcounter.qleft::.bool r.qcounter.qspent::e::f::g::.int .i64 r.qnodes::.int .i64 r.qleaves::w0::w1::w2::i)::.it oL [w0] r.qform.Colors::.it (El.ow Zx) [w1] r.qform.Edges::.it (El.ow eL) [w2] r.qbest::os))):=by
  intro n;induction n with
  | zero=>exact fun N=>absurd N (by simp [pn_impl_explorer_search])
  | succ n ih=>exact rq_impl_explorer_search ih
theorem Zz9:∀ {ψ:CM} {j h:Heap} {os:List Ob} {a:ZE} {s:Nat} {i:List Value} {e:Value} {f:Value} {g:Value} {k:Value} {l:Value} {o:Value} {u:List Int} {v1:Value} {r:ZE} (N:Znf a u=some r) (C:S ψ j h (.box s (.int .i64 a.qcounter.qleft::.bool a.qcounter.qspent::e::f::g::.int .i64 a.qnodes::.int .i64 a.qleaves::k::l::o::i)::.it oL [k] a.qform.Colors::.it (El.ow Zx) [l] a.qform.Edges::.it (El.ow eL) [o] a.qbest::os)) (w:SlC (UB ψ j) eI e a.qgraph.Colors) (x:SlC (UB ψ j) Zx f a.qgraph.Edges) (y:SlC (UB ψ j) eL g a.qlists) (f1:SlC ψ eI v1 u),CallsH P 244 #[.pointer (some ⟨s,0,none⟩),v1] h (fun v h'=>∃ w0 w1 w2,v=.tuple #[]/\S ψ j h' (.box s (.int .i64 r.qcounter.qleft::.bool r.qcounter.qspent::e::f::g::.int .i64 r.qnodes::.int .i64 r.qleaves::w0::w1::w2::i)::.it oL [w0] r.qform.Colors::.it (El.ow Zx) [w1] r.qform.Edges::.it (El.ow eL) [w2] r.qbest::os)):=(rn_impl_explorer_search fuel)
section
variable {ψ:CM} {h:Heap} (hψ:CLe ψ (hcell h))
include hψ
theorem ZuG {y e f budget1 r} (N:Znb y budget1=some r) (g:SlC ψ eI e y.Colors) (i:SlC ψ Zx f y.Edges):CallsH P 175 #[.agg #[e,f],.int .i64 budget1] h (fun v h'=>match r.1 with|none=>v=.tuple #[.pointer none,.int .i64 r.2]/\S ψ h h' []|some d=>∃ o w1 w2 w3 w4 w5 w6,v=.tuple #[.pointer (some ⟨o,0,none⟩),.int .i64 r.2]/\S ψ h h' [.box o [.int .i64 d.qcounter.qleft,.bool d.qcounter.qspent,w1,w2,w3,.int .i64 d.qnodes,.int .i64 d.qleaves,w4,w5,w6],.it oL [w4] d.qform.Colors,.it (El.ow Zx) [w5] d.qform.Edges,.it (El.ow eL) [w6] d.qbest]):=by
 refine zS hψ ⟨[],[],[],[(5,⟨kdL [0,0,2,1,3,0,4,0],.fin [3,4,0,1,2,5,6,7],true⟩),(6,⟨[],.fin [1,2,3,4,5,6,7,0,8],false⟩)]⟩ Tryz.func175 fun C=>?_;refine new_S C fun b2 al C=>?_;refine lsA ?_;refine cl0 N C (fun s _ _ hx=>ZnZ s.fle hx (g.mono C.leF) (i.mono C.leF)) fun r8 am C N=>⟨_,rfl,?_⟩;refine brZ fun N=>?_;refine cm0 N C (fun s hx=>ZtL s hx) fun ao aa C N=>⟨_,rfl,?_⟩;refine brZ fun N=>?_;refine ⟨fun _=>False,?_⟩;have k:=C;have j:=eX aa;refine lsA ?_;obtain ⟨ab,a3,N⟩:=obind N;refine ce1 C (fun s=>ZwZ s.fle a3 (g.mono C.leF) (i.mono C.leF)) fun u ap xE C=>⟨_,rfl,eZ (j.trans xE),?_⟩;replace j:=j.trans xE;refine Z4 ?_;refine ldV_K (k.cells 0 rfl) 0 rfl rfl ?_;refine Z4 ?_;refine ldV_K (k.cells 0 rfl) 1 rfl rfl ?_;refine Zh oneA ?_;refine new_S C fun ac aq C=>?_;refine lsA ?_;refine cl1 N C (fun w _ _ a4=>Zvz w.fle a4 slA (g.mono w.bas)) fun ad ae af C N=>⟨_,rfl,?_⟩;have C:=frA 2;have C:=frA 0;have C:=C.nil eI;have C:=C.nil Zx;have C:=C.nil eL;have C:S ψ h af [.box ac [.int .i64 budget1,.bool false,e,f,u,.int .i64 0,.int .i64 0,(.slice none 0 0),(.slice none 0 0),(.slice none 0 0)],.it oL [(.slice none 0 0)] ([]:List Int),.it (El.ow Zx) [(.slice none 0 0)] ([]:List Zd),.it (El.ow eL) [(.slice none 0 0)] ([]:List (List Int)),.it eL [ae] ad,.it (El.sl eL) [u] ab,.box b2 [e,f]]:=pk C [4,2,1,0,3,5,6];obtain ⟨ar,a5,N⟩:=obind N;obtain ⟨ak,au,a,l⟩:=id C;refine (Zz9 a5 (a.upS l) (g.mono (a.bas.trans a.ubF)) (i.mono (a.bas.trans a.ubF)) ((frF l 5 rfl).mono a.ubF) (frF l 4 rfl)).mono fun av aw ⟨ax,ag,ah,a6,x⟩=>⟨a6,?_⟩;replace C:=a.downS x;clear x a l;refine bB C 0 1 ?_;refine brZ fun N=>?_;exact endS
theorem ZCT {g0 g i budget1 r} (N:ZpJ g0 budget1=some r) (j:SlC ψ eI g g0.Colors) (k:SlC ψ Zx i g0.Edges):CallsH P 99 #[.agg #[g,i],.int .i64 budget1] h (fun v h'=>∃ w0 w1 w2,v=.tuple #[.agg #[w0,w1],w2,.int .i64 r.2.2]/\S ψ h h' [.it oL [w0] r.1.Colors,.it (El.ow Zx) [w1] r.1.Edges,.it eL [w2] r.2.1]):=by
 refine zS hψ ⟨[],[],[],[(4,⟨kdL [0,0,0,1,0,0,0,2,0,2,3,0,0],.fin [0,1,2,3,10,4,5,6,7,8,9,11,12],true⟩)]⟩ Tryz.func99 fun C=>?_;refine new_S C fun b2 am C=>?_;refine new_S C fun b4 ao C=>?_;refine lsA ?_;obtain ⟨⟨_|ap,aq⟩,hx,N⟩:=obind N
 ·dsimp only at N;obtain ⟨φ,L,s,f⟩:=id C;refine (ZuG s.fle hx (j.mono s.bas) (k.mono s.bas)).mono fun a9 w ⟨eq,t⟩=>⟨_,_,eq,?_⟩;replace C:=join0 s f t;clear t s f;apply brQ N<;>intro N
  ·(iterate 2 refine boxA fun y C=>?_);refine lsA ?_;obtain rfl:=oI N;exact endX
  ·cases N
 ·dsimp only at N;obtain ⟨φ,L,s,f⟩:=id C;refine (ZuG s.fle hx (j.mono s.bas) (k.mono s.bas)).mono fun a9 w ⟨ar,w1,w2,w3,w4,w5,w6,eq,t⟩=>⟨_,_,eq,?_⟩;replace C:=join4 s f t;clear t s f;apply brQ N<;>intro N
  ·(iterate 2 refine boxA fun y C=>?_);refine lsA ?_;obtain rfl:=oI N;exact endX
  ·obtain ⟨ab,l,N⟩:=obind N;obtain ⟨a2,o⟩:∃ p,AddrOf w6 0 1 p:=(ZaK l).elim fun _ g2=>(C.rdL 3 rfl (Zaj _)).elim (fun he=>by rw [he.2] at g2;simp at g2) fun he=>he.elim fun a he=>he.elim fun c he=>⟨_,a,_,c,he.1,rfl⟩
   have a7:∀ p,AddrOf w6 0 1 p->p=a2:=by
     rintro p ⟨a,n,c,e,rfl⟩;obtain ⟨a',n',c',e',rfl⟩:=o;rw [e] at e';cases e';rfl
   obtain ⟨ae,a6,C⟩:=Zb9 C 3 rfl o l (K:=fun u=>S ψ h w (.it eL [u] ab::_)) fun u C=>C;have a4:=C;have nb:¬ a2.block=b4:=fun e=>by
     refine a4.boxNe 5 4 rfl rfl ?_;obtain ⟨a8,n,c,e1,e2⟩:=o;rw [e1];show some a8.block=some b4;rw [<-e,e2];unfold Addr.add;split<;>rfl
   refine ⟨fun x=>x=b4,?_⟩;refine lsA ?_;refine Zvt C 5 rfl rfl rfl oneA fun au x5 C=>?_;dsimp at C;refine Zvt C 5 rfl rfl rfl oneA fun y x6 C=>?_;dsimp at C;refine ⟨x5.trans x6,?_⟩;refine Zny (fun e=>a4.boxNeB 1 5 (by decide) rfl rfl e) ?_;refine ldV_K (a4.cells 1 rfl) 9 rfl rfl ?_;refine ZV (a4.rdL 4 rfl (Zaj _)) l fun af ad=>?_;obtain rfl:=a7 af ad;refine Zny nb ⟨ae,a6,?_⟩;refine lsA ?_;exact endS
theorem ZzQ {u e f r} (N:Zk0 u=some r) (a5:sc h eI e u.Colors) (i:sc h Zx f u.Edges) (hL:LayH 3 [0] [1,2] h):zR 100 #[.agg #[e,f]] h ψ (.string r):=by
 refine zS hψ ⟨an [[5,19,72]],[],[],[(7,⟨kdL [0,0,1,3,0,0,2,4,0,4,4,0],.fin [1,2,3,5,6,7,4,8,9,0,10,11],true⟩)]⟩ Tryz.func100 fun C=>?_;refine new_S C fun b1 ab C=>?_;refine lsA ?_;refine cm0 N C (fun s v=>ZnZ s v slA slA) fun r7 ac C N=>⟨_,rfl,?_⟩;refine brZ fun N=>?_;refine bV C 0 1 ?_;refine vL i C.le ?_;have C:=C.nilO (E:=El.str);refine lw21 N (fun v3 k a3=>([.it (El.ow El.str) [v3] a3,.box b1 [e,f]],a3,k)) fun v3 k ae a3 a C N O=>?_;apply brQ N<;>intro N
 ·refine ixA slA N fun af ag ad w N=>?_;obtain ⟨cs,ck,hr⟩:=i.cells ad w rfl;obtain rfl:=ZaI hr;refine lsA ?_;refine new_S C fun b5 ah C=>?_;(iterate 2 refine boxA fun a4 C=>?_);refine ⟨fun _=>False,?_⟩;have j:=C;have g:=eX a4;refine bI C 0 0 ?_;obtain ⟨ai,x,N⟩:=obind N;refine ce0 C (fun s=>Zfo s.fle x (hL.ext s.ext)) fun aj xE C=>⟨_,rfl,eZ (g.trans xE),?_⟩;replace g:=g.trans xE;refine ZT ?_;refine ldI_K (j.cells 0 rfl) 1 rfl rfl ?_;refine cl0 N C (fun l _ _ y=>Zfo l.fle y (hL.ext l.ext)) fun ak al C N=>⟨_,rfl,?_⟩;refine gfA N fun N=>?_;refine gfA N fun N=>?_;refine puA N 1 fun am ao a8 C N=>?_;exact endL
 ·refine bV C 1 0 ?_;refine cl0 N C (fun o _ _ a2=>Zla o.fle a2 slA (hL.ext o.ext)) fun ap a9 C N=>⟨_,rfl,?_⟩;refine gfA N fun N=>?_;refine cm0 N C (fun s v=>Zoj s v slA) fun aq aa C N=>⟨_,rfl,?_⟩;refine gfA N fun N=>?_;exact tZ
theorem ZxV {i a e budget1 r} (N:Zb7 i budget1=some r) (j:SlC ψ eI a i.Colors) (k:SlC ψ Zx e i.Edges) (hL:LayH 3 [0] [1,2] h):zR 46 #[.agg #[a,e],.int .i64 budget1] h ψ (.tuple #[.string r.1,.int .i64 r.2]):=by
 refine zO Tryz.func46 fun C=>?_;refine new_S C fun b2 x C=>?_;refine lsA ?_;obtain ⟨y,v,N⟩:=obind N;obtain ⟨φ,L,s,f⟩:=id C;refine (ZCT s.fle v (j.mono s.bas) (k.mono s.bas)).mono fun a2 a3 ⟨a4,o,u,w,t⟩=>⟨_,_,_,_,w,?_⟩;replace C:=join3 s f t;clear t s f;refine new_S C fun b6 a5 C=>?_;(iterate 2 refine boxA fun a6 C=>?_);refine brZ fun N=>?_;refine lsA ?_;refine cl0 N C (fun g _ _ l=>ZzQ g.fle l slA slA (hL.ext g.ext)) fun a7 a8 C N=>⟨_,rfl,?_⟩;exact tZ
theorem Zvp {g e budget1 r} (N:ZdA g budget1=some r) (u:sc h eL e g.Rows) (hL:LayH 3 [0] [1,2] h):zR 15 #[.agg #[.int .i64 g.Kind,.int .i64 g.Size,e],.int .i64 budget1] h ψ (.tuple #[.string r.1,.int .i64 r.2]):=by
 refine zO Tryz.func15 fun C=>?_;refine new_S C fun b2 w C=>?_;refine lsA ?_;refine cm0 N C (fun s f=>ZgR s f slA) fun r9 x C N=>⟨_,rfl,?_⟩;refine brZ fun N=>?_;refine cm0 N C (fun s f=>ZtL s f) fun y a2 C N=>⟨_,rfl,?_⟩;refine brZ fun N=>?_;refine lsA ?_;refine cm2 N C (fun s f=>ZGy s f slA) fun a3 a4 o a5 C N=>⟨_,_,_,rfl,?_⟩;refine new_S C fun b6 a6 C=>?_;(iterate 2 refine boxA fun a7 C=>?_);refine brZ fun N=>?_;refine lsA ?_;obtain ⟨a8,k,N⟩:=obind N;obtain ⟨v,a9,a,i⟩:=id C;refine (ZxV (CLe.refl _) k slA slA (hL.ext a.ext)).mono fun aa ab ⟨l,j⟩=>⟨_,_,l,?_⟩;replace C:=join0 a i (j.weak a.fle);clear j a i;exact tZ
theorem ZzH {y0 v0 y1 v1 r} (N:Znz y0 y1=some r) (f0:SlC ψ (El.int .u8) v0 y0) (f1:SlC ψ (El.int .u8) v1 y1) (hL:LayH 3 [0] [1,2] h):zR 3 #[v0,v1] h ψ (.bool r):=by
 refine zU [] [[8],[14]] Tryz.func3 fun C=>?_;refine cl0 N C (fun s _ _ a=>ZBT s.fle a (f0.mono C.leF) (f1.mono C.leF)) fun b3 b4 C N=>⟨_,rfl,?_⟩;refine brZ fun N=>?_;refine cl1 N C (fun x _ _ a8=>ZGU x.fle a8 (f0.mono x.bas)) fun e g b7 C N=>⟨_,_,_,rfl,?_⟩;refine new_S C fun b5 b8 C=>?_;(iterate 3 refine boxA fun b9 C=>?_);refine lsA ?_;refine cl0 N C (fun y _ _ a9=>ZrI y.fle a9 slA (hL.ext y.ext)) fun ba bb C N=>⟨_,rfl,?_⟩;refine cl1 N C (fun a2 _ _ aa=>ZER a2.fle aa (hL.ext a2.ext)) fun f i bc C N=>⟨_,_,_,_,rfl,?_⟩;refine new_S C fun b6 al C=>?_;(iterate 3 refine boxA fun am C=>?_);refine bI C 2 0 ?_;refine cm0 N C (fun s a=>Zqh s a) fun bd ao C N=>⟨_,rfl,?_⟩;refine cm0 N C (fun s a=>ZsH s a) fun be ap C N=>⟨_,_,rfl,?_⟩;refine ⟨fun k=>S ψ h k [.box b6 [.int .i64 f.1.Kind,.int .i64 f.1.Size,i],.it (El.ow oL) [i] f.1.Rows,.box b5 [.int .i64 e.Kind,.int .i64 e.Size,g],.it (El.ow eL) [g] e.Rows]/\ZjI y1 e=some r,?_,?_⟩
 ·refine brZ fun N=>?_;refine lsA ?_;refine cm0 N C (fun s a=>ZBk s a slA slA) fun bf aq C N=>⟨_,rfl,?_⟩;refine brZ fun N=>?_;refine brZ fun N=>?_;refine bI C 2 0 ?_;refine brZ fun N=>?_;refine lsA ?_;refine cm0 N C (fun s a=>ZgR s a slA) fun bg ar C N=>⟨_,rfl,?_⟩;refine brZ fun N=>?_;exact endC
 ·rintro _ k ⟨C,N⟩;refine bI C 2 0 ?_;refine brZ fun N=>?_;refine lsA ?_;refine cm1 N C (fun s a=>ZAU s a slA) fun a3 a4 au C N=>⟨_,_,_,rfl,?_⟩;refine new_S C fun ah av C=>?_;(iterate 2 refine boxA fun aw C=>?_);refine lsA ?_;refine cl1 N C (fun a5 _ _ ab=>ZFG a5.fle ab (f1.mono a5.bas) slA) fun ai aj ax C N=>⟨_,_,rfl,?_⟩;refine cm1 N C (fun s a=>ZBl s a slA) fun j a6 ay C N=>⟨_,_,_,_,rfl,?_⟩;refine new_S C fun ak az C=>?_;(iterate 3 refine boxA fun b0 C=>?_);refine ⟨fun l=>S ψ h l [.box ak [.int .i64 j.1.Kind,.int .i64 j.1.Size,a6],.it (El.ow oL) [a6] j.1.Rows,.it (El.ow eL) [aj] ai.Blocks,.box ah [.int .i64 a3.1.Points,a4],.it (El.ow oL) [a4] a3.1.Blocks,.box b6 [.int .i64 f.1.Kind,.int .i64 f.1.Size,i],.it (El.ow oL) [i] f.1.Rows,.box b5 [.int .i64 e.Kind,.int .i64 e.Size,g],.it (El.ow eL) [g] e.Rows]/\ZlZ e j=some r,?_,?_⟩
  ·refine brZ fun N=>?_;refine brZ fun N=>?_;exact endC
  ·rintro _ l ⟨C,N⟩;refine lsA ?_;refine cl0 N C (fun o _ _ v=>Zvp o.fle v slA (hL.ext o.ext)) fun bh b1 C N=>⟨_,_,rfl,?_⟩;refine lsA ?_;refine cl0 N C (fun u _ _ w=>Zvp u.fle w slA (hL.ext u.ext)) fun bi b2 C N=>⟨_,_,rfl,?_⟩;exact brQ N (fun N=>tZ) fun N=>tZ
end
end Go.Proofs.YtahnjnfpjcfklaaGreatDoor
