import Derived.Test.YtdmledeildfidaaGreatDoorVcLw
import Derived.Test.YtdmledeildfidaaGreatDoorVcAu
import Derived.Test.YtdmledeildfidaaGreatDoorVcDn
import Derived.Test.YtdmledeildfidaaGreatDoorRcFnsP2
open Go.IntKind renaming i64->ε
namespace Go.Proofs.YtdmledeildfidaaGreatDoor
open Go Go.Vc
set_option linter.unusedVariables false
set_option linter.unusedSimpArgs false
set_option maxRecDepth 20000
set_option maxHeartbeats 4000000
attribute [local irreducible] CallsQ vLen vIdx IntKind.wrap hcell vNew vNewS vSliceS vStore1 vAppend vMake vCopy vB2S vS2B vNilS vSliceStr
section
variable {ψ:CM} {h:Heap} (hψ:CLe ψ (hcell h))
include hψ
theorem Zsb {x y r} (U:ZgC x=some r) (bj:sc h eI y x.Poly):CallsH P 179 #[.agg #[.int .i64 x.Prime,.int .i64 x.Degree,y]] h (fun v h'=>∃ w0 w1 w2 w3,v=.agg #[.int .i64 r.qq,w0,w1,w2,w3]/\S ψ h h' [.it (El.ow oL) [w0] r.qadd,.it (El.ow oL) [w1] r.qsub,.it (El.ow oL) [w2] r.qmul,.it oL [w3] r.qinv]):=by
 refine zS hψ ⟨an [[4,24],[8,48]],an [[5],[7,31,37,43]],[],[(6,⟨kdL [0,2,3,0,2,3,0,2,3,0,0,0],.both (.sg [0,1,2] (.both (.fin (rgs [(3,9)])) (.fin [6,7,8,3,4,5,9,10,11]))) (.both (.sg [3,4,5] (.both (.fin (rgs [(0,3),(6,6)])) (.fin [6,7,8,0,1,2,9,10,11]))) (.sg [6,7,8] (.both (.fin (rgs [(0,6),(9,3)])) (.fin [3,4,5,0,1,2,9,10,11])))),true⟩),(10,⟨kdL [0,0,0,0,0,0,1,0,0,3,2,0,0,3,2,0,0,4,0,4,0,4,0,4],.fin (rgs [(6,12),(0,2),(18,2),(2,2),(20,2),(4,2),(22,2)]),true⟩),(13,⟨kdL [0,2,0,3,3,0,2,0,3,3,0,2,0,3,4,0,4,0,4,0,4],.both (.sg [2,3] (.both (.sg [0,1,4] (.both (.sg [7,8] (.both (.fin [5,6,9,12,13,10,11,14,15,16,17,18,19,20]) (.fin (rgs [(12,2),(5,2),(9,3),(14,7)])))) (.fin (rgs [(12,2),(7,2),(5,2),(9,3),(14,7)])))) (.both (.sg [7,8] (.both (.sg [0,1,4] (.both (.fin [5,6,9,12,13,10,11,14,15,16,17,18,19,20]) (.fin (rgs [(12,2),(5,2),(9,3),(14,7)])))) (.fin (rgs [(12,2),(0,2),(4,3),(9,3),(14,7)])))) (.sg [12,13] (.both (.fin [0,1,4,7,8,5,6,9,10,11,14,15,16,17,18,19,20]) (.fin (rgs [(7,2),(0,2),(4,3),(9,3),(14,7)]))))))) (.both (.sg [7,8] (.both (.sg [2,3] (.both (.sg [0,1,4] (.both (.fin [5,6,9,12,13,10,11,14,15,16,17,18,19,20]) (.fin (rgs [(12,2),(5,2),(9,3),(14,7)])))) (.fin (rgs [(12,2),(0,2),(4,3),(9,3),(14,7)])))) (.fin (rgs [(12,2),(2,2),(0,2),(4,3),(9,3),(14,7)])))) (.sg [12,13] (.both (.sg [2,3] (.both (.fin [0,1,4,7,8,5,6,9,10,11,14,15,16,17,18,19,20]) (.fin (rgs [(7,2),(0,2),(4,3),(9,3),(14,7)])))) (.fin (rgs [(7,2),(2,2),(0,2),(4,3),(9,3),(14,7)]))))),true⟩)]⟩ Tryz.func179 fun T=>?_;refine new_S T fun b1 bx T=>?_;refine new_S T fun b2 bz T=>?_;refine lsA ?_;refine cm0 U T (fun s hx=>ZmO s hx slA) fun ac c0 T U=>⟨_,rfl,?_⟩
 refine new_S T fun b3 c3 T=>?_
 (iterate 5 refine boxA fun bk T=>?_)
 refine bI T 0 0 ?_;refine mkO eI U fun c4 a0 bm T U=>?_;refine boxA fun bn T=>?_;have T:=T.nilO (E:=oL);have T:=T.nilO (E:=oL);have T:=T.nilO (E:=oL);refine ⟨fun n y4 ae=>∃ xs o a1 u a2 a3 a4,S ψ h ae [.it oL [a0] a4,.box b3 [.int .i64 ac,o,u,a3,a0],.box b2 [.int .i64 0,(.slice none 0 0),(.slice none 0 0),(.slice none 0 0),(.slice none 0 0)],.box b1 [.int .i64 x.Prime,.int .i64 x.Degree,y],.it (El.ow oL) [o] xs,.it (El.ow oL) [u] a1,.it (El.ow oL) [a3] a2]/\loopN (Zh6 x ac) n (y4,xs,a1,a2,a4)=some r,endI,?_⟩;rintro n _ y4 ae ⟨xs,o,a1,u,a2,a3,a4,T,hn⟩;obtain ⟨m,a,rfl,U,W⟩:=Zab hn;refine bI T 1 0 ?_;apply brQ U<;>intro U
 ·refine ⟨fun am=>∃ af ao ag ap ah aq ai,S ψ h am [.it oL [a0] ai,.box b3 [.int .i64 ac,ao,ap,aq,a0],.box b2 [.int .i64 0,(.slice none 0 0),(.slice none 0 0),(.slice none 0 0),(.slice none 0 0)],.box b1 [.int .i64 x.Prime,.int .i64 x.Degree,y],.it (El.ow oL) [ao] af,.it (El.ow oL) [ap] ag,.it (El.ow oL) [aq] ah]/\Zo6 y4 af ag ah ai=some a,?_,?_⟩
  ·obtain ⟨ar,aj,U⟩:=obind U;obtain ⟨c5,au,U⟩:=obind U;obtain ⟨c6,av,U⟩:=obind U;obtain rfl:=oI (aj.symm.trans au);obtain rfl:=oI (aj.symm.trans av);refine ⟨fun a5 a6 a7 aw=>S ψ h aw [.it oL [a7] ar,.it oL [a6] ar,.it oL [a5] ar,.it oL [a0] a4,.box b3 [.int .i64 ac,o,u,a3,a0],.box b2 [.int .i64 0,(.slice none 0 0),(.slice none 0 0),(.slice none 0 0),(.slice none 0 0)],.box b1 [.int .i64 x.Prime,.int .i64 x.Degree,y],.it (El.ow oL) [o] xs,.it (El.ow oL) [u] a1,.it (El.ow oL) [a3] a2],?_,?_⟩
   ·refine ⟨fun _=>False,?_⟩;have b0:=T;have g:=eX ae
    repeat' first
     | refine And.intro ?_ ?_
     | (refine ZH ?_;refine ldI_K (b0.cells 1 rfl) 0 rfl rfl ?_)
     | (refine ZqA (E:=eI) T rfl aj fun i z1 xE T=>⟨eZ (g.trans xE),?_⟩;replace g:=g.trans xE)
     | (refine ZqA (E:=eI) T rfl au fun i z1 xE T=>⟨eZ (g.trans xE),?_⟩;replace g:=g.trans xE)
     | (refine ZqA (E:=eI) T rfl av fun i z1 xE T=>⟨eZ (g.trans xE),?_⟩;replace g:=g.trans xE)
     | (exact pk T [0,1,2,3,4,5,6,7,8,9])
     | (exact pk T [1,0,2,3,4,5,6,7,8,9])
     | (exact pk T [0,2,1,3,4,5,6,7,8,9])
     | (exact pk T [1,2,0,3,4,5,6,7,8,9])
     | (exact pk T [2,0,1,3,4,5,6,7,8,9])
     | (exact pk T [2,1,0,3,4,5,6,7,8,9])
   ·rintro _ a5 a6 a7 aw T;refine lw14 U (fun y8 ak a8 a9 aa=>([.it oL [a7] aa,.it oL [a6] a9,.it oL [a5] a8,.it oL [a0] ak,.box b3 [.int .i64 ac,o,u,a3,a0],.box b2 [.int .i64 0,(.slice none 0 0),(.slice none 0 0),(.slice none 0 0),(.slice none 0 0)],.box b1 [.int .i64 x.Prime,.int .i64 x.Degree,y],.it (El.ow oL) [o] xs,.it (El.ow oL) [u] a1,.it (El.ow oL) [a3] a2],y8,ak,a8,a9,aa)) fun y8 al ak a8 a9 aa c7 T U b9=>?_;refine bI T 4 0 ?_;apply brQ U<;>intro U
    ·refine ⟨fun _=>False,?_⟩;have f:=T;have k:=eX al;refine lsA ?_;obtain ⟨c8,ba,U⟩:=obind U;refine ce0 T (fun s=>ZvT s.fle ba slA) fun bp xE T=>⟨_,rfl,eZ (k.trans xE),?_⟩
     replace k:=k.trans xE;refine ZH ?_;refine ldI_K (f.cells 6 rfl) 0 rfl rfl ?_;refine ZH ?_;refine ldI_K (f.cells 6 rfl) 1 rfl rfl ?_;refine ZM ?_;refine ldV_K (f.cells 6 rfl) 2 rfl rfl ?_;obtain ⟨c9,bb,U⟩:=obind U;refine ce0 T (fun s=>ZvT s.fle bb slA) fun bq xE T=>⟨_,rfl,eZ (k.trans xE),?_⟩
     replace k:=k.trans xE;refine ZH ?_;refine ldI_K (f.cells 6 rfl) 0 rfl rfl ?_;refine ZH ?_;refine ldI_K (f.cells 6 rfl) 1 rfl rfl ?_;refine ZM ?_;refine ldV_K (f.cells 6 rfl) 2 rfl rfl ?_;refine cm0 U T (fun s hx=>ZAu s hx slA) fun ca br T U=>⟨_,rfl,?_⟩
     refine ixA slA U fun cb cc ad bc U=>?_;refine st1_S T 2 rfl ad bc rfl (fun _=>⟨rfl,rfl⟩) fun bt T=>?_;dsimp at T;refine ixA slA U fun cd ce bd b4 U=>?_;refine st1_S T 1 rfl bd b4 rfl (fun _=>⟨rfl,rfl⟩) fun bu T=>?_;dsimp at T;refine ixA slA U fun cf cg be b5 U=>?_;refine st1_S T 0 rfl be b5 rfl (fun _=>⟨rfl,rfl⟩) fun bv T=>?_;dsimp at T;refine ixI slA U fun ch U=>?_;apply brQ U<;>intro U
     ·refine bV T 4 4 ?_;refine ixA slA U fun cj ck bf b6 U=>?_;refine st1_S T 3 rfl bf b6 rfl (fun _=>⟨rfl,rfl⟩) fun bw T=>?_;dsimp at T;exact endL
     ·exact endL
    ·obtain ⟨cm,l,U⟩:=obind U;obtain ⟨cn,w,U⟩:=obind U;obtain ⟨co,ab,U⟩:=obind U;refine ⟨fun b=>blk o=some b\/blk u=some b,?_⟩;have j:=T;have c:ExtBut (fun b=>blk o=some b\/blk u=some b) al al:=eY _ _
     repeat' first
      | refine And.intro ?_ ?_
      | (refine ZF (T.rdL 2 rfl (Zk _)).one ?_)
      | (refine ZbZ T fun i z1 xE T=>⟨c.trans (eZ xE),?_⟩;replace c:=c.trans (eZ xE))
      | (refine Zp7 (fun e=>Or.elim e (fun e=>j.boxNe 4 7 rfl rfl e) (fun e=>j.boxNe 4 8 rfl rfl e)) ?_)
      | (refine ldV_K (j.cells 4 rfl) 1 rfl rfl ?_)
      | (refine ldV_K (j.cells 4 rfl) 2 rfl rfl ?_)
      | (refine ldV_K (j.cells 4 rfl) 3 rfl rfl ?_)
      | (refine Zf7 T 4 rfl rfl rfl (T.rdL 7 rfl (ZL (Zk _))).one fun i T=>?_;refine Zf7 T 4 rfl rfl rfl (T.rdL 8 rfl (ZL (Zk _))).one fun z1 T=>?_;refine Zf7 T 4 rfl rfl rfl (T.rdL 9 rfl (ZL (Zk _))).one fun z2 T=>?_;dsimp at T)
      | (refine ZF (T.rdL 1 rfl (Zk _)).one ?_)
      | (refine ZF (T.rdL 3 rfl (Zk _)).one ?_)
      | (refine ZF (T.rdL 4 rfl (Zk _)).one ?_)
      | (refine ZF (T.rdL 0 rfl (Zk _)).one ?_)
      | (have T:=T.pull 3 rfl;dsimp only [List.eraseIdx] at T;refine Zaq T 7 rfl 0 rfl rfl rfl l fun i z1 xE T=>⟨c.trans (xE.mono fun _ e=>.inl e),?_⟩;replace c:=c.trans (xE.mono fun _ e=>.inl e);dsimp at T)
      | (have T:=T.pull 3 rfl;dsimp only [List.eraseIdx] at T;refine Zaq T 8 rfl 0 rfl rfl rfl w fun i z1 xE T=>⟨c.trans (xE.mono fun _ e=>.inr e),?_⟩;replace c:=c.trans (xE.mono fun _ e=>.inr e);dsimp at T)
      | (have T:=T.pull 3 rfl;dsimp only [List.eraseIdx] at T;refine Zaq T 9 rfl 0 rfl rfl rfl ab fun i z1 xE T=>?_;dsimp at T)
      | (obtain ⟨i,z1,rfl⟩:=omap U;obtain rfl:=oI b9;exact ⟨_,_,_,_,_,_,_,pk T [3,4,5,6,7,8,9],z1⟩)
      | (have T:=T.pull 4 rfl;dsimp only [List.eraseIdx] at T;refine Zaq T 9 rfl 1 rfl rfl rfl w fun i z1 xE T=>⟨c.trans (xE.mono fun _ e=>.inr e),?_⟩;replace c:=c.trans (xE.mono fun _ e=>.inr e);dsimp at T)
      | (have T:=T.pull 4 rfl;dsimp only [List.eraseIdx] at T;refine Zaq T 9 rfl 0 rfl rfl rfl w fun i z1 xE T=>⟨c.trans (xE.mono fun _ e=>.inr e),?_⟩;replace c:=c.trans (xE.mono fun _ e=>.inr e);dsimp at T)
      | (have T:=T.pull 3 rfl;dsimp only [List.eraseIdx] at T;refine Zaq T 9 rfl 1 rfl rfl rfl ab fun i z1 xE T=>?_;dsimp at T)
      | (have T:=T.pull 4 rfl;dsimp only [List.eraseIdx] at T;refine Zaq T 8 rfl 1 rfl rfl rfl l fun i z1 xE T=>⟨c.trans (xE.mono fun _ e=>.inl e),?_⟩;replace c:=c.trans (xE.mono fun _ e=>.inl e);dsimp at T)
      | (have T:=T.pull 5 rfl;dsimp only [List.eraseIdx] at T;refine Zaq T 9 rfl 2 rfl rfl rfl l fun i z1 xE T=>⟨c.trans (xE.mono fun _ e=>.inl e),?_⟩;replace c:=c.trans (xE.mono fun _ e=>.inl e);dsimp at T)
      | (have T:=T.pull 4 rfl;dsimp only [List.eraseIdx] at T;refine Zaq T 8 rfl 0 rfl rfl rfl l fun i z1 xE T=>⟨c.trans (xE.mono fun _ e=>.inl e),?_⟩;replace c:=c.trans (xE.mono fun _ e=>.inl e);dsimp at T)
      | (have T:=T.pull 3 rfl;dsimp only [List.eraseIdx] at T;refine Zaq T 8 rfl 1 rfl rfl rfl w fun i z1 xE T=>⟨c.trans (xE.mono fun _ e=>.inr e),?_⟩;replace c:=c.trans (xE.mono fun _ e=>.inr e);dsimp at T)
      | (have T:=T.pull 4 rfl;dsimp only [List.eraseIdx] at T;refine Zaq T 9 rfl 2 rfl rfl rfl w fun i z1 xE T=>⟨c.trans (xE.mono fun _ e=>.inr e),?_⟩;replace c:=c.trans (xE.mono fun _ e=>.inr e);dsimp at T)
      | (have T:=T.pull 5 rfl;dsimp only [List.eraseIdx] at T;refine Zaq T 9 rfl 1 rfl rfl rfl l fun i z1 xE T=>⟨c.trans (xE.mono fun _ e=>.inl e),?_⟩;replace c:=c.trans (xE.mono fun _ e=>.inl e);dsimp at T)
      | (have T:=T.pull 5 rfl;dsimp only [List.eraseIdx] at T;refine Zaq T 9 rfl 0 rfl rfl rfl l fun i z1 xE T=>⟨c.trans (xE.mono fun _ e=>.inl e),?_⟩;replace c:=c.trans (xE.mono fun _ e=>.inl e);dsimp at T)
      | (have T:=T.pull 3 rfl;dsimp only [List.eraseIdx] at T;refine Zaq T 9 rfl 2 rfl rfl rfl ab fun i z1 xE T=>?_;dsimp at T)
  ·rintro _ am ⟨af,ao,ag,ap,ah,aq,ai,T,U⟩;exact endL
 ·refine lsA ?_
  (iterate 5 refine boxA fun bi T=>?_)
  refine lsA ?_;obtain rfl:=oI U;obtain rfl:=oI W;exact endR
theorem Zy6 {a v0 c p1 r} (U:ZeO a c=some r) (f:sc h eI v0 a) (e:CellsC (hcell h) p1 [.int .i64 c]):zR 241 #[v0,.pointer (some p1)] h ψ (.bool r):=by
 refine zO Tryz.func241 fun T=>?_;refine kI e T.le 0 ?_;refine ixI slA U fun g U=>?_;exact tZ
end
theorem ZFm {ψ:CM} {c h:Heap} {os:List Ob} {e:Z1} {g:Value} {i:Value} {j:Value} {k:Value} {o:List Int} {v1:Value} {l:List Int} {v2:Value} {a2:Int} {r:List Int} (U:ZcN e o l a2=some r) (T:S ψ c h (.it oL [v1] o::os)) (w:SlC (UB ψ c) eL g e.qadd) (a4:SlC (UB ψ c) eL i e.qsub) (x:SlC (UB ψ c) eL j e.qmul) (a5:SlC (UB ψ c) eI k e.qinv) (f2:SlC (UB ψ c) eI v2 l):CallsH P 242 #[.agg #[.int .i64 e.qq,g,i,j,k],v1,v2,.int .i64 a2] h (fun v h'=>v=.tuple #[]/\S ψ c h' (.it oL [v1] r::os)):=by
 refine zv ⟨an [[2,72]],[],[],[]⟩ Tryz.func242 ?_;refine new_S T fun b4 a8 T=>?_;refine vL f2 T.leU ?_;obtain ⟨a3,y⟩:=Zad U;refine ⟨fun n s u=>∃ xs,S ψ c u (.box b4 [.int .i64 e.qq,g,i,j,k]::.it oL [v1] xs::os)/\loopN (ZbS e l a2) n (s,xs)=some r,⟨a3,_,pkT T 2 [0,1],y⟩,?_⟩;rintro n _ s u ⟨xs,T,y⟩;obtain ⟨m,a,rfl,U,W⟩:=Zab y;apply brQ U<;>intro U
 ·refine ixI slA U fun a9 U=>?_;refine bV T 0 1 ?_;refine ixI slA U fun aa U=>?_;refine ixV w T.leU U fun ab ac f U=>?_;refine bV T 0 3 ?_;refine ixV x T.leU U fun ad ae af U=>?_;refine ixI slA U fun ag U=>?_;refine ixI slA U fun ah U=>?_;refine ixA slA U fun ai aj a0 a1 U=>?_;refine st1_S T 1 rfl a0 a1 rfl (fun _=>⟨rfl,rfl⟩) fun ak T=>?_;dsimp at T;obtain rfl:=oI U;exact ⟨_,ltS,_,pkT T 2 [0,1],W⟩
 ·obtain rfl:=oI U;obtain rfl:=oI W;exact ⟨rfl,pkT T 2 [1]⟩
theorem r2_impl_arithmetic_addTimes {ψ:CM} {g h:Heap} {os:List Ob} {c:Z1} {l o s x:Value} {a8:List (List Int)} {v u w:Value} {ps:List (Nat×Value)} {i j:Int} {xs ys:List Int} {ab:Int} {r:List Int} (U:ZcN c xs ys ab=some r) (T:S ψ g h (.it (El.pins eI ps) [v] a8::os))
    (n1:Nat) (h1:ps[n1]?=some (i.toNat,u)) (n2:Nat) (h2:ps[n2]?=some (j.toNat,w)) (cd:i≠j) (ak:gIdx a8 i=some xs) (a5:gIdx a8 j=some ys) (a9:SlC (UB ψ g) eL l c.qadd) (ao:SlC (UB ψ g) eL o c.qsub) (aa:SlC (UB ψ g) eL s c.qmul) (ap:SlC (UB ψ g) eI x c.qinv):
    CallsH P 242 #[.agg #[.int .i64 c.qq,l,o,s,x],u,w,.int .i64 ab] h (fun v' h'=>v'=.tuple #[]/\S ψ g h' (.it (El.pins eI ps) [v] (a8.set i.toNat r)::os)):=by
  refine zv ⟨an [[2,72]],[],[],[]⟩ Tryz.func242 ?_;obtain ⟨i0,i1⟩:=Zax ak;obtain ⟨j0,j1⟩:=Zax a5;have aw:∀ zs:List Int,gIdx (a8.set i.toNat zs) i=some zs/\gIdx (a8.set i.toNat zs) j=some ys:=fun zs=>by
    unfold gIdx;rw [if_pos i0,if_pos j0,List.getElem?_set_self (ZY i1),List.getElem?_set_ne ω];exact ⟨rfl,j1⟩
  have same:a8.set i.toNat xs=a8:=by
    apply List.ext_getElem?;intro k;rw [List.getElem?_set];split
    · rename_i e;subst e;rw [if_pos (ZY i1),i1]
    · rfl
  refine new_S T fun b4 ay T=>?_;refine Zi (T.rowP 1 rfl n2 h2 a5 (Zk _)) ?_;obtain ⟨al,hn⟩:=Zad U;refine ⟨fun n a6 a7=>∃ zs,S ψ g a7 (.box b4 [.int .i64 c.qq,l,o,s,x]::.it (El.pins eI ps) [v] (a8.set i.toNat zs)::os)/\loopN (ZbS c ys ab) n (a6,zs)=some r,⟨al,xs,by rw [same];exact T,hn⟩,?_⟩;rintro n _ a6 a7 ⟨zs,T,hn⟩;obtain ⟨m,a,rfl,U,W⟩:=Zab hn;obtain ⟨k1,k2⟩:=aw zs;refine bifP U (fun hc U=>?_) (fun hc U=>?_)
  · obtain ⟨az,hx,U⟩:=obind U;refine ZZ (T.rowP 1 rfl n2 h2 k2 (Zk _)) hx fun b0 ad=>?_;refine ldI_C (T.rowP 1 rfl n2 h2 k2 (Zk _)) ad hx ?_;refine ldV_K (T.cells 0 rfl) 1 rfl rfl ?_;obtain ⟨b1,y,U⟩:=obind U;refine ZZ (T.rowP 1 rfl n1 h1 k1 (Zk _)) y fun b2 ae=>?_;refine ldI_C (T.rowP 1 rfl n1 h1 k1 (Zk _)) ae y ?_;obtain ⟨b3,a0,U⟩:=obind U;refine ZZ slA a0 fun b5 af=>?_;refine ldV_C a9 T.leU af a0 fun b6 f=>?_;refine ldV_K (T.cells 0 rfl) 3 rfl rfl ?_;obtain ⟨b7,a1,U⟩:=obind U;refine ZZ slA a1 fun b8 ag=>?_;refine ldV_C aa T.leU ag a1 fun b9 ba=>?_;obtain ⟨bb,a2,U⟩:=obind U;refine ZZ slA a2 fun bc ah=>?_;refine ldI_C slA ah a2 ?_;obtain ⟨bd,a3,U⟩:=obind U;refine ZZ slA a3 fun be ai=>?_;refine ldI_C slA ai a3 ?_;obtain ⟨bf,a4,U⟩:=obind U;refine ZZ (T.rowP 1 rfl n1 h1 k1 (Zk _)) a4 fun bg aj=>?_;refine Zv9 T 1 rfl n1 h1 k1 aj a4 rfl (fun _=>⟨rfl,rfl⟩) fun bh T=>?_;dsimp at T;rw [List.set_set] at T;obtain rfl:=oI U;exact ⟨m,Nat.lt_succ_self _,_,T,W⟩
  · obtain rfl:=oI U;obtain rfl:=oI W;exact ⟨rfl,T.pickT 2 [1] (by decide) (by decide)⟩
section
variable {ψ:CM} {h:Heap} (hψ:CLe ψ (hcell h))
include hψ
theorem ZEy {w i j k l y1 v1 r} (U:ZkQ w y1=some r) (bk:sc h eL i w.qadd) (a7:sc h eL j w.qsub) (a8:sc h eL k w.qmul) (bm:sc h eI l w.qinv) (f1:sc h eL v1 y1):CallsH P 180 #[.agg #[.int .i64 w.qq,i,j,k,l],v1] h (fun v h'=>∃ w0 w1,v=.tuple #[w0,w1,.int .i64 r.2.2]/\S ψ h h' [.it (El.ow oL) [w0] r.1,.it oL [w1] r.2.1]):=by
 refine zS hψ ⟨an [[5,49,54,64],[17,534],[22,690]],an [[7],[14,54],[25,777],[29,49,54],[31,49,54]],[],[(12,⟨[],.fin (rgs [(0,2),(6,12),(2,4),(18,2)]),false⟩)]⟩ Tryz.func180 fun T=>?_;refine new_S T fun b2 dj T=>?_;refine cm1 U T (fun s hx=>ZeJ s hx slA) fun dk x dl T U=>⟨_,rfl,?_⟩
 refine ⟨fun v8 y9 bc=>∃ y8 xs,S ψ h bc [.it (El.ow oL) [x] xs,.box b2 [.int .i64 w.qq,i,j,k,l],.it oL [v8] y8]/\Zfd y8 y9 xs=some r,?_,?_⟩
 ·refine new_S T fun dm dn T=>?_;refine boxA fun dp T=>?_;have T:=T.nilO (E:=eI);obtain ⟨cb,hn⟩:=Zad U;refine ⟨fun n u a9 bd be=>∃ c g o a2,S ψ h be [.it oL [u] c,.box g [.int .i64 o],.it (El.ow oL) [x] a2,.box b2 [.int .i64 w.qq,i,j,k,l]]/\bd=⟨g,0,none⟩/\loopN (Zck w) n (c,a9,o,a2)=some r,⟨cb,_,_,_,_,pk T [0,1,2,3],rfl,hn⟩,?_⟩;rintro n _ u a9 bd be ⟨c,g,o,a2,T,rfl,hn⟩;obtain ⟨m,a,rfl,U,W⟩:=Zab hn;refine ⟨fun bf=>S ψ h bf [.it oL [u] c,.box g [.int .i64 o],.it (El.ow oL) [x] a2,.box b2 [.int .i64 w.qq,i,j,k,l]]/\Zh2 w c a9 o a2=some a,?_,?_⟩
  ·refine Zi slA ?_;apply brQ U<;>intro U
   ·refine bI T 1 0 ?_;refine ixA slA U fun dq dr az ag U=>?_;refine Za2 T 2 rfl az ag fun ds bo=>?_;refine Zi (T.rowC 2 rfl bo ag (Zk _)) ?_;apply brQ U<;>intro U
    ·exact endC
    ·obtain ⟨xm,hq,rfl⟩:=omap U;obtain rfl:=oI W;exact ⟨_,_,pk T [2,3,0],hq⟩
   ·obtain ⟨xm,hq,rfl⟩:=omap U;obtain rfl:=oI W;exact ⟨_,_,pk T [2,3,0],hq⟩
  ·rintro _ bf ⟨T,U⟩;refine ⟨fun ak al bg=>∃ ab ac,S ψ h bg [.it oL [ak] ab,.box g [.int .i64 o],.it (El.ow oL) [x] ac,.box b2 [.int .i64 w.qq,i,j,k,l]]/\Zga o ab al ac=some a,?_,?_⟩
   ·refine Zi slA ?_;obtain ⟨dt,am,U⟩:=obind U;refine Zqe (some (c.length:Int)) none slA am fun du hv=>?_;refine cl0 U T (fun cc _ _ bq=>Zua cc.fle bq (hv.C slA am rfl) κ (fun cd=>fun br=>fun ce cf=>Zy6 br ce cf ((T.cells 1 rfl).mono (CLe.ext cd)))) fun dv cp T U=>⟨_,rfl,?_⟩
    apply brQ U<;>intro U
    ·exact endC
    ·refine ⟨fun ao ap=>∃ ae,S ψ h ap [.it oL [u] c,.box g [.int .i64 o],.it (El.ow oL) [x] ae,.box b2 [.int .i64 w.qq,i,j,k,l]]/\ZgA w c o ao ae=some a,?_,?_⟩
     ·apply brQ U<;>intro U
      ·refine ixA slA U fun dw dx b0 ah U=>?_;refine Za2 T 2 rfl b0 ah fun dy bs=>?_;refine ixA slA U fun dz e0 b1 ai U=>?_;refine Za2 T 2 rfl b1 ai fun e1 bt=>?_;refine ixA slA U fun e2 e3 b3 cj U=>?_;obtain ⟨e4,b4,U⟩:=obind U;refine ZGu T 2 rfl rfl ai ah bt bs b3 b4 fun cq T=>?_;dsimp at T;refine bV T 3 2 ?_;refine ixV a7 T.le U fun e5 e6 e7 U=>?_;refine ixI slA U fun e8 U=>?_;exact endC
      ·exact endC
     ·rintro _ ao ap ⟨ae,T,U⟩;refine ixA slA U fun e9 ea ad aq U=>?_;refine Za2 T 2 rfl ad aq fun eb hd=>?_;refine bI T 1 0 ?_;refine ixI (T.rowC 2 rfl hd aq (Zk _)) U fun ec U=>?_;refine bV T 3 3 ?_;refine ixV a8 T.le U fun ed ee f U=>?_;refine ixI slA U fun ef U=>?_;refine ixA slA U fun eg eh bu ar U=>?_;have T:=T.pin0 2 rfl;dsimp at T;refine Zke T 2 rfl bu ar fun bh T=>?_;dsimp at T;refine Zi (T.rowP 2 rfl 0 rfl ar (Zk _)) ?_;refine lw11 U (fun au a3=>([.it oL [u] c,.box g [.int .i64 o],.it (El.pins eI [(((c.length:Int):Int).toNat,bh)]) [x] a3,.box b2 [.int .i64 w.qq,i,j,k,l]],au,a3)) fun au bv a3 ei T U av=>?_;apply brQ U<;>intro U
      ·obtain ⟨e,b5,U⟩:=obind U;refine ixI (T.rowP 2 rfl 0 rfl b5 (Zk _)) U fun ej U=>?_;refine ixA (T.rdP 2 rfl (Zk _)) U fun cg ek bw a6 U=>?_;refine Zke T 2 rfl bw a6 fun em T=>?_;dsimp at T;refine lsA ?_;refine ixI slA U fun cu U=>?_;refine ixV a8 T.le U fun cv cx en U=>?_;refine ixI slA U fun bx U=>?_;refine ixA (T.rowP 2 rfl 0 rfl a6 (Zk _)) U fun cy cz b6 b7 U=>?_;refine Zv9 T 2 rfl 0 rfl a6 b6 b7 rfl (fun _=>⟨rfl,rfl⟩) fun bz T=>?_;dsimp at T;have T:S ψ h bz [.it oL [u] c,.box g [.int .i64 o],.it (El.pins eI [(((c.length:Int):Int).toNat,bh)]) [x] (a3.set ((c.length:Int):Int).toNat (cg.set (au:Int).toNat bx)),.box b2 [.int .i64 w.qq,i,j,k,l]]:=T.keepP 2 rfl [1];exact endL
      ·refine Zi (T.rdP 2 rfl (Zk _)) ?_;have T:S ψ h bv [.it oL [u] c,.box g [.int .i64 o],.it (El.ow oL) [x] a3,.box b2 [.int .i64 w.qq,i,j,k,l]]:=T.unpin 2 rfl;refine lw11 U (fun a4 y=>([.it oL [u] c,.box g [.int .i64 o],.it (El.ow oL) [x] y,.box b2 [.int .i64 w.qq,i,j,k,l]],a4,y)) fun a4 d0 y ch T U aw=>?_;apply brQ U<;>intro U
       ·refine ixA slA U fun c0 d1 b8 a1 U=>?_;have T:=T.pin0 2 rfl;dsimp at T;refine Zke T 2 rfl b8 a1 fun c3 T=>?_;dsimp at T;refine ⟨fun ax af=>S ψ h af [.it oL [u] c,.box g [.int .i64 o],.it (El.pins eI [((a4:Int).toNat,c3)]) [x] y,.box b2 [.int .i64 w.qq,i,j,k,l]]/\Zet w c o a4 y c0 ax=some ch,?_,?_⟩
        ·apply brQ U<;>intro U
         ·refine bI T 1 0 ?_;refine ixI (T.rowP 2 rfl 0 rfl a1 (Zk _)) U fun d2 U=>?_;exact endC
         ·exact endC
        ·rintro _ ax af ⟨T,U⟩;apply brQ U<;>intro U
         ·refine lsA ?_;refine ixA (T.rdP 2 rfl (Zk _)) U fun d3 d4 b9 aj U=>?_;refine Zke T 2 rfl b9 aj fun d5 T=>?_;dsimp at T;refine bV T 3 2 ?_;refine ixV a7 T.le U fun d6 d7 eo U=>?_;refine bI T 1 0 ?_;refine ixI (T.rowP 2 rfl 1 rfl a1 (Zk _)) U fun d8 U=>?_;refine ixI slA U fun d9 U=>?_;have T:=T.pull 2 rfl;dsimp only [List.eraseIdx] at T;obtain ⟨ck,ba,U⟩:=obind U;obtain ⟨c4,bb,U⟩:=obind U;obtain ⟨da,ep,a5,bi⟩:=id T;refine (r2_impl_arithmetic_addTimes bb (a5.upS bi) 1 rfl 0 rfl (Zyc ba) a1 aj (bk.mono a5.ubH) (a7.mono a5.ubH) (a8.mono a5.ubH) (bm.mono a5.ubH)).mono fun er c5 ⟨c6,bj⟩=>⟨c6,?_⟩
          replace T:=a5.downS bj;clear bj a5 bi;have T:S ψ h c5 [.it (El.ow oL) [x] (y.set (a4:Int).toNat c4),.it oL [u] c,.box g [.int .i64 o],.box b2 [.int .i64 w.qq,i,j,k,l]]:=T.unpin 0 rfl;exact endL
         ·have T:S ψ h af [.it oL [u] c,.box g [.int .i64 o],.it (El.ow oL) [x] y,.box b2 [.int .i64 w.qq,i,j,k,l]]:=T.unpin 2 rfl;exact endL
       ·refine bI T 1 0 ?_;refine puA U 0 fun db dc dd T U=>?_;refine Zi slA ?_;refine Zi slA ?_;apply brQ U<;>intro U
        ·obtain ⟨xm,hq,rfl⟩:=omap U;obtain rfl:=oI aw;obtain rfl:=oI av;obtain rfl:=oI W;exact ⟨_,_,pk T [2,3,0],hq⟩
        ·obtain ⟨xm,hq,rfl⟩:=omap U;obtain rfl:=oI aw;obtain rfl:=oI av;exact ⟨_,_,pk T [0,1,2,3],hq⟩
   ·rintro _ ak al bg ⟨ab,ac,T,U⟩;refine bI T 1 0 ?_;refine new_S T fun cm de T=>?_;refine boxA fun df T=>?_;refine bI T 0 0 ?_;refine boxA fun dg T=>?_;obtain rfl:=oI U;exact ⟨_,ltS,_,_,_,_,pk T [1,0,3,4],rfl,W⟩
 ·rintro _ v8 y9 bc ⟨y8,xs,T,U⟩;refine Zi slA ?_;obtain ⟨dh,c7,U⟩:=obind U;refine cut_S none (some (y8.length:Int)) T 0 rfl c7 rfl fun di T=>?_;dsimp at T;exact endS
theorem ZFE {u:List (List Int)} {v0:Value} {s1:List (List Int)} {v1:Value} {i:(List Int)->(List Int)->Option Bool} {k:Nat} {c:List Value} {r:Bool} (U:ZpB u s1 i=some r) (l:sc h eL v0 u) (w:sc h eL v1 s1) (o2:ctx.okf k=true) (k2:∀ {h1:Heap},ExtH h h1->∀ {ψ1:CM},CLe ψ1 (hcell h1)->∀ {x:List Int} {e:Value} {y:List Int} {g:Value} {r1:Bool},i x y=some r1->SlC (hcell h1) eI e x->SlC (hcell h1) eI g y->CallsH P k (([e,g]:List Value)++c).toArray h1 (fun v h'=>v=.bool r1/\S ψ1 h1 h' [])):zR 243 #[v0,v1,.func (.func k) #[] c.toArray] h ψ (.bool r):=by
 refine zT [[4,102]] Tryz.func243 fun T=>?_;refine vL l T.le ?_;refine vL w T.le ?_;refine brZ fun U=>?_;refine vL l T.le ?_;refine lp1 U (nlS T) fun m a2 a3 a T U W=>?_;refine brY fun U=>?_;refine ixV l T.le U fun a4 a5 f U=>?_;refine ixV w T.le U fun a6 a7 a8 U=>?_;obtain ⟨a9,o,U⟩:=obind U;obtain ⟨φ,L,s,j⟩:=id T;refine Zca o2 ?_;refine (k2 T.ext s.fle o slA slA).mono fun aa ab ⟨eq,t⟩=>⟨_,eq,?_⟩
 replace T:=join0 s j t;clear t s j;exact brQ U (fun U=>tZ) fun U=>tZ
theorem ZsP {c v0 s1 v1 r} (U:ZcC c s1=some r) (e:sc h eI v0 c) (f:sc h eI v1 s1):zR 244 #[v0,v1] h ψ (.bool r):=by
 refine zT [[4,78]] Tryz.func244 fun T=>?_;refine vL e T.le ?_;refine vL f T.le ?_;refine brZ fun U=>?_;refine vL e T.le ?_;refine lp1 U (nlS T) fun m g i a T U W=>?_;refine brY fun U=>?_;refine ixI slA U fun j U=>?_;refine ixI slA U fun k U=>?_;exact brQ U (fun U=>tZ) fun U=>tZ
theorem ZFj {c v0 e v1 r} (U:ZmB c e=some r) (o:sc h eL v0 c) (u:sc h eL v1 e):zR 181 #[v0,v1] h ψ (.bool r):=by
 refine zO Tryz.func181 fun T=>?_;refine cl0 U T (fun s _ _ j=>ZFE s.fle j slA slA κ (fun k=>fun a=>fun f g i=>ZsP a f g i)) fun v l T U=>⟨_,rfl,?_⟩
 exact tZ
theorem Zr5 {e f g r} (U:Zcx e=some r) (a3:sc h eI f e.Field.Poly) (u:sc h eL g e.Rows):zR 115 #[.agg #[.int .i64 e.Field.Prime,.int .i64 e.Field.Degree,f,g]] h ψ (.bool r):=by
 refine zS hψ ⟨[],an [[3]],[],[(1,⟨kdL [0,1,0,1,3,0,0,0,1,0,0,0,0,0,1,3,0,2,4,4,0,0],.fin (rgs [(0,22)]),true⟩),(3,⟨kdL [0,1,3,0,2,4,0,0,0,0,0,0,0],.fin (rgs [(0,13)]),true⟩)]⟩ Tryz.func115 fun T=>?_;refine new_S T fun b1 x T=>?_;refine ⟨fun j=>S ψ h j [.box b1 [.int .i64 e.Field.Prime,.int .i64 e.Field.Degree,f,g]]/\ZoK e=some r,?_,?_⟩
 ·refine ⟨fun _=>False,?_⟩;have k:=T;have a:=eX x;refine lsA ?_;obtain ⟨a6,v,U⟩:=obind U;refine ce0 T (fun s=>ZBh s.fle v slA slA) fun a7 xE T=>⟨_,rfl,eZ (a.trans xE),?_⟩
  replace a:=a.trans xE;refine brZ fun U=>?_;refine bV T 0 3 ?_;refine vL u T.le ?_;refine brZ fun U=>?_;refine lsA ?_;obtain ⟨a8,w,U⟩:=obind U;refine ce0 T (fun s=>ZmO s.fle w slA) fun a9 xE T=>⟨_,rfl,eZ (a.trans xE),?_⟩
  replace a:=a.trans xE;refine ZM ?_;refine ldV_K (k.cells 0 rfl) 3 rfl rfl ?_;refine cm0 U T (fun s c=>Zcd s c slA) fun aa ab T U=>⟨_,rfl,?_⟩
  refine cm0 U T (fun s c=>Zh8 s c) fun ac a5 T U=>⟨_,rfl,?_⟩
  refine brZ fun U=>?_;exact endC
 ·rintro _ j ⟨T,U⟩;refine ⟨fun _=>False,?_⟩;have l:=T;have i:=eX j;refine lsA ?_;obtain ⟨ad,c,U⟩:=obind U;obtain ⟨φ,L,s,o⟩:=id T;refine (Zsb s.fle c slA).mono fun ae af ⟨ag,y,a0,a1,eq,t⟩=>⟨_,_,_,_,_,eq,eZ (i.trans t.ext),?_⟩
  replace i:=i.trans t.ext;replace T:=join4 s o t;clear t s o;have T:=frA 0;have T:=frA 1;have T:=frA 2;refine ZM ?_;refine ldV_K (l.cells 0 rfl) 3 rfl rfl ?_;refine cm2 U T (fun s c=>ZEy s c slA slA slA slA slA) fun ah ai a2 aj T U=>⟨_,_,_,rfl,?_⟩
  have T:=frA 0;refine bV T 6 3 ?_;refine cm0 U T (fun s c=>ZFj s c slA slA) fun ak al T U=>⟨_,rfl,?_⟩
  exact tZ
theorem ZEC {n0 r} (U:Zdd n0=some r)  :zR 245 #[.int .i64 n0] h ψ (.tuple #[.int .i64 r.1,.int .i64 r.2]):=by
 refine zS hψ ⟨an [[3,66]],[],[],[(10,⟨kdL [0,0,2,0,3,0,0],.fin [3,4,0,1,2,5,6],true⟩)]⟩ Tryz.func245 fun T=>?_;refine cm1 U T (fun s k=>Zrl s k) fun r8 l o T U=>⟨_,rfl,?_⟩
 refine Zi slA ?_;refine lp1 (os:=[.it oL [l] r8]) U (pk T [0]) fun m u j a T U W=>?_;apply brQ U<;>intro U
 ·refine ixI slA U fun v U=>?_;refine ixI slA U fun w U=>?_;refine brZ fun U=>?_;exact endL
 ·refine Zi slA ?_;refine brZ fun U=>?_;refine ⟨fun _=>False,?_⟩;have e:=T;have c:=eX j;obtain ⟨x,f,U⟩:=obind U;refine ce0 T (fun s=>Za9 s.fle f slA) fun y xE T=>⟨_,rfl,eZ (c.trans xE),?_⟩
  replace c:=c.trans xE;refine ixA slA U fun a0 a1 g i U=>?_;refine ZH ?_;refine ldI_C (e.rdL 0 rfl (Zk _)) g i ?_;exact tZ
theorem ZJ0 {f r} (U:ZbE f=some r)  :CallsH P 182 #[.int .i64 f] h (fun v h'=>∃ w0,v=.tuple #[.agg #[.int .i64 r.1.Prime,.int .i64 r.1.Degree,w0],.int .i64 r.2]/\S ψ h h' [.it oL [w0] r.1.Poly]):=by
 refine zU [[5,36]] [[4]] Tryz.func182 fun T=>?_;refine new_S T fun g u T=>?_;refine cm0 U T (fun s c=>ZEC s c) fun i w T U=>⟨_,_,rfl,?_⟩
 refine ⟨fun e=>S ψ h e [.box g [.int .i64 0,.int .i64 0,(.slice none 0 0)]]/\Zlu i=some r,?_,?_⟩
 ·apply brQ U<;>intro U
  ·(iterate 3 refine boxA fun j T=>?_)
   refine lsA ?_;exact endX
  ·apply brQ U<;>intro U
   ·(iterate 3 refine boxA fun k T=>?_)
    refine lsA ?_;exact endX
   ·exact endC
 ·rintro _ e ⟨T,U⟩;refine lp1 (os:=[.box g [.int .i64 0,.int .i64 0,(.slice none 0 0)]]) U (pk T [0]) fun m n6 x a T U W=>?_;refine cm1 U T (fun s c=>ZcT s c) fun y a0 a1 T U=>⟨_,rfl,?_⟩
  refine puA U 0 fun a2 a3 a4 T U=>?_;refine cm0 U T (fun s c=>Zsx s c slA) fun a5 a6 T U=>⟨_,rfl,?_⟩
  apply brQ U<;>intro U
  ·exact endL
  ·refine cm1 U T (fun s c=>ZcT s c) fun a7 a8 a9 T U=>⟨_,rfl,?_⟩
   refine puA U 0 fun aa ab l T U=>?_;refine ZF oneA ?_
   (iterate 3 refine boxA fun o T=>?_)
   refine lsA ?_;exact endX
theorem ZuY {f e r} (U:Zb5 f=some r) (j:sc h eL e f.Rows):CallsH P 116 #[.agg #[.int .i64 f.Kind,.int .i64 f.Size,e]] h (fun v h'=>∃ w0 w1,v=.agg #[.int .i64 r.Field.Prime,.int .i64 r.Field.Degree,w0,w1]/\S ψ h h' [.it oL [w0] r.Field.Poly,.it (El.ow oL) [w1] r.Rows]):=by
 refine zS hψ ⟨[],[],[],[(2,⟨kdL [2,0,1,3,0,4],.fin [1,2,3,0,4,5],true⟩)]⟩ Tryz.func116 fun T=>?_;refine new_S T fun b1 o T=>?_;refine new_S T fun b2 u T=>?_;refine bI T 1 1 ?_;refine cm1 U T (fun s k=>ZJ0 s k) fun r8 v8 w T U=>⟨_,_,_,_,rfl,?_⟩
 refine new_S T fun b3 x T=>?_
 (iterate 3 refine boxA fun i T=>?_)
 refine ⟨fun _=>False,?_⟩;have a:=T;have c:=eX i;refine bV T 3 2 ?_;obtain ⟨y,g,U⟩:=obind U;refine ce1 T (fun s=>ZeJ s.fle g slA) fun a0 a1 xE T=>⟨_,rfl,eZ (c.trans xE),?_⟩
 replace c:=c.trans xE;refine ZH ?_;refine ldI_K (a.cells 0 rfl) 0 rfl rfl ?_;refine ZH ?_;refine ldI_K (a.cells 0 rfl) 1 rfl rfl ?_;refine ZM ?_;refine ldV_K (a.cells 0 rfl) 2 rfl rfl ?_;refine ZF oneA ?_
 (iterate 4 refine boxA fun l T=>?_)
 refine lsA ?_;exact endS
theorem ZHI {c v0 r} (U:Ze0 c=some r) (e:sc h eI v0 c):zR 289 #[v0] h ψ (.int .i64 r):=by
 refine zT [[3,48]] Tryz.func289 fun T=>?_;refine vL e T.le ?_;refine lp1 U (nlS T) fun m i f a T U W=>?_;refine brY fun U=>?_;refine ixI slA U fun g U=>?_;exact brQ U (fun U=>tZ) fun U=>tZ
theorem ZH7 {g i r} (U:Zbo g i=some r)  :zR 248 #[.agg #[.int .i64 g.A,.int .i64 g.B],.agg #[.int .i64 i.A,.int .i64 i.B]] h ψ (.int .i64 r):=by
 refine zS hψ ⟨[],[],[],[(1,⟨kdL [0,1,0,1,3,0,2,0,2,4,4,4,0],.fin (rgs [(0,13)]),true⟩)]⟩ Tryz.func248 fun T=>?_;refine new_S T fun b2 l T=>?_;refine new_S T fun b3 j T=>?_;refine ⟨fun _=>False,?_⟩;have c:=T;have a:=eX j;refine lsA ?_;obtain ⟨k,e,U⟩:=obind U;refine ce0 T (fun s=>ZnY s.fle e) fun o xE T=>⟨_,rfl,eZ (a.trans xE),?_⟩
 replace a:=a.trans xE;refine ZH ?_;refine ldI_K (c.cells 1 rfl) 1 rfl rfl ?_;refine ZH ?_;refine ldI_K (c.cells 0 rfl) 1 rfl rfl ?_;refine cm0 U T (fun s e=>ZnY s e) fun f u T U=>⟨_,rfl,?_⟩
 refine ZaJ (E:=eI) (css:=[[.int .i64 k],[.int .i64 f]]) (xs:=([k,f]:List Int)) T (fun _=>⟨[],[],rfl,⟨rfl,rfl⟩,⟨[],[],rfl,⟨rfl,rfl⟩,rfl⟩⟩) rfl rfl fun v w T=>?_;refine cm0 U T (fun s e=>ZHI s e slA) fun x y T U=>⟨_,rfl,?_⟩
 exact tZ
theorem ZAV {n0 r} (U:Zoj n0=some r)  :zR 291 #[.int .i64 n0] h ψ (.bool r):=by
 refine zO Tryz.func291 fun T=>?_;refine cm0 U T (fun s a=>Zao s a) fun e c T U=>⟨_,rfl,?_⟩
 exact tZ
theorem ZHS {n0 r} (U:Zpu n0=some r)  :zR 290 #[.int .i64 n0] h ψ (.bool r):=by
 refine zO Tryz.func290 fun T=>?_;refine cm0 U T (fun s a=>ZAV s a) fun e c T U=>⟨_,rfl,?_⟩
 exact tZ
theorem ZEl {colors0 v0 r} (U:ZmV colors0=some r) (e:sc h eI v0 colors0):zR 249 #[v0] h ψ (.bool r):=by
 refine zO Tryz.func249 fun T=>?_;refine vL e T.le ?_;refine brY fun U=>?_;refine cl0 U T (fun s _ _ f=>ZfF s.fle f slA κ (fun g=>fun a=>fun c  =>ZHS a c )) fun r8 i T U=>⟨_,rfl,?_⟩
 exact tZ
theorem ZpL {k e f r} (U:Zfw k=some r) (x:sc h eI e k.Colors) (c:sc h Zg f k.Edges):zR 183 #[.agg #[e,f]] h ψ (.bool r):=by
 refine zS hψ ⟨an [[2,48]],[],[],[(4,⟨kdL [0,1,0,0,0,1,0,1,0,0,0,0,2,0,1,3,0,0,0,0,0,0,0,1,0,0,0,1,1,4,0,0,0],.fin (rgs [(0,11),(13,3),(11,2),(16,17)]),true⟩)]⟩ Tryz.func183 fun T=>?_;refine new_S T fun y a3 T=>?_;refine bV T 0 1 ?_;refine vL c T.le ?_;refine lp1 (os:=[.box y [e,f]]) U (pk T [0]) fun m y8 a4 a T U W=>?_;apply brQ U<;>intro U
 ·refine ixA slA U fun a5 a6 ad i U=>?_;obtain ⟨cs,ck,hr⟩:=c.cells ad i rfl;obtain rfl:=Zau hr;refine lsA ?_;refine new_S T fun b4 a7 T=>?_
  (iterate 2 refine boxA fun w T=>?_)
  refine ⟨fun _=>False,?_⟩;have j:=T;have g:=eX w;refine bI T 0 0 ?_;refine brZ fun U=>?_;refine lsA ?_;refine brZ fun U=>?_;refine bV T 1 0 ?_;obtain ⟨a8,l,U⟩:=obind U;refine ce0 T (fun s=>Za9 s.fle l slA) fun a9 xE T=>⟨_,rfl,eZ (g.trans xE),?_⟩
  replace g:=g.trans xE;refine ZH ?_;refine ldI_K (j.cells 0 rfl) 1 rfl rfl ?_;refine brZ fun U=>?_;apply brQ U<;>intro U
  ·refine bV T 1 1 ?_;refine ixA slA U fun aa ab o u U=>?_;obtain ⟨a1,a2,v⟩:=c.cells o u rfl;obtain rfl:=Zau v;refine lsA ?_;refine cm0 U T (fun s i=>ZH7 s i) fun ac ae T U=>⟨_,rfl,?_⟩
   refine brZ fun U=>?_;exact endL
  ·exact endL
 ·refine bV T 0 0 ?_;refine cm0 U T (fun s i=>ZEl s i slA) fun af ag T U=>⟨_,rfl,?_⟩
  refine brY fun U=>?_;refine bV T 0 1 ?_;refine vL c T.le ?_;exact tZ
theorem ZsY {j i r} (U:ZgB j=some r) (k:sc h eL i j.Rows):CallsH P 117 #[.agg #[.int .i64 j.Kind,.int .i64 j.Size,i]] h (fun v h'=>∃ w0 w1,v=.tuple #[.agg #[w0,w1],.bool r.2]/\S ψ h h' [.it oL [w0] r.1.Colors,.it (El.ow Zg) [w1] r.1.Edges]):=by
 refine zS hψ ⟨an [[5,114]],[],[],[(9,⟨kdL [0,2,0,0,1,0,0,1,0,3,4,0,4],.fin (rgs [(2,8),(0,2),(10,3)]),true⟩),(11,⟨kdL [2,1,3,4,0],.fin [1,2,0,3,4],true⟩)]⟩ Tryz.func117 fun T=>?_;refine new_S T fun b1 af T=>?_;refine new_S T fun b2 ag T=>?_;refine bI T 1 1 ?_;refine cm0 U T (fun s hx=>Zao s hx) fun r9 ah T U=>⟨_,rfl,?_⟩
 apply brQ U<;>intro U
 ·(iterate 2 refine boxA fun ai T=>?_)
  refine lsA ?_;exact endX
 ·refine bI T 1 1 ?_;refine mkO eI U fun a1 w aj T U=>?_;refine ZF oneA ?_;refine new_S T fun b4 ak T=>?_
  (iterate 2 refine boxA fun a8 T=>?_)
  refine bV T 3 2 ?_;refine vL k T.le ?_;have T:=T.nilO (E:=Zg);refine lw12 U (fun x xs l=>([.box b4 [w,l],.it oL [w] a1,.box b2 [(.slice none 0 0),(.slice none 0 0)],.box b1 [.int .i64 j.Kind,.int .i64 j.Size,i],.it (El.ow Zg) [l] xs],x,xs)) fun x o xs l a T U W=>?_;apply brQ U<;>intro U
  ·refine ixV k T.le U fun al am f U=>?_;refine vL f T.le ?_;apply brQ U<;>intro U
   ·(iterate 2 refine boxA fun a9 T=>?_)
    refine lsA ?_;exact endX
   ·refine ⟨fun _=>False,?_⟩;have u:=T;have c:=eX o;refine ixI slA U fun a2 U=>?_;refine ixI slA U fun a3 U=>?_;refine ZbZ T fun ao aa xE T=>⟨eZ (c.trans xE),?_⟩
    replace c:=c.trans xE;refine ZM ?_;refine ldV_K (u.cells 0 rfl) 1 rfl rfl ?_;obtain ⟨ap,y,U⟩:=obind U;refine ZkI T 5 rfl 0 rfl (fun _=>⟨[.int .i64 a2],[.int .i64 a3],[],[],rfl,rfl,⟨rfl,rfl⟩,⟨rfl,rfl⟩⟩) rfl rfl y fun aq ab xE T=>?_;refine boxA fun ac T=>?_;exact endL
  ·refine ⟨fun _=>False,?_⟩;have g:=T;have e:=eX o;refine lsA ?_;obtain ⟨ar,a0,U⟩:=obind U;refine ce0 T (fun s=>ZpL s.fle a0 slA slA) fun ad xE T=>⟨_,rfl,eZ (e.trans xE),?_⟩
   replace e:=e.trans xE;refine ZM ?_;refine ldV_K (g.cells 0 rfl) 0 rfl rfl ?_;refine ZM ?_;refine ldV_K (g.cells 0 rfl) 1 rfl rfl ?_
   (iterate 2 refine boxA fun ae T=>?_)
   refine lsA ?_;exact endX
theorem ZHW {n0 r} (U:Zjw n0=some r)  :zL 292 #[.int .i64 n0] h ψ eI r:=by
 refine zT [[3,54]] Tryz.func292 fun T=>?_;refine mkO eI U fun s f i T U=>?_;refine Zi slA ?_;refine lw11 U (fun e xs=>([.it oL [f] xs],e,xs)) fun e j xs a T U W=>?_;apply brQ U<;>intro U
 ·refine ixA slA U fun k l g c U=>?_;refine st1_S T 0 rfl g c rfl (fun _=>⟨rfl,rfl⟩) fun o T=>?_;dsimp at T;exact endL
 ·exact endX
theorem ZtX {i v0 r} (U:Zh3 i=some r) (j:sc h eI v0 i):zR 293 #[v0] h ψ (.string r):=by
 refine zT [[3,66]] Tryz.func293 fun T=>?_;refine vL j T.le ?_;refine mkO (El.int .u8) U fun y k l T U=>?_;refine vL j T.le ?_;refine lw11 U (fun c xs=>([.it (El.ow (El.int .u8)) [k] xs],c,xs)) fun c o xs a T U W=>?_;apply brQ U<;>intro U
 ·refine ixI slA U fun s U=>?_;refine ixA slA U fun u v e f U=>?_;refine st1_S T 0 rfl e f rfl (fun _=>⟨rfl,rfl⟩) fun w T=>?_;dsimp at T;exact endL
 ·obtain ⟨x,g,U⟩:=obind U;refine b2s_S slA g ?_;exact tZ
theorem ZCc {g v0 i v1 r} (U:ZkY g i=some r) (j:sc h eI v0 g) (y:sc h eI v1 i):zL 294 #[v0,v1] h ψ eI r:=by
 refine zT [[3,72]] Tryz.func294 fun T=>?_;refine vL j T.le ?_;refine mkO eI U fun l9 k l T U=>?_;refine Zi slA ?_;refine lw11 U (fun c xs=>([.it oL [k] xs],c,xs)) fun c o xs a T U W=>?_;apply brQ U<;>intro U
 ·refine ixI slA U fun s U=>?_;refine ixI slA U fun u U=>?_;refine ixA slA U fun v w e f U=>?_;refine st1_S T 0 rfl e f rfl (fun _=>⟨rfl,rfl⟩) fun x T=>?_;dsimp at T;exact endL
 ·exact endX
end
theorem Zsj {ψ:CM} {k h:Heap} {os:List Ob} {E0:El (List Int)} {x0:List (List Int)} {v0:Value} {j:(List Int)->(List Int)->Option Int} {i:Nat} {a:List Value} {r:List (List Int)} (U:ZeN x0 j=some r) (T:S ψ k h (.it (El.ow E0) [v0] x0::os)) (o1:ctx.okf i=true) (k1:∀ {h1:Heap},ExtH k h1->∀ {ψ1:CM},CLe ψ1 (hcell h1)->∀ {o:List Int} {f:Value} {s:List Int} {g:Value} {u:Int},j o s=some u->SlC (hcell h1) eI f o->SlC (hcell h1) eI g s->CallsQ True P i (([f,g]:List Value)++a).toArray h1 (fun v h'=>v=.int .i64 u/\S ψ1 h1 h' [])) (w:E0.z=1:=by exact rfl) (x:Frz E0 eL:=by first|exact ZL (Zk _)|exact Zah _):CallsH P 295 #[v0,.func (.func i) #[] a.toArray] h (fun v h'=>v=.tuple #[]/\S ψ k h' (.it (El.ow E0) [v0] r::os)):=by
  unfold ZeN at U;split at U
  · rename_i y;obtain rfl:=oI U;obtain ⟨fn,hf,l,hn⟩:=ctxOk.fns i o1;obtain ⟨c,l⟩:=Option.isSome_iff_exists.1 l;exact ZDv Tryz.sortF Tryz.sortG T (Go.Proofs.enters_of hf hn l) (fun e _=>k1 e) y.1 y.2 w x
  · cases U
section
variable {ψ:CM} {h:Heap} (hψ:CLe ψ (hcell h))
include hψ
theorem Zt8 {degree0 genera1 v1 r} (U:ZeD degree0 genera1=some r) (f1:sc h eL v1 genera1):CallsH P 250 #[.int .i64 degree0,v1] h (fun v h'=>∃ w0,v=.tuple #[w0,.bool r.2]/\S ψ h h' [.it (El.ow oL) [w0] r.1]):=by
 refine zT [[4,37,48],[7,37,180]] Tryz.func250 fun T=>?_;refine cm1 U T (fun s w=>ZHW s w) fun al am ao T U=>⟨_,rfl,?_⟩
 refine ZF oneA ?_;refine Zme T fun ap aq T=>?_;refine ZGF (κ:=ByteArray) (ν:=Bool) kStr vBool T fun k ar T=>?_;refine ixA slA U fun au av ad e U=>?_;refine Za2 T 1 rfl ad e fun aw hd=>?_;refine cl0 U T (fun a6 _ _ x=>ZtX a6.fle x (T.rowC 1 rfl hd e (Zk _))) fun ax ay T U=>⟨_,rfl,?_⟩
 refine Zto (v:=true) Zpk T 0 rfl rfl rfl fun az T=>?_;dsimp at T;refine lw22 U (fun v6 k8 a7 mp=>([.mp k (mkV kStr vBool mp),.it (El.ow oL) [v6] a7],a7,k8,mp)) fun v6 k8 b0 a7 mp a T U W=>?_;refine Zi slA ?_;apply brQ U<;>intro U
 ·refine vL f1 T.le ?_;refine lw22 U (fun g l a5 c=>([.mp k (mkV kStr vBool c),.it (El.ow oL) [g] a5],a5,l,c)) fun g l b1 a5 c b2 T U W=>?_;apply brQ U<;>intro U
  ·refine ixV f1 T.le U fun b3 b4 f U=>?_;refine ixA slA U fun b5 b6 y i U=>?_;refine Za2 T 1 rfl y i fun b7 a0=>?_;refine cl1 U T (fun a9 _ _ a1=>ZCc a9.fle a1 (T.rowC 1 rfl a0 i (Zk _)) slA) fun b8 b9 ba T U=>⟨_,rfl,?_⟩
   refine cm0 U T (fun s w=>ZtX s w slA) fun bb ag T U=>⟨_,rfl,?_⟩
   refine ZD6 Zpk T 1 rfl rfl ?_;apply brQ U<;>intro U
   ·refine Zto (v:=true) Zpk T 1 rfl rfl rfl fun ah T=>?_;dsimp at T;refine ZF oneA ?_;refine piA U 1 fun bc bd ai T U=>?_;exact endL
   ·exact endL
  ·refine Zi slA ?_;apply brQ U<;>intro U
   ·exact endX
   ·exact endX
 ·have T:=T.pull 1 rfl;dsimp only [List.eraseIdx] at T;obtain ⟨be,a2,U⟩:=obind U;obtain ⟨aj,bf,j,o⟩:=id T;refine (Zsj a2 (j.upS o) κ (fun bg=>fun a3=>fun aa ab ac=>Zv0 a3 aa ab ac)).mono fun bh ak ⟨a4,u⟩=>⟨a4,?_⟩
  replace T:=j.downS u;clear u j o;exact endX
theorem Zuy {x0:List (List Int)} {v0:Value} {a1:List Int} {v1:Value} {j:(List Int)->(List Int)->Option Int} {u:Nat} {c:List Value} {r:Int×Bool} (U:ZdZ x0 a1 j=some r) (w:sc h eL v0 x0) (f1:sc h eI v1 a1) (o2:ctx.okf u=true) (k2:∀ {h1:Heap},ExtH h h1->∀ {ψ1:CM},CLe ψ1 (hcell h1)->∀ {y0:List Int} {e:Value} {y1:List Int} {g:Value} {r1:Int},j y0 y1=some r1->SlC (hcell h1) eI e y0->SlC (hcell h1) eI g y1->CallsH P u (([e,g]:List Value)++c).toArray h1 (fun v h'=>v=.int .i64 r1/\S ψ1 h1 h' [])):zR 251 #[v0,v1,.func (.func u) #[] c.toArray] h ψ (.tuple #[.int .i64 r.1,.bool r.2]):=by
 refine zT [[3,54,60]] Tryz.func251 fun T=>?_;refine vL w T.le ?_;refine lp2 U (nlS T) fun m i9 a7 a8 a T U W=>?_;apply brQ U<;>intro U
 ·obtain ⟨_,hx,U⟩:=obind U;refine ⟨Zia hx,?_⟩;refine ixV w T.le U fun a9 aa f U=>?_;obtain ⟨ab,x,U⟩:=obind U;obtain ⟨φ,L,s,k⟩:=id T;refine Zca o2 ?_;refine (k2 T.ext s.fle x slA slA).mono fun ac ad ⟨eq,t⟩=>⟨_,eq,?_⟩
  replace T:=join0 s k t;clear t s k;exact brQ U (fun U=>tZ) fun U=>tZ
 ·refine brY fun U=>?_;refine ixV w T.le U fun ae af ag U=>?_;obtain ⟨ah,y,U⟩:=obind U;obtain ⟨a6,ai,i,l⟩:=id T;refine Zca o2 ?_;refine (k2 T.ext i.fle y slA slA).mono fun aj ak ⟨a0,o⟩=>⟨_,a0,?_⟩
  replace T:=join0 i l o;clear o i l;exact tZ
theorem ZAr {degree0 elemen1 v1 r} (U:Zmq degree0 elemen1=some r) (x:SlC ψ eL v1 elemen1):CallsH P 184 #[.int .i64 degree0,v1] h (fun v h'=>∃ w0 w1,v=.tuple #[w0,w1,.bool r.2.2]/\S ψ h h' [.it (El.ow eL) [w0] r.1,.it (El.ow eL) [w1] r.2.1]):=by
 refine zU [[4,43,49,57,126]] [[8]] Tryz.func184 fun T=>?_;obtain ⟨a4,k,U⟩:=obind U;obtain ⟨φ,L,s,g⟩:=id T;refine (Zt8 s.fle k SlC.nil).mono fun a5 a6 ⟨a7,eq,t⟩=>⟨_,_,eq,?_⟩
 replace T:=join1 s g t;clear t s g;refine vL x T.leF ?_;have T:=T.nilO (E:=eL);refine lw42 U (fun l o i e aj c=>([.it (El.ow eL) [l] aj,.it (El.ow oL) [o] c],aj,c,i,e)) fun l o i e a8 aj c a T U W=>?_;apply brQ U<;>intro U
 ·refine ixV x T.leF U fun y a9 f U=>?_;refine ⟨fun j=>S ψ h j [.it (El.ow eL) [l] aj,.it (El.ow oL) [o] c]/\Zle degree0 aj e y=some a,?_,?_⟩
  ·refine cl0 U T (fun a0 _ _ u=>Zuy a0.fle u slA (f.mono T.leF) κ (fun aa=>fun w=>fun a1 a2 a3=>ZfA w a1 a2 a3)) fun ab ac T U=>⟨_,_,rfl,?_⟩
   apply brQ U<;>intro U
   ·exact endL
   ·apply brQ U<;>intro U
    ·exact endL
    ·exact endC
  ·rintro _ j ⟨T,U⟩;refine ZF (f.mono T.leF).one ?_;have T:=T.arg f;refine piA U 0 fun ad ae af T U=>?_;refine cm1 U T (fun s k=>Zt8 s k slA) fun ag ah ai T U=>⟨_,_,rfl,?_⟩
   exact endL
 ·have T:=T.frzIn 1 rfl (ZL (Zk _));dsimp at T;exact endX
theorem Zxg {g e r} (U:Zjq g=some r) (c:SlC ψ eL e g.Elements):zR 118 #[.agg #[.int .i64 g.Degree,e]] h ψ (.bool r):=by
 refine zU [[4,18]] [[3]] Tryz.func118 fun T=>?_;refine new_S T fun u a0 T=>?_;refine ⟨fun i=>S ψ h i [.box u [.int .i64 g.Degree,e]]/\Zqq g=some r,?_,?_⟩
 ·refine bI T 0 0 ?_;refine cm0 U T (fun s y=>Zao s y) fun r9 a1 T U=>⟨_,rfl,?_⟩
  refine brZ fun U=>?_;refine bV T 0 1 ?_;refine vL c T.leF ?_;refine brZ fun U=>?_;refine bV T 0 1 ?_;refine vL c T.leF ?_;refine brZ fun U=>?_;refine lsA ?_;refine cl0 U T (fun v _ _ k=>Zra v.fle k (c.mono T.leF)) fun a2 a3 T U=>⟨_,rfl,?_⟩
  refine brZ fun U=>?_;exact endC
 ·rintro _ i ⟨T,U⟩;refine lp1 (os:=[.box u [.int .i64 g.Degree,e]]) U (pk T [0]) fun m y3 a4 a T U W=>?_;refine bV T 0 1 ?_;refine vL c T.leF ?_;apply brQ U<;>intro U
  ·refine bV T 0 1 ?_;refine ixV c T.leF U fun a5 a6 f U=>?_;refine bV T 0 1 ?_;refine ixV c T.leF U fun a7 a8 w U=>?_;refine cl0 U T (fun s _ _ l=>ZfA s.fle l (f.mono T.leF) (w.mono T.leF)) fun a9 aa T U=>⟨_,rfl,?_⟩
   refine brZ fun U=>?_;exact endL
  ·refine lsA ?_;refine cl2 U T (fun j _ _ o=>ZAr j.fle o (c.mono j.bas)) fun ab ac x ad T U=>⟨_,_,_,rfl,?_⟩
   refine brY fun U=>?_;refine Zi slA ?_;refine bV T 2 1 ?_;refine vL c T.leF ?_;exact tZ
theorem ZBC {e c r} (U:Zi4 e=some r) (i:sc h eL c e.Rows):CallsH P 119 #[.agg #[.int .i64 e.Kind,.int .i64 e.Size,c]] h (fun v h'=>∃ w0,v=.agg #[.int .i64 r.Degree,w0]/\S ψ h h' [.it (El.ow oL) [w0] r.Elements]):=by
 refine zS hψ ⟨[],[],[],[(1,⟨kdL [0,2,0,1,3,0,4],.fin [2,3,4,0,1,5,6],true⟩)]⟩ Tryz.func119 fun T=>?_;refine new_S T fun u k T=>?_;refine new_S T fun w g T=>?_;refine ⟨fun _=>False,?_⟩;have f:=T;have a:=eX g;refine bV T 1 2 ?_;obtain ⟨x,j,U⟩:=obind U;refine ce1 T (fun s=>ZeJ s.fle j slA) fun y l xE T=>⟨_,rfl,eZ (a.trans xE),?_⟩
 replace a:=a.trans xE;refine ZH ?_;refine ldI_K (f.cells 1 rfl) 1 rfl rfl ?_;refine ZF oneA ?_
 (iterate 2 refine boxA fun o T=>?_)
 refine lsA ?_;exact endS
theorem Zmu {k g r} (U:ZaE k=some r) (x:sc h eL g k.Rows):zR 73 #[.agg #[.int .i64 k.Kind,.int .i64 k.Size,g]] h ψ (.bool r):=by
 refine zS hψ ⟨[],[],[],[(3,⟨kdL [0,1,3,0,2,0,0,0,1,4,0,0],.fin (rgs [(0,12)]),true⟩),(7,⟨kdL [0,1,3,0,2,0,0,0,1,4,0,0],.fin (rgs [(0,12)]),true⟩)]⟩ Tryz.func73 fun T=>?_;refine new_S T fun b1 w T=>?_;refine bI T 0 0 ?_;apply brQ U<;>intro U
 ·refine ⟨fun _=>False,?_⟩;have l:=T;have c:=eX w;refine bV T 0 2 ?_;obtain ⟨ad,a,U⟩:=obind U;refine ce0 T (fun s=>Zcd s.fle a slA) fun ae xE T=>⟨_,rfl,eZ (c.trans xE),?_⟩
  replace c:=c.trans xE;refine ZH ?_;refine ldI_K (l.cells 0 rfl) 1 rfl rfl ?_;refine brY fun U=>?_;refine bV T 0 2 ?_;refine cm0 U T (fun s a=>Zvi s a slA) fun af ag T U=>⟨_,rfl,?_⟩
  exact tZ
 ·apply brQ U<;>intro U
  ·refine lsA ?_;refine cm1 U T (fun s a=>ZuK s a slA) fun ah ai aj T U=>⟨_,_,rfl,?_⟩
   have T:=frA 0;refine cm0 U T (fun s a=>Zre s a slA) fun ak al T U=>⟨_,rfl,?_⟩
   exact tZ
  ·apply brQ U<;>intro U
   ·refine ⟨fun _=>False,?_⟩;have o:=T;have e:=eX w;refine bV T 0 2 ?_;obtain ⟨am,y,U⟩:=obind U;refine ce0 T (fun s=>Zcd s.fle y slA) fun ao xE T=>⟨_,rfl,eZ (e.trans xE),?_⟩
    replace e:=e.trans xE;refine ZH ?_;refine ldI_K (o.cells 0 rfl) 1 rfl rfl ?_;refine brY fun U=>?_;refine bV T 0 2 ?_;refine cm0 U T (fun s a=>ZG3 s a slA) fun ap aq T U=>⟨_,rfl,?_⟩
    exact tZ
   ·apply brQ U<;>intro U
    ·refine bV T 0 2 ?_;refine vL x T.le ?_;refine brY fun U=>?_;refine lsA ?_;refine cm1 U T (fun s a=>ZyB s a slA) fun ar au av T U=>⟨_,_,_,rfl,?_⟩
     have T:=frA 0;refine cm0 U T (fun s a=>ZGH s a slA) fun aw a3 T U=>⟨_,rfl,?_⟩
     exact tZ
    ·apply brQ U<;>intro U
     ·refine lsA ?_;refine cm2 U T (fun s a=>ZuY s a slA) fun ax ay a0 a4 T U=>⟨_,_,_,_,rfl,?_⟩
      have T:=frA 1;refine cm0 U T (fun s a=>Zr5 s a slA slA) fun az a5 T U=>⟨_,rfl,?_⟩
      exact tZ
     ·apply brQ U<;>intro U
      ·refine lsA ?_;refine cm2 U T (fun s a=>ZsY s a slA) fun b0 b2 a1 a6 T U=>⟨_,_,_,rfl,?_⟩
       refine new_S T fun b3 a7 T=>?_
       (iterate 2 refine boxA fun a8 T=>?_)
       exact tZ
      ·refine brY fun U=>?_;refine lsA ?_;refine cm1 U T (fun s a=>ZBC s a slA) fun b4 b5 a9 T U=>⟨_,_,rfl,?_⟩
       have T:=frA 0;obtain ⟨b6,u,U⟩:=obind U;obtain ⟨a2,aa,f,i⟩:=id T;refine (Zxg (CLe.refl _) u slA).mono fun ab ac ⟨v,j⟩=>⟨_,v,?_⟩
       replace T:=join0 f i (j.weak f.fle);clear j f i;exact tZ
theorem ZIF {a r} (U:ZjZ a=some r)  :zR 188 #[.int .i64 a] h ψ (.bool r):=by
 refine zO Tryz.func188 fun T=>?_;refine cm0 U T (fun s c=>Zao s c) fun f e T U=>⟨_,rfl,?_⟩
 exact tZ
theorem ZyT {a r} (U:Zl9 a=some r)  :zR 121 #[.int .i64 a] h ψ (.string r):=by
 refine zO Tryz.func121 fun T=>?_;refine cm0 U T (fun s c=>ZIF s c) fun g e T U=>⟨_,rfl,?_⟩
 refine brZ fun U=>?_;refine cm1 U T (fun s c=>Zte s c) fun i j f T U=>⟨_,rfl,?_⟩
 refine ixS slA U fun k U=>?_;exact tZ
theorem ZC6 {c e r} (U:ZmF c=some r) (g:sc h eL e c.Rows) (hL:LayH 3 [0] [1,2] h):zR 74 #[.agg #[.int .i64 c.Kind,.int .i64 c.Size,e]] h ψ (.string r):=by
 refine zS hψ ⟨an [[7,25,102]],an [[12,20]],[],[(12,⟨kdL [0,1,3,0,0,2,4,0,0,0,0,0],.fin [0,1,2,4,5,6,3,7,8,9,10,11],true⟩)]⟩ Tryz.func74 fun T=>?_;refine new_S T fun b1 a5 T=>?_;refine lsA ?_;refine cm0 U T (fun s w=>Zmu s w slA) fun r8 a6 T U=>⟨_,rfl,?_⟩
 refine brZ fun U=>?_;refine ⟨fun j k=>S ψ h k [.box b1 [.int .i64 c.Kind,.int .i64 c.Size,e]]/\ZiD c j=some r,?_,?_⟩
 ·refine bV T 0 2 ?_;refine vL g T.le ?_;apply brQ U<;>intro U
  ·refine bV T 0 2 ?_;refine vL g T.le ?_;have T:=T.nilO (E:=El.str);refine lw21 U (fun v4 o a1=>([.it (El.ow El.str) [v4] a1,.box b1 [.int .i64 c.Kind,.int .i64 c.Size,e]],a1,o)) fun v4 o a7 a1 a T U W=>?_;apply brQ U<;>intro U
   ·refine ixV g T.le U fun a8 a9 f U=>?_;refine cl0 U T (fun u _ _ x=>Zoz u.fle x slA (hL.ext u.ext)) fun aa ab T U=>⟨_,rfl,?_⟩
    refine puA U 0 fun ac ad ae T U=>?_;exact endL
   ·refine cm0 U T (fun s w=>ZnC s w slA) fun af a3 T U=>⟨_,rfl,?_⟩
    obtain ⟨xm,hq,rfl⟩:=omap U;obtain rfl:=oI W;exact ⟨pk T [1],hq⟩
  ·exact endC
 ·rintro _ j k ⟨T,U⟩;refine ⟨fun _=>False,?_⟩;have l:=T;have i:=eX k;refine bI T 0 0 ?_;obtain ⟨ag,y,U⟩:=obind U;refine ce0 T (fun s=>ZyT s.fle y) fun ah xE T=>⟨_,rfl,eZ (i.trans xE),?_⟩
  replace i:=i.trans xE;refine ZH ?_;refine ldI_K (l.cells 0 rfl) 1 rfl rfl ?_;refine cl0 U T (fun v _ _ a0=>ZdQ v.fle a0 (hL.ext v.ext)) fun ai aj T U=>⟨_,rfl,?_⟩
  refine gfA U fun U=>?_;refine gfA U fun U=>?_;refine gfA U fun U=>?_;refine gfA U fun U=>?_;exact tZ
theorem ZCs {y0 r} (U:Zeh y0=some r) (hL:LayH 3 [0] [1,2] h):CallsH P 44 #[.string y0] h (fun v h'=>∃ w0,v=.tuple #[.agg #[.int .i64 r.1.Kind,.int .i64 r.1.Size,w0],.bool r.2]/\S ψ h h' [.it (El.ow oL) [w0] r.1.Rows]):=by
 refine zU [[9,246]] [[14]] Tryz.func44 fun T=>?_;refine new_S T fun b2 ap T=>?_;refine cl1 U T (fun s _ _ e=>Zjv s.fle e (hL.ext s.ext)) fun w x aq T U=>⟨_,rfl,?_⟩
 refine Zi slA ?_;apply brQ U<;>intro U
 ·(iterate 3 refine boxA fun ar T=>?_)
  refine lsA ?_;exact endX
 ·refine new_S T fun b5 au T=>?_;refine ixS slA U fun av U=>?_;refine cm0 U T (fun s e=>ZxG s e) fun f aw T U=>⟨_,_,rfl,?_⟩
  refine boxA fun ax T=>?_;refine ixS slA U fun ay U=>?_;refine cl0 U T (fun y _ _ a5=>ZoW y.fle a5 (hL.ext y.ext)) fun g ab T U=>⟨_,_,rfl,?_⟩
  refine boxA fun ac T=>?_;refine ⟨fun i=>∃ xs j,S ψ h i [.box b5 [.int .i64 f.1,.int .i64 g.1,j],.it (El.ow El.str) [x] w,.box b2 [.int .i64 0,.int .i64 0,(.slice none 0 0)],.it (El.ow oL) [j] xs]/\ZiE y0 f g xs=some r,?_,?_⟩
  ·refine ixS slA U fun az U=>?_;apply brQ U<;>intro U
   ·refine ixS slA U fun b0 U=>?_;refine cl1 U T (fun a0 _ _ l=>Zjv a0.fle l (hL.ext a0.ext)) fun a9 aa ad T U=>⟨_,rfl,?_⟩
    refine Zi slA ?_;have T:=T.nilO (E:=oL);refine lw12 U (fun a1 c k=>([.it (El.ow El.str) [aa] a9,.box b5 [.int .i64 f.1,.int .i64 g.1,k],.it (El.ow El.str) [x] w,.box b2 [.int .i64 0,.int .i64 0,(.slice none 0 0)],.it (El.ow oL) [k] c],a1,c)) fun a1 ae c k a T U W=>?_;apply brQ U<;>intro U
    ·refine ixS slA U fun b1 U=>?_;refine cl1 U T (fun a2 _ _ o=>ZH1 a2.fle o (hL.ext a2.ext)) fun b3 b4 af T U=>⟨_,_,rfl,?_⟩
     refine bV T 2 2 ?_;refine ZF oneA ?_;obtain ⟨b6,u,U⟩:=obind U;refine Zdp T 4 rfl rfl rfl u fun b7 ag T=>?_;refine boxA fun ah T=>?_;exact endL
    ·obtain ⟨xm,hq,rfl⟩:=omap U;obtain rfl:=oI W;exact ⟨_,_,pk T [1,2,3,4],hq⟩
   ·exact endX
  ·rintro _ i ⟨xs,j,T,U⟩;refine lsA ?_;refine cm0 U T (fun s e=>Zmu s e slA) fun b8 aj T U=>⟨_,rfl,?_⟩
   apply brQ U<;>intro U
   ·(iterate 3 refine boxA fun ak T=>?_)
    refine lsA ?_;exact endX
   ·refine lsA ?_;refine cl0 U T (fun a3 _ _ a6=>ZC6 a3.fle a6 slA (hL.ext a3.ext)) fun b9 al T U=>⟨_,rfl,?_⟩
    apply brQ U<;>intro U
    ·(iterate 3 refine boxA fun am T=>?_)
     refine lsA ?_;exact endX
    ·refine lsA ?_
     (iterate 3 refine boxA fun ao T=>?_)
     refine lsA ?_;exact endS
theorem ZDN {c r} (U:ZlP c=some r)  :zR 45 #[.string c] h ψ (.bool r):=by
 refine zU [[4,108]] [[3],[7,33],[8,39]] Tryz.func45 fun T=>?_;refine ⟨fun f=>S ψ h f []/\ZpT c=some r,?_,?_⟩
 ·refine brZ fun U=>?_;exact brQ U (fun U=>tZ) fun U=>tZ
 ·rintro _ f ⟨T,U⟩;refine s2b_S T fun e l T=>?_;refine Zi slA ?_;refine lp1 (os:=[.it (El.sl (El.int .u8)) [e] (byts c)]) U (pk T [0]) fun m g o a T U W=>?_;refine brY fun U=>?_;refine ixI slA U fun k U=>?_;refine ⟨fun u i=>S ψ h i [.it (El.sl (El.int .u8)) [e] (byts c)]/\Zbg g k u=some a,?_,?_⟩
  ·apply brQ U<;>intro U
   ·exact endC
   ·exact endC
  ·rintro _ u i ⟨T,U⟩;refine ⟨fun w j=>S ψ h j [.it (El.sl (El.int .u8)) [e] (byts c)]/\Za4 g u w=some a,?_,?_⟩
   ·apply brQ U<;>intro U
    ·exact endC
    ·exact endC
   ·rintro _ w j ⟨T,U⟩;apply brQ U<;>intro U
    ·refine brZ fun U=>?_;refine brZ fun U=>?_;exact endL
    ·exact endL
theorem ZFH {a r} (U:ZbX a=some r) (hL:LayH 3 [0] [1,2] h):CallsH P 17 #[.string a] h (fun v h'=>∃ w0,v=.tuple #[.string r.1,.agg #[.int .i64 r.2.1.Kind,.int .i64 r.2.1.Size,w0],.int .i64 r.2.2]/\S ψ h h' [.it (El.ow oL) [w0] r.2.1.Rows]):=by
 refine zS hψ ⟨[],an [[4],[8]],[],[(2,⟨[],.fin (rgs [(0,3),(7,5),(3,4),(12,2)]),false⟩)]⟩ Tryz.func17 fun T=>?_;refine new_S T fun x ab T=>?_;refine cm0 U T (fun s e=>ZzV s e) fun y ac T U=>⟨_,rfl,?_⟩
 refine ⟨fun g=>S ψ h g [.box x [.int .i64 0,.int .i64 0,(.slice none 0 0)]]/\ZdR a y=some r,?_,?_⟩
 ·apply brQ U<;>intro U
  ·(iterate 3 refine boxA fun a1 T=>?_)
   refine lsA ?_;exact endX
  ·refine ssC U fun ad U=>?_;refine cm0 U T (fun s e=>ZDE s e) fun ae a2 T U=>⟨_,rfl,?_⟩
   refine cl0 U T (fun i _ _ o=>ZdQ i.fle o (hL.ext i.ext)) fun af a3 T U=>⟨_,rfl,?_⟩
   refine ssB U fun ag U=>?_;apply brQ U<;>intro U
   ·(iterate 3 refine boxA fun a4 T=>?_)
    refine lsA ?_;exact endX
   ·exact endC
 ·rintro _ g ⟨T,U⟩;refine ssC U fun ah U=>?_;refine cl0 U T (fun j _ _ u=>ZxB j.fle u (hL.ext j.ext)) fun a0 ai T U=>⟨_,_,_,rfl,?_⟩
  refine cl1 U T (fun k _ _ w=>ZCs k.fle w (hL.ext k.ext)) fun c l aj T U=>⟨_,_,_,_,rfl,?_⟩
  refine new_S T fun b9 ak T=>?_
  (iterate 3 refine boxA fun a6 T=>?_)
  refine ⟨fun f=>S ψ h f [.box b9 [.int .i64 c.1.Kind,.int .i64 c.1.Size,l],.it (El.ow oL) [l] c.1.Rows,.box x [.int .i64 0,.int .i64 0,(.slice none 0 0)]]/\ZnO a0 c=some r,?_,?_⟩
  ·apply brQ U<;>intro U
   ·(iterate 3 refine boxA fun a7 T=>?_)
    refine lsA ?_;exact endX
   ·refine cm0 U T (fun s e=>ZDN s e) fun al a8 T U=>⟨_,rfl,?_⟩
    apply brQ U<;>intro U
    ·(iterate 3 refine boxA fun a9 T=>?_)
     refine lsA ?_;exact endX
    ·exact endC
  ·rintro _ f ⟨T,U⟩;refine lsA ?_
   (iterate 3 refine boxA fun aa T=>?_)
   refine lsA ?_;exact endS
end
theorem ZDm {ψ:CM} {j h:Heap} {os:List Ob} {x0:List Zb} {v0:Value} {f:Zb->Zb->Option Int} {i:Nat} {g:List Value} {r:List Zb} (U:Zhx x0 f=some r) (T:S ψ j h (.it (El.ow Zg) [v0] x0::os)) (u:ctx.okf i=true) (k1:∀ {h1:Heap},ExtH j h1->∀ {ψ1:CM},CLe ψ1 (hcell h1)->∀ {k:Zb} {l:Zb} {s:Int},f k l=some s->CallsQ True P i (([.agg #[.int .i64 k.A,.int .i64 k.B],.agg #[.int .i64 l.A,.int .i64 l.B]]:List Value)++g).toArray h1 (fun v h'=>v=.int .i64 s/\S ψ1 h1 h' [])):CallsH P 298 #[v0,.func (.func i) #[] g.toArray] h (fun v h'=>v=.tuple #[]/\S ψ j h' (.it (El.ow Zg) [v0] r::os)):=by
  unfold Zhx at U;split at U
  · rename_i w;obtain rfl:=oI U;obtain ⟨fn,hf,o,y⟩:=ctxOk.fns i u;obtain ⟨c,o⟩:=Option.isSome_iff_exists.1 o;obtain ⟨⟨cf,a0,a3⟩,a1⟩:=w;have a5:(fun a c=>(f a c).getD 0)=cf:=by funext a c;rw [a0];rfl
    rw [a5]
    haveI:Inhabited Zb:=⟨(Zb.mk (0:Int) (0:Int))⟩
    exact ZBZ (ρ:=Tryz.sortK_ren) (E:=Zg) (enc:=fun x=>[.int .i64 x.A,.int .i64 x.B]) Tryz.sortK Tryz.isAgg173 Tryz.sizeOf173 (fun {φ L cs x} h=>⟨(Zn2 φ φ L cs x h).1,Zau h⟩) (fun _ x=>⟨[.int .i64 x.A],[.int .i64 x.B],[],[],rfl,rfl,⟨rfl,rfl⟩,⟨rfl,rfl⟩⟩) rfl a3 T (Go.Proofs.enters_of hf y o) (fun e _=>k1 e) a0 a1
  · cases U
theorem ZyP {ψ:CM} {c h:Heap} {os:List Ob} {x0:List Zb} {v0:Value} {r:List Zb} (U:Ziw x0=some r) (T:S ψ c h (.it (El.ow Zg) [v0] x0::os)):CallsH P 299 #[v0] h (fun v g=>∃ w0,v=w0/\S ψ c g (.it (El.ow Zg) [w0] r::os)):=by
 apply ZFZ;unfold Ziw at U;split at U
 case isFalse=>cases U
 rename_i l;exact Zwp (E:=Zg) Zn2 (z:=2) rfl (zero:=[.int .i64 0,.int .i64 0]) rfl (fun h p K=>ldI .i64 h p fun a=>ldI .i64 h (p.add 1) fun b=>K ⟨a,b⟩) (fun h p y K=>vStore1 h p (.int .i64 y.A) fun h1=>vStore1 h1 (p.add 1) (.int .i64 y.B) K) (fun a b=>a.A==b.A&&a.B==b.B) (fun u U hi j=>by obtain ⟨cs,e,w⟩:=u.cells U hi rfl;obtain rfl:=Zau w;exact ldI_K e 0 rfl rfl (ldI_K e 1 rfl rfl j)) (fun {h os v xs k y x0 p K} T i x U j o=>stN_S (cs:=[.int .i64 y.A,.int .i64 y.B]) T i x U j rfl (fun _=>⟨[.int .i64 y.A],[.int .i64 y.B],[],[],rfl,rfl,⟨rfl,rfl⟩,⟨rfl,rfl⟩⟩) o) l U T (R:=fun v g=>∃ w0,v=w0/\S ψ c g (.it (El.ow Zg) [w0] r::os)) fun v g T=>⟨v,rfl,T⟩
section
variable {ψ:CM} {h:Heap} (hψ:CLe ψ (hcell h))
include hψ
theorem Zty {edges0 v0 r} (U:Zgf edges0=some r) (o:sc h Zg v0 edges0):zL 254 #[v0] h ψ Zg r:=by
 refine zT [[3,19,48]] Tryz.func254 fun T=>?_;refine vL o T.le ?_;have T:=T.nilO (E:=Zg);refine lw21 U (fun u v e=>([.it (El.ow Zg) [u] e],e,v)) fun u v a0 e a T U W=>?_;apply brQ U<;>intro U
 ·refine ixA slA U fun c a1 x y U=>?_;obtain ⟨cs,ck,hr⟩:=o.cells x y rfl;obtain rfl:=Zau hr;refine lsA ?_;refine new_S T fun b5 a2 T=>?_
  (iterate 2 refine boxA fun a3 T=>?_)
  refine lsA ?_;obtain ⟨a4,g,U⟩:=obind U;refine ZaY T 1 rfl (fun _=>⟨[.int .i64 (if (c.B:Int)<c.A then c.B else c.A)],[.int .i64 (if (c.B:Int)>c.A then c.B else c.A)],[],[],rfl,rfl,⟨rfl,rfl⟩,⟨rfl,rfl⟩⟩) rfl rfl g fun a5 a6 T=>?_;dsimp at T;exact endL
 ·obtain ⟨a7,i,U⟩:=obind U;obtain ⟨φ,L,s,f⟩:=id T;refine (ZDm i (s.upS f) κ (fun a8=>fun j=>fun w  =>ZwT j w )).mono fun a9 aa ⟨eq,t⟩=>⟨eq,?_⟩
  replace T:=s.downS t;clear t s f;obtain ⟨ab,k,U⟩:=obind U;refine (ZyP k T ).mono fun ac ae ⟨af,l,T⟩=>⟨_,l,?_⟩
  exact endX
theorem Zur {colors0 v0 edges1 v1 r} (U:ZiI colors0 edges1=some r) (c:SlC ψ eI v0 colors0) (e:sc h Zg v1 edges1):CallsH P 189 #[v0,v1] h (fun v x=>∃ w0 w1,v=.tuple #[.agg #[w0,w1],.int .i64 r.2]/\S ψ h x [.it eL [w0] r.1.Colors,.it (El.ow Zg) [w1] r.1.Edges]):=by
 refine zU [] [[3]] Tryz.func189 fun T=>?_;refine new_S T fun f j T=>?_;refine ⟨fun a=>S ψ h a [.box f [(.slice none 0 0),(.slice none 0 0)]]/\Zqt colors0 edges1=some r,?_,?_⟩
 ·refine vL c T.leF ?_;apply brQ U<;>intro U
  ·(iterate 2 refine boxA fun k T=>?_)
   refine lsA ?_;exact endX
  ·refine vL e T.le ?_;apply brQ U<;>intro U
   ·(iterate 2 refine boxA fun g T=>?_)
    refine lsA ?_;exact endX
   ·exact endC
 ·rintro _ a ⟨T,U⟩;refine cm1 U T (fun s i=>Zty s i slA) fun l o u T U=>⟨_,rfl,?_⟩
  refine ZF (c.mono T.leF).one ?_;refine ZF oneA ?_
  (iterate 2 refine boxA fun w T=>?_)
  refine lsA ?_;have T:=T.arg c;exact endS
theorem Zw4 {y0 v0 y1 r} (U:ZeF y0 y1=some r) (f0:sc h eL v0 y0):CallsH P 122 #[v0,.bool y1] h (fun v h'=>∃ w0 w1,v=.tuple #[.agg #[w0,w1],.int .i64 r.2]/\S ψ h h' [.it eL [w0] r.1.Colors,.it (El.ow Zg) [w1] r.1.Edges]):=by
 refine zU [[8,43,174],[17,61,294],[20,61,318]] [[13,54]] Tryz.func122 fun T=>?_;refine new_S T fun y ai T=>?_;refine cm0 U T (fun s hx=>Zvi s hx slA) fun aj ak T U=>⟨_,rfl,?_⟩
 apply brQ U<;>intro U
 ·(iterate 2 refine boxA fun al T=>?_)
  refine lsA ?_;exact endX
 ·refine cm0 U T (fun s hx=>Zcd s hx slA) fun c am T U=>⟨_,rfl,?_⟩
  apply brQ U<;>intro U
  ·(iterate 2 refine boxA fun ao T=>?_)
   refine lsA ?_;exact endX
  ·have T:=T.nilO (E:=eI);refine lw21 U (fun l o j=>([.it oL [l] j,.box y [(.slice none 0 0),(.slice none 0 0)]],j,o)) fun l o ap j a T U W=>?_;apply brQ U<;>intro U
   ·refine gzA U fun U=>?_;refine ⟨fun y9 u=>S ψ h u [.it oL [l] j,.box y [(.slice none 0 0),(.slice none 0 0)]]/\ZgM j o y9=some a,?_,?_⟩
    ·apply brQ U<;>intro U
     ·apply brQ U<;>intro U
      ·exact endC
      ·exact endC
     ·exact endC
    ·rintro _ y9 u ⟨T,U⟩;refine puA U 0 fun aq ar ab T U=>?_;exact endL
   ·have T:=T.nilO (E:=Zg);refine lw21 U (fun a0 e w=>([.it (El.ow Zg) [a0] w,.it oL [l] j,.box y [(.slice none 0 0),(.slice none 0 0)]],w,e)) fun a0 e ac w au T U W=>?_;apply brQ U<;>intro U
    ·refine lw21 U (fun k g i=>([.it (El.ow Zg) [k] i,.it oL [l] j,.box y [(.slice none 0 0),(.slice none 0 0)]],i,g)) fun k g ad i av T U W=>?_;apply brQ U<;>intro U
     ·refine ixV f0 T.le U fun aw ax f U=>?_;refine ixI slA U fun x U=>?_;refine ZaJ (E:=Zg) (css:=[[.int .i64 e,.int .i64 (ε.wrap ((ε.wrap ((ε.wrap (3*c))+(ε.wrap (c*e))))+g))],[.int .i64 (ε.wrap (c+g)),.int .i64 (ε.wrap ((ε.wrap ((ε.wrap (3*c))+(ε.wrap (c*e))))+g))],[.int .i64 (ε.wrap ((ε.wrap (2*c))+x)),.int .i64 (ε.wrap ((ε.wrap ((ε.wrap (3*c))+(ε.wrap (c*e))))+g))]]) (xs:=([(Zb.mk e (ε.wrap ((ε.wrap ((ε.wrap (3*c))+(ε.wrap (c*e))))+g))),(Zb.mk (ε.wrap (c+g)) (ε.wrap ((ε.wrap ((ε.wrap (3*c))+(ε.wrap (c*e))))+g))),(Zb.mk (ε.wrap ((ε.wrap (2*c))+x)) (ε.wrap ((ε.wrap ((ε.wrap (3*c))+(ε.wrap (c*e))))+g)))]:List Zb)) T (fun _=>⟨[],[],rfl,⟨[.int .i64 e],[.int .i64 (ε.wrap ((ε.wrap ((ε.wrap (3*c))+(ε.wrap (c*e))))+g))],[],[],rfl,rfl,⟨rfl,rfl⟩,⟨rfl,rfl⟩⟩,⟨[],[],rfl,⟨[.int .i64 (ε.wrap (c+g))],[.int .i64 (ε.wrap ((ε.wrap ((ε.wrap (3*c))+(ε.wrap (c*e))))+g))],[],[],rfl,rfl,⟨rfl,rfl⟩,⟨rfl,rfl⟩⟩,⟨[],[],rfl,⟨[.int .i64 (ε.wrap ((ε.wrap (2*c))+x))],[.int .i64 (ε.wrap ((ε.wrap ((ε.wrap (3*c))+(ε.wrap (c*e))))+g))],[],[],rfl,rfl,⟨rfl,rfl⟩,⟨rfl,rfl⟩⟩,rfl⟩⟩⟩) rfl rfl fun ay ae T=>?_;obtain ⟨az,a2,U⟩:=obind U;refine app_S T 1 rfl (ZbT Zn2 slA) rfl rfl a2 fun b0 af T=>?_;dsimp at T;exact endL
     ·exact endX
    ·have T:=frA 1;refine cl2 U T (fun a7 a8 _ a3=>Zur a7.fle a3 (frF a8 1 rfl) slA) fun b1 b2 a9 ag T U=>⟨_,_,_,rfl,?_⟩
     (iterate 2 refine boxA fun ah T=>?_)
     refine lsA ?_;exact endX
theorem ZB0 {zeros0 c r} (U:ZmT zeros0 c=some r)  :zL 255 #[.int .i64 zeros0,.int .i64 c] h ψ eI r:=by
 refine zT [[3,36]] Tryz.func255 fun T=>?_;refine mkO eI U fun i f j T U=>?_;refine lw11 U (fun k6 xs=>([.it oL [f] xs],k6,xs)) fun k6 k xs a T U W=>?_;apply brQ U<;>intro U
 ·refine ixA slA U fun l o g e U=>?_;refine st1_S T 0 rfl g e rfl (fun _=>⟨rfl,rfl⟩) fun s T=>?_;dsimp at T;exact endL
 ·exact endX
theorem Zwq {points0 e v1 r} (U:Zgx points0 e=some r) (u:sc h eL v1 e):CallsH P 190 #[.int .i64 points0,v1] h (fun v h'=>∃ w0 w1,v=.tuple #[.agg #[w0,w1],.int .i64 r.2]/\S ψ h h' [.it eL [w0] r.1.Colors,.it (El.ow Zg) [w1] r.1.Edges]):=by
 refine zT [[3,37,78],[6,37,120]] Tryz.func190 fun T=>?_;refine new_S T fun w a4 T=>?_;refine vL u T.le ?_;have T:=T.nilO (E:=Zg);refine lw21 U (fun x g al=>([.it (El.ow Zg) [x] al,.box w [(.slice none 0 0),(.slice none 0 0)]],al,g)) fun x g a5 al a T U W=>?_;apply brQ U<;>intro U
 ·refine ixV u T.le U fun a6 a7 f U=>?_;refine vL f T.le ?_;refine lw21 U (fun i j c=>([.it (El.ow Zg) [i] c,.box w [(.slice none 0 0),(.slice none 0 0)]],c,j)) fun i j a8 c a9 T U W=>?_;apply brQ U<;>intro U
  ·refine ixI slA U fun y U=>?_;obtain ⟨aa,k,U⟩:=obind U;refine ZaY T 0 rfl (fun _=>⟨[.int .i64 y],[.int .i64 (ε.wrap (points0+g))],[],[],rfl,rfl,⟨rfl,rfl⟩,⟨rfl,rfl⟩⟩) rfl rfl k fun ab ac T=>?_;dsimp at T;exact endL
  ·exact endX
 ·refine cm0 U T (fun s l=>Zcd s l slA) fun ad ae T U=>⟨_,rfl,?_⟩
  refine cm1 U T (fun s l=>ZB0 s l) fun af ag ah T U=>⟨_,rfl,?_⟩
  have T:=frA 0;refine cl2 U T (fun a0 a1 _ o=>Zur a0.fle o (frF a1 0 rfl) slA) fun ai aj a2 ak T U=>⟨_,_,_,rfl,?_⟩
  (iterate 2 refine boxA fun a3 T=>?_)
  refine lsA ?_;exact endX
theorem ZGA {c a r} (U:ZoC c=some r) (g:sc h eL a c.Blocks):CallsH P 123 #[.agg #[.int .i64 c.Points,a]] h (fun v h'=>∃ w0 w1,v=.tuple #[.agg #[w0,w1],.int .i64 r.2]/\S ψ h h' [.it eL [w0] r.1.Colors,.it (El.ow Zg) [w1] r.1.Edges]):=by
 refine zO Tryz.func123 fun T=>?_;refine new_S T fun y i T=>?_;refine new_S T fun b2 j T=>?_;refine lsA ?_;refine cm0 U T (fun s e=>Zre s e slA) fun r5 k T U=>⟨_,rfl,?_⟩
 apply brQ U<;>intro U
 ·(iterate 2 refine boxA fun l T=>?_)
  refine lsA ?_;exact endX
 ·refine lsA ?_;refine cm2 U T (fun s e=>Zwq s e slA) fun o u f w T U=>⟨_,_,_,rfl,?_⟩
  (iterate 2 refine boxA fun x T=>?_)
  refine lsA ?_;exact endS
theorem ZCT {c e g i j k v1 messag2 v2 r} (U:ZiX c k messag2=some r) (u:sc h eL e c.qadd) (v:sc h eL g c.qsub) (w:sc h eL i c.qmul) (x:sc h eI j c.qinv) (f1:sc h eL v1 k) (f2:sc h eI v2 messag2):zL 256 #[.agg #[.int .i64 c.qq,e,g,i,j],v1,v2] h ψ eI r:=by
 refine zT [[3,102]] Tryz.func256 fun T=>?_;refine new_S T fun b3 a6 T=>?_;refine ixV f1 T.le U fun a7 a8 f U=>?_;refine vL f T.le ?_;refine mkO eI U fun a9 a2 aa T U=>?_;refine vL f2 T.le ?_;refine lw11 U (fun l xs=>([.it oL [a2] xs,.box b3 [.int .i64 c.qq,e,g,i,j]],l,xs)) fun l ab xs a T U W=>?_;apply brQ U<;>intro U
 ·refine ixI slA U fun ac U=>?_;refine lsA ?_;refine ixV f1 T.le U fun ad ae a3 U=>?_;obtain ⟨af,y,U⟩:=obind U;obtain ⟨φ,L,s,o⟩:=id T;refine (ZFm y (s.upS o) (u.mono s.ubH) (v.mono s.ubH) (w.mono s.ubH) (x.mono s.ubH) (a3.mono s.ubH)).mono fun ag ah ⟨eq,t⟩=>⟨eq,?_⟩
  replace T:=s.downS t;clear t s o;exact endL
 ·exact endX
end
theorem ZFe {ψ:CM} {e h:Heap} {os:List Ob} {l:List Int} {v0:Value} {r:List Int} (U:ZjD l=some r) (T:S ψ e h (.it oL [v0] l::os))  :CallsH P 300 #[v0] h (fun v h'=>v=.tuple #[]/\S ψ e h' (.it oL [v0] r::os)):=by
 refine zv ⟨an [[1,12,18]],[],[],[(3,⟨[],.fin (rgs [(0,2),(4,10),(2,2),(14,2)]),false⟩)]⟩ Tryz.func300 ?_;refine Zi slA ?_;obtain ⟨o,f⟩:=Zad U;refine ⟨fun n s u c=>∃ xs,S ψ e c (.it oL [v0] xs::os)/\loopN (ZgW) n (s,u,xs)=some r,⟨o,_,pkT T 1 [0],f⟩,?_⟩;rintro n _ s u c ⟨xs,T,f⟩;obtain ⟨m,a,rfl,U,W⟩:=Zab f;apply brQ U<;>intro U
 ·refine ixI slA U fun w U=>?_;refine ixI slA U fun x U=>?_;refine ixA slA U fun y a0 g i U=>?_;refine st1_S T 0 rfl g i rfl (fun _=>⟨rfl,rfl⟩) fun a1 T=>?_;dsimp at T;refine ixA slA U fun a2 a3 j k U=>?_;refine st1_S T 0 rfl j k rfl (fun _=>⟨rfl,rfl⟩) fun a4 T=>?_;dsimp at T;obtain rfl:=oI U;exact ⟨_,ltS,_,pkT T 1 [0],W⟩
 ·obtain rfl:=oI U;obtain rfl:=oI W;exact ⟨rfl,pkT T 1 [0]⟩
section
variable {ψ:CM} {h:Heap} (hψ:CLe ψ (hcell h))
include hψ
theorem Zyf {n0 a count2 r} (U:ZlA n0 a count2=some r)  :zL 257 #[.int .i64 n0,.int .i64 a,.int .i64 count2] h ψ eI r:=by
 refine zO Tryz.func257 fun T=>?_;refine cm1 U T (fun s j=>ZcT s j) fun l o u T U=>⟨_,rfl,?_⟩
 obtain ⟨v,g,U⟩:=obind U;obtain ⟨k,w,c,e⟩:=id T;refine (ZFe g (c.upS e) ).mono fun x y ⟨i,f⟩=>⟨i,?_⟩
 replace T:=c.downS f;clear f c e;exact endS
theorem ZJw {e f g r} (U:ZiQ e=some r) (a2:sc h eI f e.Field.Poly) (a3:sc h eL g e.Rows):zL 191 #[.agg #[.int .i64 e.Field.Prime,.int .i64 e.Field.Degree,f,g]] h ψ oL r:=by
 refine zS hψ ⟨an [[5,31,102]],[],[],[(7,⟨kdL [0,2,0,2,0,0,1,0,3,4,4,4,0],.fin [4,5,6,7,8,1,2,3,9,10,0,11,12],true⟩)]⟩ Tryz.func191 fun T=>?_;refine new_S T fun b1 ab T=>?_;refine lsA ?_;obtain ⟨k,i,U⟩:=obind U;obtain ⟨φ,L,s,v⟩:=id T;refine (Zsb s.fle i slA).mono fun ac ad ⟨v9,l,o,u,eq,t⟩=>⟨_,_,_,_,_,eq,?_⟩
 replace T:=join4 s v t;clear t s v;refine new_S T fun b3 ae T=>?_
 (iterate 5 refine boxA fun af T=>?_)
 refine bV T 5 3 ?_;refine cm0 U T (fun s i=>Zcd s i slA) fun ag a6 T U=>⟨_,rfl,?_⟩
 refine bI T 0 0 ?_;refine cm0 U T (fun s i=>Zh8 s i) fun ah a7 T U=>⟨_,rfl,?_⟩
 have T:=T.nilO (E:=oL);refine lw21 U (fun v5 w a0=>([.it (El.ow oL) [v5] a0,.box b3 [.int .i64 k.qq,v9,l,o,u],.it (El.ow oL) [v9] k.qadd,.it (El.ow oL) [l] k.qsub,.it (El.ow oL) [o] k.qmul,.it oL [u] k.qinv,.box b1 [.int .i64 e.Field.Prime,.int .i64 e.Field.Degree,f,g]],a0,w)) fun v5 w x a0 a T U W=>?_;apply brQ U<;>intro U
 ·refine ⟨fun _=>False,?_⟩;have c:=T;have j:=eX x;refine bI T 1 0 ?_;obtain ⟨ai,y,U⟩:=obind U;refine ce1 T (fun s=>Zyf s.fle y) fun aj a8 xE T=>⟨_,rfl,eZ (j.trans xE),?_⟩
  replace j:=j.trans xE;refine ZH ?_;refine ldI_K (c.cells 1 rfl) 0 rfl rfl ?_;refine ZM ?_;refine ldV_K (c.cells 1 rfl) 1 rfl rfl ?_;refine ZM ?_;refine ldV_K (c.cells 1 rfl) 2 rfl rfl ?_;refine ZM ?_;refine ldV_K (c.cells 1 rfl) 3 rfl rfl ?_;refine ZM ?_;refine ldV_K (c.cells 1 rfl) 4 rfl rfl ?_;refine ZM ?_;refine ldV_K (c.cells 6 rfl) 3 rfl rfl ?_;refine cm1 U T (fun s i=>ZCT s i slA slA slA slA slA slA) fun ak al a9 T U=>⟨_,rfl,?_⟩
  refine ZF oneA ?_;refine piA U 1 fun am ao aa T U=>?_;exact endL
 ·exact endX
theorem ZAe {c v0 r} (U:Zmp c=some r) (g:sc h eI v0 c):zL 192 #[v0] h ψ eI r:=by
 refine zT [[3,19,48]] Tryz.func192 fun T=>?_;refine vL g T.le ?_;have T:=T.nilO (E:=eI);refine lw21 U (fun e f u=>([.it oL [e] u],u,f)) fun e f i u a T U W=>?_;apply brQ U<;>intro U
 ·refine ixI slA U fun j U=>?_;apply brQ U<;>intro U
  ·refine puA U 0 fun k l o T U=>?_;exact endL
  ·exact endL
 ·exact endX
theorem ZEd {a c e r} (U:ZnF a=some r) (i:sc h eI c a.Field.Poly) (g:sc h eL e a.Rows):zR 193 #[.agg #[.int .i64 a.Field.Prime,.int .i64 a.Field.Degree,c,e]] h ψ (.int .i64 r):=by
 refine zO Tryz.func193 fun T=>?_;refine new_S T fun o k T=>?_;refine bV T 0 3 ?_;refine ixV g T.le U fun u v f U=>?_;refine cm0 U T (fun s j=>Za9 s j slA) fun w l T U=>⟨_,rfl,?_⟩
 exact tZ
theorem Zyk {e f g r} (U:ZfZ e=some r) (a0:sc h eI f e.Field.Poly) (a1:sc h eL g e.Rows):CallsH P 124 #[.agg #[.int .i64 e.Field.Prime,.int .i64 e.Field.Degree,f,g]] h (fun v h'=>∃ w0 w1,v=.tuple #[.agg #[w0,w1],.int .i64 r.2]/\S ψ h h' [.it eL [w0] r.1.Colors,.it (El.ow Zg) [w1] r.1.Edges]):=by
 refine zT [[7,25,120]] Tryz.func124 fun T=>?_;refine new_S T fun b1 ac T=>?_;refine new_S T fun b2 ae T=>?_;refine lsA ?_;refine cm0 U T (fun s c=>Zr5 s c slA slA) fun r8 af T U=>⟨_,rfl,?_⟩
 apply brQ U<;>intro U
 ·(iterate 2 refine boxA fun ag T=>?_)
  refine lsA ?_;exact endX
 ·refine lsA ?_;refine cm0 U T (fun s c=>ZmO s c slA) fun ah ai T U=>⟨_,rfl,?_⟩
  apply brQ U<;>intro U
  ·(iterate 2 refine boxA fun aj T=>?_)
   refine lsA ?_;exact endX
  ·refine lsA ?_;refine cm1 U T (fun s c=>ZJw s c slA slA) fun l o a4 T U=>⟨_,rfl,?_⟩
   have T:=frA 0;obtain ⟨u,j,U⟩:=obind U;refine ZID (some 1) none T 0 rfl j rfl fun w T=>?_;refine Zi slA ?_;have T:=T.nilO (E:=oL);refine lw21 U (fun x i a2=>([.it (El.ow oL) [x] a2,.it (El.sl eL) [w] u,.it (El.sl eL) [o] l,.box b2 [(.slice none 0 0),(.slice none 0 0)],.box b1 [.int .i64 e.Field.Prime,.int .i64 e.Field.Degree,f,g]],a2,i)) fun x i a5 a2 a T U W=>?_;apply brQ U<;>intro U
   ·refine ixA slA U fun ak al ad k U=>?_;refine Zo0 T 1 rfl ad k fun am T=>?_;refine cm1 U T (fun s c=>ZAe s c slA) fun ao ap a7 T U=>⟨_,rfl,?_⟩
    refine ZF oneA ?_;refine piA U 1 fun aq ar a8 T U=>?_;exact endL
   ·refine lsA ?_;refine cm0 U T (fun s c=>ZEd s c slA slA) fun au a9 T U=>⟨_,rfl,?_⟩
    refine cm2 U T (fun s c=>Zwq s c slA) fun av aw y aa T U=>⟨_,_,_,rfl,?_⟩
    (iterate 2 refine boxA fun ab T=>?_)
    refine lsA ?_;exact endX
theorem ZHa {e c a r} (U:Zqp e a=some r) (f:sc h eL c e.Rows):zR 194 #[.agg #[.int .i64 e.Kind,.int .i64 e.Size,c],.int .i64 a] h ψ (.int .i64 r):=by
 refine zO Tryz.func194 fun T=>?_;refine new_S T fun k i T=>?_;refine lsA ?_;refine cm0 U T (fun s g=>Zmu s g slA) fun l j T U=>⟨_,rfl,?_⟩
 refine brZ fun U=>?_;refine bI T 0 0 ?_;exact brQ U (fun U=>tZ) fun U=>tZ
theorem ZDR {c a r} (U:ZqG c=some r) (g:sc h eL a c.Rows):CallsH P 125 #[.agg #[.int .i64 c.Kind,.int .i64 c.Size,a]] h (fun v h'=>∃ w0 w1,v=.tuple #[.agg #[w0,w1],.int .i64 r.2]/\S ψ h h' [.it oL [w0] r.1.Colors,.it (El.ow Zg) [w1] r.1.Edges]):=by
 refine zO Tryz.func125 fun T=>?_;refine new_S T fun b1 k T=>?_;refine new_S T fun b2 l T=>?_;refine lsA ?_;refine cm0 U T (fun s e=>ZHa s e slA) fun r8 o T U=>⟨_,rfl,?_⟩
 apply brQ U<;>intro U
 ·(iterate 2 refine boxA fun u T=>?_)
  refine lsA ?_;exact endX
 ·refine lsA ?_;refine cm2 U T (fun s e=>ZsY s e slA) fun w x f y T U=>⟨_,_,_,rfl,?_⟩
  refine new_S T fun b5 a0 T=>?_
  (iterate 2 refine boxA fun i T=>?_)
  refine lsA ?_
  (iterate 2 refine boxA fun j T=>?_)
  refine lsA ?_;exact endS
theorem ZIu {e c r} (U:Zcm e=some r) (l:sc h eL c e.Rows):CallsH P 75 #[.agg #[.int .i64 e.Kind,.int .i64 e.Size,c]] h (fun v h'=>∃ w0 w1,v=.tuple #[.agg #[w0,w1],.int .i64 r.2]/\S ψ h h' [.it eL [w0] r.1.Colors,.it (El.ow Zg) [w1] r.1.Edges]):=by
 refine zO Tryz.func75 fun T=>?_;refine new_S T fun b1 a2 T=>?_;refine new_S T fun b2 a3 T=>?_;refine bI T 1 0 ?_;apply brQ U<;>intro U
 ·refine bV T 1 2 ?_;refine cm2 U T (fun s a=>Zw4 s a slA) fun a4 a5 f a6 T U=>⟨_,_,_,rfl,?_⟩
  (iterate 2 refine boxA fun a7 T=>?_)
  refine lsA ?_;exact endS
 ·apply brQ U<;>intro U
  ·refine lsA ?_;refine cm1 U T (fun s a=>ZuK s a slA) fun a8 a9 aa T U=>⟨_,_,rfl,?_⟩
   have T:=frA 0;refine cm2 U T (fun s a=>ZGA s a slA) fun ab ac g ad T U=>⟨_,_,_,rfl,?_⟩
   (iterate 2 refine boxA fun o T=>?_)
   refine lsA ?_;exact endS
  ·apply brQ U<;>intro U
   ·refine lsA ?_;refine cm2 U T (fun s a=>ZuY s a slA) fun ae af i u T U=>⟨_,_,_,_,rfl,?_⟩
    have T:=frA 1;refine cm2 U T (fun s a=>Zyk s a slA slA) fun ag ah j w T U=>⟨_,_,_,rfl,?_⟩
    (iterate 2 refine boxA fun x T=>?_)
    refine lsA ?_;exact endS
   ·apply brQ U<;>intro U
    ·refine lsA ?_;refine cm2 U T (fun s a=>ZDR s a slA) fun ai aj k y T U=>⟨_,_,_,rfl,?_⟩
     (iterate 2 refine boxA fun a0 T=>?_)
     refine lsA ?_;have T:=frA 0;exact endS
    ·(iterate 2 refine boxA fun a1 T=>?_)
     refine lsA ?_;exact endX
theorem ZFV {u c e r} (U:Zmt u=some r) (v:sc h eI c u.Colors) (g:sc h Zg e u.Edges):zL 258 #[.agg #[c,e]] h ψ oL r:=by
 refine zS hψ ⟨an [[3,90],[9,288]],[],[],[(5,⟨kdL [0,0,2,0,0,2,0,2,0,1,3,3,0,4],.fin [8,9,10,3,4,5,6,7,11,0,1,2,12,13],true⟩),(6,⟨kdL [0,0,2,0,0,2,0,2,0,1,3,3,0,4],.fin [8,9,10,3,4,5,6,7,11,0,1,2,12,13],true⟩)]⟩ Tryz.func258 fun T=>?_;refine new_S T fun b1 a9 T=>?_;refine bV T 0 0 ?_;refine vL v T.le ?_;refine mkO oL U fun aa j ab T U=>?_;refine bV T 1 1 ?_;refine vL g T.le ?_;refine lw11 U (fun k xs=>([.it (El.ow oL) [j] xs,.box b1 [c,e]],k,xs)) fun k ac xs a T U W=>?_;apply brQ U<;>intro U
 ·refine ixA slA U fun ae af ad w U=>?_;obtain ⟨cs,ck,hr⟩:=g.cells ad w rfl;obtain rfl:=Zau hr;refine lsA ?_;refine new_S T fun b5 ag T=>?_
  (iterate 2 refine boxA fun ah T=>?_)
  obtain ⟨ai,x,U⟩:=obind U;obtain ⟨aj,y,U⟩:=obind U;refine ZsJ T 1 0 rfl rfl rfl rfl rfl rfl x y fun ak T=>?_;dsimp at T;obtain ⟨al,a0,U⟩:=obind U;obtain ⟨am,a1,U⟩:=obind U;refine ZsJ T 1 0 rfl rfl rfl rfl rfl rfl a0 a1 fun ao T=>?_;dsimp at T;exact endL
 ·refine Zi slA ?_;refine lw11 U (fun l f=>([.it (El.ow oL) [j] f,.box b1 [c,e]],l,f)) fun l a6 f ap T U W=>?_;apply brQ U<;>intro U
  ·refine ixA slA U fun aq ar a2 i U=>?_;refine Za2 T 0 rfl a2 i fun au hd=>?_;have T:=foc_S T 0 rfl hd i;dsimp at T;obtain ⟨av,a3,U⟩:=obind U;obtain ⟨φ,L,s,o⟩:=id T;refine (Zmv a3 (s.upS o) ).mono fun aw a8 ⟨eq,t⟩=>⟨eq,?_⟩
   replace T:=s.downS t;clear t s o;have T:=unf_S T 0 rfl;dsimp at T;exact endL
  ·exact endX
theorem Zw5 {a v0 r} (U:Zj7 a=some r) (c:SlC ψ eL v0 a):zL 326 #[v0] h ψ eL r:=by
 refine zO Tryz.func326 fun T=>?_;refine Zsh (c.mono hψ) (fun f e=>?_) ?_
 ·subst e;obtain ⟨_,rfl⟩:=Zdw U;exact ⟨_,rfl,T.nilO⟩
 ·have T:=T.arg c;refine ZaJ (E:=eL) (css:=[]) (xs:=[]) T (fun _=>rfl) rfl rfl fun v1 h1 T=>?_;refine app_S T 0 rfl (Zqb 1 rfl) rfl rfl U fun g i T=>?_;exact endR
end
theorem ZFo {ψ:CM} {o h:Heap} {os:List Ob} {x0:List (List Int)} {v0:Value} {g:(List Int)->(List Int)->Option Bool} {i:Nat} {u:List Value} {r:List (List Int)} (U:Zip x0 g=some r) (T:S ψ o h (.it (El.ow eL) [v0] x0::os)) (o1:ctx.okf i=true) (k1:∀ {h1:Heap},ExtH o h1->∀ {ψ1:CM},CLe ψ1 (hcell h1)->∀ {y0:List Int} {w:Value} {y1:List Int} {a0:Value} {r1:Bool},g y0 y1=some r1->SlC (hcell h1) eI w y0->SlC (hcell h1) eI a0 y1->CallsH P i (([w,a0]:List Value)++u).toArray h1 (fun v h'=>v=.bool r1/\S ψ1 h1 h' [])):CallsH P 327 #[v0,.func (.func i) #[] u.toArray] h (fun v h'=>∃ w0,v=w0/\S ψ o h' (.it (El.ow eL) [w0] r::os)):=by
  apply ZyZ;unfold Zip at U;split at U
  case isFalse=>cases U
  rename_i ca;have frz:Frz eL eL:=Zah _;have ap:∀ {k:Nat} {x:List Int} {ys:List (List Int)},ys[k]?=some x->gIdx ys (k:Int)=some x:=fun h=>by unfold gIdx;rw [if_pos ω,Int.toNat_natCast];exact h
  have w1:∀ {k:Nat},k<x0.length->ε.wrap ((k:Int)+1)=((k+1:Nat):Int):=fun h=>by rw [Zaf ω ω];omega
  have w2:∀ {k:Nat},k+1<=x0.length->ε.wrap (((k+1:Nat):Int)-1)=(k:Int):=fun h=>by rw [Zaf ω ω];omega
  refine Zi slA ?_;refine Zes (fun c=>?_) (fun c=>?_)
  · have hl:x0.length<2:=by have:=of_decide_eq_true c;omega
    have hr:r=x0:=by
      cases x0 with
      | nil=>exact (oI U).symm
      | cons a t=>
        cases t with
        | nil=>exact (oI U).symm
        | cons b t=>simp at hl;omega
    subst hr;exact ⟨v0,rfl,T⟩
  · have hl:2<=x0.length:=by have:=of_decide_eq_false c;omega
    refine ⟨fun n x5 ae=>S ψ o ae (.it (El.ow eL) [v0] x0::os)/\∃ k p q,x5=((k+1:Nat):Int)/\k+1+n=x0.length/\x0[k]?=some p/\cpt g p (x0.drop (k+1))=some q/\r=x0.take (k+1)++q,⟨x0.length-1,T,?_⟩,?_⟩
    · cases x0 with
      | nil=>simp at hl
      | cons a t=>
        have U:(cpt g a t).map (a::·)=some r:=U;cases f:cpt g a t with
        | none=>rw [f] at U;cases U
        | some q=>rw [f] at U;exact ⟨0,a,q,rfl,by simp;omega,rfl,by simpa using f,by simpa using (oI U).symm⟩
    · rintro n _ x5 ae ⟨T,k,p,q,rfl,cb,af,f,hr⟩;refine Zi slA ?_;refine Zes (fun c=>?_) (fun c=>?_)
      · have hk:k+1<x0.length:=by have:=of_decide_eq_true c;omega
        obtain ⟨y,hy⟩:=ZaK (xs:=x0) (k:=k+1) hk;obtain ⟨b,l,f1,f2,f3⟩:=Zi9 (ZlD hy) f;refine ZZ slA (ap hy) fun b0 ad=>?_;refine ldV_C slA (CLe.refl _) ad (ap hy) fun al a4=>?_;simp only [w2 (k:=k) ω];refine ZZ slA (ap af) fun b1 a5=>?_;refine ldV_C slA (CLe.refl _) a5 (ap af) fun am a6=>?_;refine Zca o1 ?_;obtain ⟨φ,L,s,q0⟩:=id T;refine (k1 T.ext s.fle f1 a4 a6).mono fun v b2 ⟨e,t⟩=>⟨_,e,?_⟩
        replace T:=join0 s q0 t;clear t s q0;cases b with
        | false=>
          refine Zkw rfl ?_;refine ⟨n-1,by omega,T,k+1,y,l,w1 hk,by omega,hy,f2,?_⟩;rw [hr,f3,ZmS hy];simp
        | true=>
          refine ZiW rfl ?_;have hg:gSl x0 ((k+1:Nat):Int) (x0.length:Int)=some (x0.drop (k+1)):=by
            unfold gSl;rw [if_pos ⟨by omega,by omega,by omega⟩,Int.toNat_natCast,Int.toNat_natCast,List.take_length]
          refine Zqe (some ((k+1:Nat):Int)) none slA hg fun a8 hv=>?_;simp only [Option.getD_some,Option.getD_none,Int.toNat_natCast] at hv;have aq:r=x0.take (k+1)++l:=by rw [hr,f3];rfl
          refine ⟨fun n3 x5 x7 a9=>∃ ys,S ψ o a9 (.it (El.ow eL) [v0] ys::os)/\∃ k' k2 p q,x5=((k':Nat):Int)/\x7=((k2+1:Nat):Int)/\k+1+k2+1+n3=x0.length/\ys.length=x0.length/\k'<=k+1+k2/\x0[k+1+k2]?=some p/\(∀ j,k+1+k2<=j->ys[j]?=x0[j]?)/\cpt g p (x0.drop (k+1+k2+1))=some q/\r=ys.take k'++q,
            ⟨x0.length-(k+2),x0,T,k+1,0,y,l,rfl,rfl,by omega,rfl,by omega,hy,fun _ _=>rfl,f2,aq⟩,?_⟩
          rintro n3 _ x5 x7 a9 ⟨ys,T,k',k2,p,q,rfl,rfl,b3,ai,cc,af,ac,f,hr⟩;have au:gSl ys ((k+1:Nat):Int) (ys.length:Int)=some (ys.drop (k+1)):=by
            unfold gSl;rw [if_pos ⟨by omega,by omega,by omega⟩,Int.toNat_natCast,Int.toNat_natCast,List.take_length]
          have ag:IsView v0 1 (((k+1:Nat):Int)).toNat ((ys.length:Int)).toNat a8:=by rw [ai];exact hv
          have fv:SlC (hcell a9) eL a8 (ys.drop (k+1)):=ag.C slA au rfl;refine Zi fv ?_;refine Zes (fun c=>?_) (fun c=>?_)
          · have aa:k+1+k2+1<x0.length:=by
              have:=of_decide_eq_true c;rw [List.length_drop] at this;omega
            obtain ⟨y,hy⟩:=ZaK (xs:=x0) (k:=k+1+k2+1) aa;obtain ⟨b,l,f1,f2,f3⟩:=Zi9 (ZlD hy) f;have i:(ys.drop (k+1))[k2+1]?=some y:=by rw [List.getElem?_drop,show k+1+(k2+1)=k+1+k2+1 by omega,ac _ ω];exact hy
            have g2:(ys.drop (k+1))[k2]?=some p:=by rw [List.getElem?_drop,ac _ ω];exact af
            refine ZZ fv (ap i) fun b4 ad=>?_;refine ldV_C fv (CLe.refl _) ad (ap i) fun al a4=>?_;simp only [w2 (k:=k2) ω];refine ZZ fv (ap g2) fun b5 a5=>?_;refine ldV_C fv (CLe.refl _) a5 (ap g2) fun am a6=>?_;refine Zca o1 ?_;obtain ⟨φ,L,s,q0⟩:=id T;refine (k1 T.ext s.fle f1 a4 a6).mono fun v av ⟨e,t⟩=>⟨_,e,?_⟩
            replace T:=join0 s q0 t;clear t s q0;have fv:SlC (hcell av) eL a8 (ys.drop (k+1)):=ag.C slA au rfl;cases b with
            | false=>
              refine ZiW rfl ?_;refine ZZ fv (ap i) fun aw ax=>?_;have ay:AddrOf v0 (((k+1:Nat):Int)+((k2+1:Nat):Int)) 1 aw:=ag.addr ax ω (by rw [Int.toNat_natCast,Int.toNat_natCast,Int.toNat_natCast];omega);have bn:gIdx ys (((k+1:Nat):Int)+((k2+1:Nat):Int))=some y:=by
                rw [show ((k+1:Nat):Int)+((k2+1:Nat):Int)=((k+1+k2+1:Nat):Int) by omega];exact ap (by rw [ac _ ω];exact hy)
              refine ZaN T 0 rfl ay bn fun b6 T=>?_;obtain ⟨z,hz⟩:=ZaK (xs:=ys) (k:=k') ω;refine ZZ slA (ap hz) fun b7 az=>?_;refine ZhZ T 0 rfl az (ap hz) rfl fun b8 T=>?_;dsimp only [List.set] at T;rw [Int.toNat_natCast] at T;refine ⟨n3-1,by omega,_,T,k'+1,k2+1,y,l,w1 ω,w1 ω,by omega,by rw [List.length_set];exact ai,by omega,hy,fun j hj=>?_,f2,?_⟩
              · rw [List.getElem?_set_ne ω];exact ac j ω
              · rw [hr,f3,ZmS (y:=y) (List.getElem?_set_self ω),List.take_set_of_le (Nat.le_refl _)];simp
            | true=>
              refine Zkw rfl ?_;exact ⟨n3-1,by omega,ys,T,k',k2+1,y,l,rfl,w1 ω,by omega,ai,by omega,hy,fun j hj=>ac j ω,f2,by rw [hr,f3];rfl⟩
          · have aa:k+1+k2+1=x0.length:=by
              have:=of_decide_eq_false c;rw [List.length_drop] at this;omega
            have ab:q=[]:=by
              rw [aa,List.drop_length] at f;exact (oI f).symm
            refine Zr7 Zyy T 0 rfl rfl rfl ω ω fun v' h' T=>?_;dsimp only [List.set] at T;rw [Int.toNat_natCast] at T;rw [hr,ab,List.append_nil];exact ⟨v',rfl,T⟩
      · have hk:k+1=x0.length:=by have:=of_decide_eq_false c;omega
        have ab:q=[]:=by
          rw [hk,List.drop_length] at f;exact (oI f).symm
        rw [hr,ab,hk,List.take_length,List.append_nil];exact ⟨v0,rfl,T⟩
section
variable {ψ:CM} {h:Heap} (hψ:CLe ψ (hcell h))
include hψ
theorem ZC0 {y0 v0 y1 v1 r} (U:Zlq y0 y1=some r) (f0:sc h eL v0 y0) (f1:sc h eI v1 y1):zL 304 #[v0,v1] h ψ eI r:=by
 refine zT [[3,132],[7,49,192],[19,390]] Tryz.func304 fun T=>?_;refine vL f1 T.le ?_;refine mkO oL U fun b3 k b4 T U=>?_;refine vL f1 T.le ?_;refine lw11 U (fun a0 xs=>([.it (El.ow oL) [k] xs],a0,xs)) fun a0 b5 xs a T U W=>?_;apply brQ U<;>intro U
 ·refine ixI slA U fun a1 U=>?_;refine ixV f0 T.le U fun b6 b7 f U=>?_;refine vL f T.le ?_;have T:=T.nilO (E:=eI);refine lw21 U (fun v8 a2 y8=>([.it oL [v8] y8,.it (El.ow oL) [k] xs],y8,a2)) fun v8 a2 b8 y8 b9 T U W=>?_;apply brQ U<;>intro U
  ·refine ixI slA U fun ba U=>?_;refine ixI slA U fun bb U=>?_;refine puA U 0 fun bc bd be T U=>?_;exact endL
  ·obtain ⟨bf,aa,U⟩:=obind U;obtain ⟨φ,L,s,a3⟩:=id T;refine (Zmv aa (s.upS a3) ).mono fun bg bh ⟨eq,t⟩=>⟨eq,?_⟩
   replace T:=s.downS t;clear t s a3;refine ZaJ (E:=eI) (css:=[[.int .i64 a1]]) (xs:=([a1]:List Int)) T (fun _=>⟨[],[],rfl,⟨rfl,rfl⟩,rfl⟩) rfl rfl fun bi bj T=>?_;obtain ⟨bk,ab,U⟩:=obind U;refine app_S T 0 rfl (ZbT (Zbi _) slA) rfl rfl ab fun bm bn T=>?_;dsimp at T;refine ixA slA U fun bo bp ac ad U=>?_;refine ZhZ T 1 rfl ac ad rfl fun bq T=>?_;dsimp at T;exact endX
 ·have T:=frA 0;refine cl1 U T (fun al am _ o=>Zw5 al.fle o (frF am 0 rfl)) fun br bs av T U=>⟨_,rfl,?_⟩
  obtain ⟨bt,u,U⟩:=obind U;obtain ⟨aw,bu,l,a4⟩:=id T;refine (Zsj u (l.upS a4) κ (fun a5=>fun c=>fun e g i=>Zv0 c e g i)).mono fun bv ax ⟨ae,a6⟩=>⟨ae,?_⟩
  replace T:=l.downS a6;clear a6 l a4;obtain ⟨ao,v,U⟩:=obind U;refine (ZFo v T κ (fun a5=>fun c=>fun e g i=>ZsP c e g i)).mono fun bw ay ⟨ap,af,T⟩=>⟨_,af,?_⟩
  refine vL f1 T.le ?_;refine mkO eI U fun bx aq az T U=>?_;refine Zi slA ?_;refine lw11 U (fun a7 j=>([.it oL [aq] j,.it (El.ow eL) [ap] ao,.it (El.sl eL) [k] xs],a7,j)) fun a7 b0 j bz T U W=>?_;apply brQ U<;>intro U
  ·refine ixA slA U fun c0 c3 ag w U=>?_;refine Zo0 T 2 rfl ag w fun c4 T=>?_;refine cl0 U T (fun ar _ _ x=>Zuy ar.fle x slA slA κ (fun a5=>fun c=>fun e g i=>ZfA c e g i)) fun c5 b1 T U=>⟨_,_,rfl,?_⟩
   refine ixA slA U fun c6 c7 ah y U=>?_;refine st1_S T 1 rfl ah y rfl (fun _=>⟨rfl,rfl⟩) fun b2 T=>?_;dsimp at T;exact endL
  ·exact endX
end
theorem ZH3 {ψ:CM} {c h:Heap} {os:List Ob} {x0:List Int} {v0:Value} {r:List Int} (U:Zjz x0=some r) (T:S ψ c h (.it oL [v0] x0::os)):CallsH P 328 #[v0] h (fun v e=>∃ w0,v=w0/\S ψ c e (.it oL [w0] r::os)):=by
 apply ZEf;unfold Zjz at U;split at U
 case isFalse=>cases U
 rename_i j;exact Zwp (E:=eI) (Zbi _) (z:=1) rfl (zero:=[.int .i64 0]) rfl (fun h p K=>ldI .i64 h p K) (fun h p y K=>vStore1 h p (.int .i64 y) K) (fun a b=>a==b) (fun l U hi g=>ldI_C l U hi g) (fun T i o U g k=>st1_S T i o U g rfl (fun _=>⟨rfl,rfl⟩) k) j U T (R:=fun v e=>∃ w0,v=w0/\S ψ c e (.it oL [w0] r::os)) fun v e T=>⟨v,rfl,T⟩
section
variable {ψ:CM} {h:Heap} (hψ:CLe ψ (hcell h))
include hψ
theorem ZrM {cells0 v0 r} (U:ZfX cells0=some r) (f0:sc h eI v0 cells0):zR 305 #[v0] h ψ (.int .i64 r):=by
 refine zO Tryz.func305 fun T=>?_;refine cm1 U T (fun s k=>ZlV s k slA) fun r5 v5 o T U=>⟨_,rfl,?_⟩
 obtain ⟨r7,f,U⟩:=obind U;obtain ⟨l,u,a,c⟩:=id T;refine (Zmv f (a.upS c) ).mono fun v w ⟨g,e⟩=>⟨g,?_⟩
 replace T:=a.downS e;clear e a c;obtain ⟨r9,i,U⟩:=obind U;refine (ZH3 i T ).mono fun x y ⟨v9,j,T⟩=>⟨_,j,?_⟩
 refine Zi slA ?_;exact tZ
theorem Zrm {lists0 v0 cells1 v1 r} (U:ZkJ lists0 cells1=some r) (v:sc h eL v0 lists0) (g:SlC ψ eI v1 cells1):zL 260 #[v0,v1] h ψ eI r:=by
 refine zT [[1,7]] Tryz.func260 fun T=>?_;have T:=T.arg g;refine lw11 U (fun e c=>([.it eL [e] c],c)) fun e i c a T U W=>?_;refine cm1 U T (fun s f=>ZC0 s f slA slA) fun r8 w j T U=>⟨_,rfl,?_⟩
 refine cm0 U T (fun s f=>ZrM s f slA) fun k l T U=>⟨_,rfl,?_⟩
 refine cm0 U T (fun s f=>ZrM s f slA) fun o u T U=>⟨_,rfl,?_⟩
 apply brQ U<;>intro U
 ·exact endX
 ·have T:=frA 0;exact endL
theorem Zzc {cells0 v0 r} (U:ZjW cells0=some r) (e:sc h eI v0 cells0):zL 301 #[v0] h ψ eI r:=by
 refine zT [[2,54],[6,25,84]] Tryz.func301 fun T=>?_;refine vL e T.le ?_;refine lp1 U (nlS T) fun m u g a T U W=>?_;apply brQ U<;>intro U
 ·refine vL e T.le ?_;have T:=T.nilO (E:=eI);refine lw21 U (fun f c w=>([.it oL [f] w],w,c)) fun f c i w j T U W=>?_;apply brQ U<;>intro U
  ·refine ixI slA U fun k U=>?_;apply brQ U<;>intro U
   ·refine puA U 0 fun l o s T U=>?_;exact endL
   ·exact endL
  ·refine Zi slA ?_;apply brQ U<;>intro U
   ·exact endX
   ·exact endX
 ·exact endX
theorem ZyX {x c e p1 v1 r} (U:ZgZ x p1=some r) (j:sc h eI c x.Colors) (k:sc h Zg e x.Edges) (f1:sc h eI v1 p1):CallsH P 324 #[.agg #[c,e],v1] h (fun v h'=>∃ w0 w1,v=.agg #[w0,w1]/\S ψ h h' [.it oL [w0] r.Colors,.it (El.ow Zg) [w1] r.Edges]):=by
 refine zS hψ ⟨an [[3,108],[8,210]],[],[],[(10,⟨kdL [0,2,0,0,1,0,1,0,0,1,0,1,0,3,4,0,4],.fin (rgs [(2,12),(0,2),(14,3)]),true⟩)]⟩ Tryz.func324 fun T=>?_;refine new_S T fun b2 aj T=>?_;refine new_S T fun b4 ak T=>?_;refine bV T 1 0 ?_;refine vL j T.le ?_;refine mkO eI U fun al i am T U=>?_;refine ZF oneA ?_;refine new_S T fun b5 ao T=>?_
 (iterate 2 refine boxA fun ap T=>?_)
 refine bV T 3 0 ?_;refine vL j T.le ?_;refine lw11 U (fun u xs=>([.box b5 [i,(.slice none 0 0)],.it oL [i] xs,.box b4 [(.slice none 0 0),(.slice none 0 0)],.box b2 [c,e]],u,xs)) fun u aq xs a T U W=>?_;apply brQ U<;>intro U
 ·refine ixI slA U fun ar U=>?_;refine bV T 0 0 ?_;refine ixI slA U fun au U=>?_;refine ixA slA U fun av aw y a0 U=>?_;refine st1_S T 1 rfl y a0 rfl (fun _=>⟨rfl,rfl⟩) fun ax T=>?_;dsimp at T;exact endL
 ·refine bV T 3 1 ?_;refine vL k T.le ?_;have T:=T.nilO (E:=Zg);refine lw12 U (fun w g l=>([.box b5 [i,l],.it oL [i] xs,.box b4 [(.slice none 0 0),(.slice none 0 0)],.box b2 [c,e],.it (El.ow Zg) [l] g],w,g)) fun w aa g l ay T U W=>?_;apply brQ U<;>intro U
  ·refine ixA slA U fun az b0 a1 a2 U=>?_;obtain ⟨cs,ck,hr⟩:=k.cells a1 a2 rfl;obtain rfl:=Zau hr;refine lsA ?_;refine new_S T fun b9 ab T=>?_
   (iterate 2 refine boxA fun a3 T=>?_)
   refine ⟨fun _=>False,?_⟩;have o:=T;have f:=eX a3;refine bI T 0 0 ?_;refine ixI slA U fun a8 U=>?_;refine bI T 0 1 ?_;refine ixI slA U fun a9 U=>?_;refine ZbZ T fun b1 ac xE T=>⟨eZ (f.trans xE),?_⟩
   replace f:=f.trans xE;refine ZM ?_;refine ldV_K (o.cells 1 rfl) 1 rfl rfl ?_;obtain ⟨b3,a4,U⟩:=obind U;refine ZkI T 6 rfl 0 rfl (fun _=>⟨[.int .i64 a8],[.int .i64 a9],[],[],rfl,rfl,⟨rfl,rfl⟩,⟨rfl,rfl⟩⟩) rfl rfl a4 fun b6 ad xE T=>?_;refine boxA fun ae T=>?_;exact endL
  ·refine bV T 0 1 ?_;refine cm1 U T (fun s hx=>Zty s hx slA) fun b7 b8 ag T U=>⟨_,rfl,?_⟩
   refine boxA fun ah T=>?_;refine lsA ?_
   (iterate 2 refine boxA fun ai T=>?_)
   refine lsA ?_;exact endX
theorem Zry {edges0 v0 r} (U:ZgP edges0=some r) (g:sc h Zg v0 edges0):zL 350 #[v0] h ψ eI r:=by
 refine zT [[3,19,48]] Tryz.func350 fun T=>?_;refine vL g T.le ?_;have T:=T.nilO (E:=eI);refine lw21 U (fun i j c=>([.it oL [i] c],c,j)) fun i j o c a T U W=>?_;apply brQ U<;>intro U
 ·refine ixA slA U fun e s k l U=>?_;obtain ⟨cs,ck,hr⟩:=g.cells k l rfl;obtain rfl:=Zau hr;refine lsA ?_;refine new_S T fun b5 u T=>?_
  (iterate 2 refine boxA fun v T=>?_)
  refine lsA ?_;refine ZaJ (E:=eI) (css:=[[.int .i64 e.A],[.int .i64 e.B]]) (xs:=([e.A,e.B]:List Int)) T (fun _=>⟨[],[],rfl,⟨rfl,rfl⟩,⟨[],[],rfl,⟨rfl,rfl⟩,rfl⟩⟩) rfl rfl fun w x T=>?_;obtain ⟨y,f,U⟩:=obind U;refine app_S T 2 rfl (ZbT (Zbi _) slA) rfl rfl f fun a0 a1 T=>?_;dsimp at T;exact endL
 ·exact endX
theorem ZDX {k c e h1 f g r} (U:Zid k h1=some r) (u:sc h eI c k.Colors) (v:sc h Zg e k.Edges) (w:sc h eI f h1.Colors) (x:sc h Zg g h1.Edges):zR 325 #[.agg #[c,e],.agg #[f,g]] h ψ (.int .i64 r):=by
 refine zS hψ ⟨[],[],[],[(4,⟨kdL [0,1,3,0,2,4,4,0],.fin (rgs [(0,8)]),true⟩)]⟩ Tryz.func325 fun T=>?_;refine new_S T fun b2 y T=>?_;refine new_S T fun b3 a0 T=>?_;refine lsA ?_;refine cm0 U T (fun s i=>ZfA s i slA slA) fun a1 o T U=>⟨_,rfl,?_⟩
 refine brZ fun U=>?_;refine ⟨fun _=>False,?_⟩;have j:=T;have a:=eX o;refine bV T 1 1 ?_;obtain ⟨a2,l,U⟩:=obind U;refine ce1 T (fun s=>Zry s.fle l slA) fun a3 a4 xE T=>⟨_,rfl,eZ (a.trans xE),?_⟩
 replace a:=a.trans xE;refine ZM ?_;refine ldV_K (j.cells 0 rfl) 1 rfl rfl ?_;refine cm1 U T (fun s i=>Zry s i slA) fun a5 a6 a7 T U=>⟨_,rfl,?_⟩
 refine cm0 U T (fun s i=>ZfA s i slA slA) fun a8 a9 T U=>⟨_,rfl,?_⟩
 exact tZ
end
theorem ZDU {ψ:CM} {o h:Heap} {os:List Ob} {x0:Zt} {b0:Nat} {a:List Value} {c:Value} {e:Value} {f:Value} {g:Value} {i:Value} {j:Value} {p1:List Int} {v1:Value} {r:Zt} (U:Zex x0 p1=some r) (T:S ψ o h (.box b0 (.int .i64 x0.qcounter.qleft::.bool x0.qcounter.qspent::c::e::f::.int .i64 x0.qnodes::.int .i64 x0.qleaves::g::i::j::a)::.it oL [g] x0.qform.Colors::.it (El.ow Zg) [i] x0.qform.Edges::.it (El.ow eL) [j] x0.qbest::os)) (aa:SlC (UB ψ o) eI c x0.qgraph.Colors) (ab:SlC (UB ψ o) Zg e x0.qgraph.Edges) (ac:SlC (UB ψ o) eL f x0.qlists) (f1:SlC ψ eI v1 p1):CallsH P 302 #[.pointer (some ⟨b0,0,none⟩),v1] h (fun v h'=>∃ w0 w1 w2,v=.tuple #[]/\S ψ o h' (.box b0 (.int .i64 r.qcounter.qleft::.bool r.qcounter.qspent::c::e::f::.int .i64 r.qnodes::.int .i64 r.qleaves::w0::w1::w2::a)::.it oL [w0] r.qform.Colors::.it (El.ow Zg) [w1] r.qform.Edges::.it (El.ow eL) [w2] r.qbest::os)):=by
 refine zv ⟨[],an [[5,30],[7]],[],[]⟩ Tryz.func302 ?_;refine bI T 0 6 ?_;refine boxA fun ah T=>?_;refine lsA ?_;refine cl2 U T (fun s _ _ hx=>ZyX s.fle hx slA slA (f1.mono T.leF)) fun a1 a2 x ai T U=>⟨_,_,rfl,?_⟩
 refine new_S T fun b4 aj T=>?_
 (iterate 2 refine boxA fun ak T=>?_)
 refine ⟨fun c5 a3=>S ψ o a3 (.box b4 [a2,x]::.it oL [a2] a1.Colors::.it (El.ow Zg) [x] a1.Edges::.box b0 (.int .i64 x0.qcounter.qleft::.bool x0.qcounter.qspent::c::e::f::.int .i64 x0.qnodes::.int .i64 (ε.wrap (x0.qleaves+1))::g::i::j::a)::.it oL [g] x0.qform.Colors::.it (El.ow Zg) [i] x0.qform.Edges::.it (El.ow eL) [j] x0.qbest::os)/\Zdh x0 p1 a1 c5=some r,?_,?_⟩
 ·refine bV T 3 9 ?_;refine Zi slA ?_;apply brQ U<;>intro U
  ·refine lsA ?_;refine cm0 U T (fun s hx=>ZDX s hx slA slA slA slA) fun al ae T U=>⟨_,rfl,?_⟩
   exact ⟨pkT T 7 [0,1,2,3,4,5,6],U⟩
  ·exact ⟨pkT T 7 [0,1,2,3,4,5,6],U⟩
 ·rintro _ c5 a3 ⟨T,U⟩;refine ⟨fun a4=>∃ xs k u l w y,S ψ o a4 (.box b0 (.int .i64 x0.qcounter.qleft::.bool x0.qcounter.qspent::c::e::f::.int .i64 x0.qnodes::.int .i64 (ε.wrap (x0.qleaves+1))::k::l::y::a)::.it oL [k] xs::.it (El.ow Zg) [l] u::.it (El.ow eL) [y] w::os)/\ZdI x0 p1 c5 xs u w=some r,?_,?_⟩
  ·apply brQ U<;>intro U
   ·refine lsA ?_
    (iterate 3 refine boxA fun af T=>?_)
    have T:=T.nilO (E:=eL);exact ⟨_,_,_,_,_,_,pkT T 8 [4,2,3,0],U⟩
   ·exact ⟨_,_,_,_,_,_,pkT T 7 [3,4,5,6],U⟩
  ·rintro _ a4 ⟨xs,k,u,l,w,y,T,U⟩;apply brQ U<;>intro U
   ·refine bV T 0 9 ?_;refine ZF (f1.mono T.leF).one ?_;have T:=T.arg f1;obtain ⟨am,a8,U⟩:=obind U;refine Zdp T 3 rfl rfl rfl a8 fun a9 ao T=>?_;refine boxA fun ag T=>?_;obtain rfl:=oI U;exact ⟨k,l,a9,rfl,pkT T 4 [0,1,2,3]⟩
   ·obtain rfl:=oI U;exact ⟨k,l,y,rfl,pkT T 4 [0,1,2,3]⟩
theorem ZAb {ψ:CM} {f h:Heap} {os:List Ob} {c:Zac} {e:Nat} {a:List Value} {r:Bool×Zac} (U:ZlU c=some r) (T:S ψ f h (.box e (.int .i64 c.qleft::.bool c.qspent::a)::os))  :CallsH P 303 #[.pointer (some ⟨e,0,none⟩)] h (fun v j=>v=.bool r.1/\S ψ f j (.box e (.int .i64 r.2.qleft::.bool r.2.qspent::a)::os)):=by
 refine zv annO Tryz.func303 ?_;refine bI T 0 0 ?_;apply brQ U<;>intro U
 ·refine boxA fun g T=>?_;obtain rfl:=oI U;exact ⟨rfl,pkT T 1 [0]⟩
 ·refine bI T 0 0 ?_;refine boxA fun i T=>?_;obtain rfl:=oI U;exact ⟨rfl,pkT T 1 [0]⟩
theorem rq_impl_explorer_search {a1:Zt->(List Int)->Option Zt}  (aa:∀ {ψ:CM} {w h:Heap} {os:List Ob} {c:Zt} {b0:Nat} {e:List Value} {f:Value} {g:Value} {i:Value} {x:Value} {y:Value} {a0:Value} {y1:List Int} {v1:Value} {r:Zt} (U:a1 c y1=some r) (T:S ψ w h (.box b0 (.int .i64 c.qcounter.qleft::.bool c.qcounter.qspent::f::g::i::.int .i64 c.qnodes::.int .i64 c.qleaves::x::y::a0::e)::.it oL [x] c.qform.Colors::.it (El.ow Zg) [y] c.qform.Edges::.it (El.ow eL) [a0] c.qbest::os)) (ab:SlC (UB ψ w) eI f c.qgraph.Colors) (ac:SlC (UB ψ w) Zg g c.qgraph.Edges) (ad:SlC (UB ψ w) eL i c.qlists) (f1:SlC ψ eI v1 y1),CallsH P 259 #[.pointer (some ⟨b0,0,none⟩),v1] h (fun v h'=>∃ w0 w1 w2,v=.tuple #[]/\S ψ w h' (.box b0 (.int .i64 r.qcounter.qleft::.bool r.qcounter.qspent::f::g::i::.int .i64 r.qnodes::.int .i64 r.qleaves::w0::w1::w2::e)::.it oL [w0] r.qform.Colors::.it (El.ow Zg) [w1] r.qform.Edges::.it (El.ow eL) [w2] r.qbest::os))):∀ {ψ:CM} {w h:Heap} {os:List Ob} {c:Zt} {b0:Nat} {e:List Value} {f:Value} {g:Value} {i:Value} {x:Value} {y:Value} {a0:Value} {y1:List Int} {v1:Value} {r:Zt} (U:q_impl_explorer_search a1 c y1=some r) (T:S ψ w h (.box b0 (.int .i64 c.qcounter.qleft::.bool c.qcounter.qspent::f::g::i::.int .i64 c.qnodes::.int .i64 c.qleaves::x::y::a0::e)::.it oL [x] c.qform.Colors::.it (El.ow Zg) [y] c.qform.Edges::.it (El.ow eL) [a0] c.qbest::os)) (ab:SlC (UB ψ w) eI f c.qgraph.Colors) (ac:SlC (UB ψ w) Zg g c.qgraph.Edges) (ad:SlC (UB ψ w) eL i c.qlists) (f1:SlC ψ eI v1 y1),CallsH P 259 #[.pointer (some ⟨b0,0,none⟩),v1] h (fun v h'=>∃ w0 w1 w2,v=.tuple #[]/\S ψ w h' (.box b0 (.int .i64 r.qcounter.qleft::.bool r.qcounter.qspent::f::g::i::.int .i64 r.qnodes::.int .i64 r.qleaves::w0::w1::w2::e)::.it oL [w0] r.qform.Colors::.it (El.ow Zg) [w1] r.qform.Edges::.it (El.ow eL) [w2] r.qbest::os)):=by
 intro ψ w h os c b0 e f g i x y a0 y1 v1 r U T ab ac ad f1;refine zv ⟨an [[4,120],[10,288]],an [[7]],[],[]⟩ Tryz.func259 ?_;rw [q_impl_explorer_search] at U;refine cl1 U T (fun s _ _ hx=>Zzc s.fle hx (f1.mono T.leF)) fun a4 a6 bh T U=>⟨_,rfl,?_⟩
 refine Zi slA ?_;apply brQ U<;>intro U
 ·have T:S ψ w bh (.box b0 (.int .i64 c.qcounter.qleft::.bool c.qcounter.qspent::f::g::i::.int .i64 c.qnodes::.int .i64 c.qleaves::x::y::a0::e)::.it oL [x] c.qform.Colors::.it (El.ow Zg) [y] c.qform.Edges::.it (El.ow eL) [a0] c.qbest::.it oL [a6] a4::os):=pkT T 5 [1,2,3,4,0];obtain ⟨c3,b6,U⟩:=obind U;obtain ⟨bu,c4,a5,av⟩:=id T;refine (ZDU b6 (a5.upS av) (ab.mono a5.ubU) (ac.mono a5.ubU) (ad.mono a5.ubU) (f1.mono a5.bas)).mono fun c5 c6 ⟨bi,ap,aq,b7,aw⟩=>⟨b7,?_⟩
  replace T:=a5.downS aw;clear aw a5 av;obtain rfl:=oI U;exact ⟨bi,ap,aq,rfl,pkT T 5 [0,1,2,3]⟩
 ·refine Zi slA ?_;obtain ⟨bj,hn⟩:=Zad U;refine ⟨fun n ah aj=>∃ q ai a2 a3 xs j o k u l,S ψ w aj (.it oL [a6] a4::.box b0 (.int .i64 q::.bool ai::f::g::i::.int .i64 a2::.int .i64 a3::j::k::l::e)::.it oL [j] xs::.it (El.ow Zg) [k] o::.it (El.ow eL) [l] u::os)/\loopN (Zco a1 c y1 a4) n (ah,q,ai,a2,a3,xs,o,u)=some r,⟨bj,_,_,_,_,_,_,_,_,_,_,pkT T 5 [0,1,2,3,4],hn⟩,?_⟩;rintro n _ ah aj ⟨q,ai,a2,a3,xs,j,o,k,u,l,T,hn⟩;obtain ⟨m,a,rfl,U,W⟩:=Zab hn;apply brQ U<;>intro U
  ·refine ixI slA U fun ak U=>?_;refine ⟨fun ax=>∃ a7 a8,S ψ w ax (.it oL [a6] a4::.box b0 (.int .i64 a7::.bool a8::f::g::i::.int .i64 a2::.int .i64 a3::j::k::l::e)::.it oL [j] xs::.it (El.ow Zg) [k] o::.it (El.ow eL) [l] u::os)/\ZpD a1 c y1 ah a2 a3 xs o u ak a7 a8=some a,?_,?_⟩
   ·refine bB T 1 1 ?_;apply brQ U<;>intro U
    ·obtain rfl:=oI U;obtain rfl:=oI W;exact ⟨j,k,l,rfl,pkT T 5 [1,2,3,4]⟩
    ·have T:S ψ w aj (.box b0 (.int .i64 q::.bool ai::f::g::i::.int .i64 a2::.int .i64 a3::j::k::l::e)::.it oL [a6] a4::.it oL [j] xs::.it (El.ow Zg) [k] o::.it (El.ow eL) [l] u::os):=pkT T 5 [1,0,2,3,4];obtain ⟨c7,ar,U⟩:=obind U;obtain ⟨bv,c8,al,ay⟩:=id T;refine (ZAb ar (al.upS ay) ).mono fun c9 bw ⟨b9,az⟩=>⟨_,b9,?_⟩
     replace T:=al.downS az;clear az al ay;apply brQ U<;>intro U
     ·obtain rfl:=oI U;obtain rfl:=oI W;exact ⟨j,k,l,rfl,pkT T 5 [0,2,3,4]⟩
     ·exact ⟨_,_,pkT T 5 [1,0,2,3,4],U⟩
   ·rintro _ ax ⟨a7,a8,T,U⟩;refine bI T 1 5 ?_;refine boxA fun ca T=>?_;refine vL f1 T.leF ?_;refine mkO eI U fun cb b1 cc T U=>?_;refine vL f1 T.leF ?_;obtain ⟨bk,ag⟩:=Zad U;refine ⟨fun b2 b3 b4=>∃ ae,S ψ w b4 (.it oL [b1] ae::.it oL [a6] a4::.box b0 (.int .i64 a7::.bool a8::f::g::i::.int .i64 (ε.wrap (a2+1))::.int .i64 a3::j::k::l::e)::.it oL [j] xs::.it (El.ow Zg) [k] o::.it (El.ow eL) [l] u::os)/\loopN (ZeG a1 c y1 ah a2 a3 xs o u ak a7 a8) b2 (b3,ae)=some a,⟨bk,_,pkT T 6 [0,1,2,3,4,5],ag⟩,?_⟩;rintro b2 _ b3 b4 ⟨ae,T,ag⟩;obtain ⟨cd,ce,rfl,U,am⟩:=Zab ag;apply brQ U<;>intro U
    ·refine ixI (f1.mono T.leF) U fun cf U=>?_;refine ixA slA U fun cg ch ba bb U=>?_;refine st1_S T 0 rfl ba bb rfl (fun _=>⟨rfl,rfl⟩) fun cj T=>?_;dsimp at T;obtain rfl:=oI U;exact ⟨_,ltS,_,pkT T 6 [0,1,2,3,4,5],am⟩
    ·refine ixI slA U fun bm U=>?_;refine ixA slA U fun ck cm bc bd U=>?_;refine st1_S T 0 rfl bc bd rfl (fun _=>⟨rfl,rfl⟩) fun bx T=>?_;dsimp at T;refine bV T 2 4 ?_;have T:=frA 0;refine cl1 U T (fun bn bo _ be=>Zrm bn.fle be slA (frF bo 0 rfl)) fun bp bq bf T U=>⟨_,rfl,?_⟩
     have T:=frA 0;have T:S ψ w bf (.box b0 (.int .i64 a7::.bool a8::f::g::i::.int .i64 (ε.wrap (a2+1))::.int .i64 a3::j::k::l::e)::.it oL [j] xs::.it (El.ow Zg) [k] o::.it (El.ow eL) [l] u::.it eL [bq] bp::.it eL [b1] (ae.set (ak:Int).toNat (ε.wrap (bm-1)))::.it oL [a6] a4::os):=pkT T 7 [3,4,5,6,0,1,2];obtain ⟨cn,au,U⟩:=obind U;obtain ⟨bz,co,a9,ao⟩:=id T;refine (aa au (a9.upS ao) (ab.mono a9.ubU) (ac.mono a9.ubU) (ad.mono a9.ubU) (frF ao 4 rfl)).mono fun cp c0 ⟨cq,br,bs,bg,b5⟩=>⟨bg,?_⟩
     replace T:=a9.downS b5;clear b5 a9 ao;obtain rfl:=oI U;obtain rfl:=oI am;exact ⟨_,ltS,_,_,_,_,_,_,_,_,_,_,pkT T 7 [6,0,1,2,3],W⟩
  ·obtain rfl:=oI U;obtain rfl:=oI W;exact ⟨j,k,l,rfl,pkT T 5 [1,2,3,4]⟩
theorem rn_impl_explorer_search:∀ n,(∀ {ψ:CM} {i h:Heap} {os:List Ob} {a:Zt} {o:Nat} {g:List Value} {c:Value} {e:Value} {f:Value} {j:Value} {k:Value} {l:Value} {s:List Int} {v1:Value} {r:Zt} (U:(pn_impl_explorer_search n) a s=some r) (T:S ψ i h (.box o (.int .i64 a.qcounter.qleft::.bool a.qcounter.qspent::c::e::f::.int .i64 a.qnodes::.int .i64 a.qleaves::j::k::l::g)::.it oL [j] a.qform.Colors::.it (El.ow Zg) [k] a.qform.Edges::.it (El.ow eL) [l] a.qbest::os)) (u:SlC (UB ψ i) eI c a.qgraph.Colors) (w:SlC (UB ψ i) Zg e a.qgraph.Edges) (x:SlC (UB ψ i) eL f a.qlists) (y:SlC ψ eI v1 s),CallsH P 259 #[.pointer (some ⟨o,0,none⟩),v1] h (fun v h'=>∃ w0 w1 w2,v=.tuple #[]/\S ψ i h' (.box o (.int .i64 r.qcounter.qleft::.bool r.qcounter.qspent::c::e::f::.int .i64 r.qnodes::.int .i64 r.qleaves::w0::w1::w2::g)::.it oL [w0] r.qform.Colors::.it (El.ow Zg) [w1] r.qform.Edges::.it (El.ow eL) [w2] r.qbest::os))):=by
  intro n;induction n with
  | zero=>exact fun U=>absurd U (by simp [pn_impl_explorer_search])
  | succ n ih=>exact rq_impl_explorer_search ih
theorem ZGp:∀ {ψ:CM} {i h:Heap} {os:List Ob} {a:Zt} {o:Nat} {g:List Value} {c:Value} {e:Value} {f:Value} {j:Value} {k:Value} {l:Value} {s:List Int} {v1:Value} {r:Zt} (U:Zql a s=some r) (T:S ψ i h (.box o (.int .i64 a.qcounter.qleft::.bool a.qcounter.qspent::c::e::f::.int .i64 a.qnodes::.int .i64 a.qleaves::j::k::l::g)::.it oL [j] a.qform.Colors::.it (El.ow Zg) [k] a.qform.Edges::.it (El.ow eL) [l] a.qbest::os)) (u:SlC (UB ψ i) eI c a.qgraph.Colors) (w:SlC (UB ψ i) Zg e a.qgraph.Edges) (x:SlC (UB ψ i) eL f a.qlists) (y:SlC ψ eI v1 s),CallsH P 259 #[.pointer (some ⟨o,0,none⟩),v1] h (fun v h'=>∃ w0 w1 w2,v=.tuple #[]/\S ψ i h' (.box o (.int .i64 r.qcounter.qleft::.bool r.qcounter.qspent::c::e::f::.int .i64 r.qnodes::.int .i64 r.qleaves::w0::w1::w2::g)::.it oL [w0] r.qform.Colors::.it (El.ow Zg) [w1] r.qform.Edges::.it (El.ow eL) [w2] r.qbest::os)):=(rn_impl_explorer_search fuel)
section
variable {ψ:CM} {h:Heap} (hψ:CLe ψ (hcell h))
include hψ
theorem ZsW {x c e budget1 r} (U:Zki x budget1=some r) (f:SlC ψ eI c x.Colors) (g:SlC ψ Zg e x.Edges):CallsH P 195 #[.agg #[c,e],.int .i64 budget1] h (fun v h'=>match r.1 with|none=>v=.tuple #[.pointer none,.int .i64 r.2]/\S ψ h h' []|some d=>∃ l w1 w2 w3 w4 w5 w6,v=.tuple #[.pointer (some ⟨l,0,none⟩),.int .i64 r.2]/\S ψ h h' [.box l [.int .i64 d.qcounter.qleft,.bool d.qcounter.qspent,w1,w2,w3,.int .i64 d.qnodes,.int .i64 d.qleaves,w4,w5,w6],.it oL [w4] d.qform.Colors,.it (El.ow Zg) [w5] d.qform.Edges,.it (El.ow eL) [w6] d.qbest]):=by
 refine zS hψ ⟨[],[],[],[(5,⟨kdL [0,0,2,1,3,0,4,0],.fin [3,4,0,1,2,5,6,7],true⟩),(6,⟨[],.fin [1,2,3,4,5,6,7,0,8],false⟩)]⟩ Tryz.func195 fun T=>?_;refine new_S T fun b2 ai T=>?_;refine lsA ?_;refine cl0 U T (fun s _ _ y=>ZpL s.fle y (f.mono T.leF) (g.mono T.leF)) fun r8 aj T U=>⟨_,rfl,?_⟩
 refine brZ fun U=>?_;refine cm0 U T (fun s y=>Zqh s y) fun ak a7 T U=>⟨_,rfl,?_⟩
 refine brZ fun U=>?_;refine ⟨fun _=>False,?_⟩;have j:=T;have i:=eX a7;refine lsA ?_;obtain ⟨a8,a0,U⟩:=obind U;refine ce1 T (fun s=>ZFV s.fle a0 (f.mono T.leF) (g.mono T.leF)) fun o al xE T=>⟨_,rfl,eZ (i.trans xE),?_⟩
 replace i:=i.trans xE;refine ZM ?_;refine ldV_K (j.cells 0 rfl) 0 rfl rfl ?_;refine ZM ?_;refine ldV_K (j.cells 0 rfl) 1 rfl rfl ?_;refine ZF oneA ?_;refine new_S T fun a9 am T=>?_;refine lsA ?_;refine cl1 U T (fun u _ _ a1=>Zrm u.fle a1 slA (f.mono u.bas)) fun aa ab ac T U=>⟨_,rfl,?_⟩
 have T:=frA 2;have T:=frA 0;have T:=T.nil eI;have T:=T.nil Zg;have T:=T.nil eL;have T:S ψ h ac [.box a9 [.int .i64 budget1,.bool false,c,e,o,.int .i64 0,.int .i64 0,(.slice none 0 0),(.slice none 0 0),(.slice none 0 0)],.it oL [(.slice none 0 0)] ([]:List Int),.it (El.ow Zg) [(.slice none 0 0)] ([]:List Zb),.it (El.ow eL) [(.slice none 0 0)] ([]:List (List Int)),.it eL [ab] aa,.it (El.sl eL) [o] a8,.box b2 [c,e]]:=pk T [4,2,1,0,3,5,6];obtain ⟨ao,a2,U⟩:=obind U;obtain ⟨ah,ap,a,k⟩:=id T;refine (ZGp a2 (a.upS k) (f.mono (a.bas.trans a.ubF)) (g.mono (a.bas.trans a.ubF)) ((frF k 5 rfl).mono a.ubF) (frF k 4 rfl)).mono fun aq ar ⟨au,ad,ae,a3,w⟩=>⟨a3,?_⟩
 replace T:=a.downS w;clear w a k;refine bB T 0 1 ?_;refine brZ fun U=>?_;exact endS
theorem ZA8 {g0 g i budget1 r} (U:Zju g0 budget1=some r) (j:SlC ψ eI g g0.Colors) (k:SlC ψ Zg i g0.Edges):CallsH P 126 #[.agg #[g,i],.int .i64 budget1] h (fun v h'=>∃ w0 w1 w2,v=.tuple #[.agg #[w0,w1],w2,.int .i64 r.2.2]/\S ψ h h' [.it oL [w0] r.1.Colors,.it (El.ow Zg) [w1] r.1.Edges,.it eL [w2] r.2.1]):=by
 refine zS hψ ⟨[],[],[],[(4,⟨kdL [0,0,0,1,0,0,0,2,0,2,3,0,0],.fin [0,1,2,3,10,4,5,6,7,8,9,11,12],true⟩)]⟩ Tryz.func126 fun T=>?_;refine new_S T fun b2 aj T=>?_;refine new_S T fun b4 ak T=>?_;refine lsA ?_;obtain ⟨⟨_|al,am⟩,hx,U⟩:=obind U
 ·dsimp only at U;obtain ⟨φ,L,s,f⟩:=id T;refine (ZsW s.fle hx (j.mono s.bas) (k.mono s.bas)).mono fun a5 w ⟨eq,t⟩=>⟨_,_,eq,?_⟩
  replace T:=join0 s f t;clear t s f;apply brQ U<;>intro U
  ·(iterate 2 refine boxA fun y T=>?_)
   refine lsA ?_;obtain rfl:=oI U;exact endX
  ·cases U
 ·dsimp only at U;obtain ⟨φ,L,s,f⟩:=id T;refine (ZsW s.fle hx (j.mono s.bas) (k.mono s.bas)).mono fun a5 w ⟨ao,w1,w2,w3,w4,w5,w6,eq,t⟩=>⟨_,_,eq,?_⟩
  replace T:=join4 s f t;clear t s f;apply brQ U<;>intro U
  ·(iterate 2 refine boxA fun y T=>?_)
   refine lsA ?_;obtain rfl:=oI U;exact endX
  ·obtain ⟨a7,l,U⟩:=obind U;obtain ⟨a0,o⟩:∃ p,AddrOf w6 0 1 p:=(Zax l).elim fun _ g2=>(T.rdL 3 rfl (Zah _)).elim (fun he=>by rw [he.2] at g2;simp at g2) fun he=>he.elim fun a he=>he.elim fun c he=>⟨_,a,_,c,he.1,rfl⟩
   have a4:∀ p,AddrOf w6 0 1 p->p=a0:=by
     rintro p ⟨a,n,c,e,rfl⟩;obtain ⟨a',n',c',e',rfl⟩:=o;rw [e] at e';cases e';rfl
   obtain ⟨aa,a3,T⟩:=ZaN T 3 rfl o l (K:=fun u=>S ψ h w (.it eL [u] a7::_)) fun u T=>T;have a2:=T;have nb:¬ a0.block=b4:=fun e=>by
     refine a2.boxNe 5 4 rfl rfl ?_;obtain ⟨a8,n,c,e1,e2⟩:=o;rw [e1];show some a8.block=some b4;rw [<-e,e2];unfold Addr.add;split<;>rfl
   refine ⟨fun x=>x=b4,?_⟩;refine lsA ?_;refine ZrD T 5 rfl rfl rfl oneA fun ap x5 T=>?_;dsimp at T;refine ZrD T 5 rfl rfl rfl oneA fun y x6 T=>?_;dsimp at T;refine ⟨x5.trans x6,?_⟩;refine Zp7 (fun e=>a2.boxNeB 1 5 (by decide) rfl rfl e) ?_;refine ldV_K (a2.cells 1 rfl) 9 rfl rfl ?_;refine ZZ (a2.rdL 4 rfl (Zah _)) l fun ab ad=>?_;obtain rfl:=a4 ab ad;refine Zp7 nb ⟨aa,a3,?_⟩;refine lsA ?_;exact endS
theorem ZIQ {o c e r} (U:Zkq o=some r) (a2:sc h eI c o.Colors) (g:sc h Zg e o.Edges) (hL:LayH 3 [0] [1,2] h):zR 127 #[.agg #[c,e]] h ψ (.string r):=by
 refine zS hψ ⟨an [[5,19,72]],[],[],[(7,⟨kdL [0,0,1,3,0,0,2,4,0,4,4,0],.fin [1,2,3,5,6,7,4,8,9,0,10,11],true⟩)]⟩ Tryz.func127 fun T=>?_;refine new_S T fun b1 a8 T=>?_;refine lsA ?_;refine cm0 U T (fun s u=>ZpL s u slA slA) fun r7 a9 T U=>⟨_,rfl,?_⟩
 refine brZ fun U=>?_;refine bV T 0 1 ?_;refine vL g T.le ?_;have T:=T.nilO (E:=El.str);refine lw21 U (fun v3 j a0=>([.it (El.ow El.str) [v3] a0,.box b1 [c,e]],a0,j)) fun v3 j aa a0 a T U W=>?_;apply brQ U<;>intro U
 ·refine ixA slA U fun ab ac ad v U=>?_;obtain ⟨cs,ck,hr⟩:=g.cells ad v rfl;obtain rfl:=Zau hr;refine lsA ?_;refine new_S T fun b5 ae T=>?_
  (iterate 2 refine boxA fun a1 T=>?_)
  refine ⟨fun _=>False,?_⟩;have i:=T;have f:=eX a1;refine bI T 0 0 ?_;obtain ⟨af,w,U⟩:=obind U;refine ce0 T (fun s=>ZdQ s.fle w (hL.ext s.ext)) fun ag xE T=>⟨_,rfl,eZ (f.trans xE),?_⟩
  replace f:=f.trans xE;refine ZH ?_;refine ldI_K (i.cells 0 rfl) 1 rfl rfl ?_;refine cl0 U T (fun k _ _ x=>ZdQ k.fle x (hL.ext k.ext)) fun ah ai T U=>⟨_,rfl,?_⟩
  refine gfA U fun U=>?_;refine gfA U fun U=>?_;refine puA U 1 fun aj ak a5 T U=>?_;exact endL
 ·refine bV T 1 0 ?_;refine cl0 U T (fun l _ _ y=>Zoz l.fle y slA (hL.ext l.ext)) fun al a6 T U=>⟨_,rfl,?_⟩
  refine gfA U fun U=>?_;refine cm0 U T (fun s u=>ZnC s u slA) fun am a7 T U=>⟨_,rfl,?_⟩
  refine gfA U fun U=>?_;exact tZ
theorem ZET {g a c budget1 r} (U:Ze7 g budget1=some r) (i:SlC ψ eI a g.Colors) (j:SlC ψ Zg c g.Edges) (hL:LayH 3 [0] [1,2] h):zR 76 #[.agg #[a,c],.int .i64 budget1] h ψ (.tuple #[.string r.1,.int .i64 r.2]):=by
 refine zO Tryz.func76 fun T=>?_;refine new_S T fun b2 v T=>?_;refine lsA ?_;obtain ⟨w,u,U⟩:=obind U;obtain ⟨φ,L,s,e⟩:=id T;refine (ZA8 s.fle u (i.mono s.bas) (j.mono s.bas)).mono fun x y ⟨a0,l,o,eq,t⟩=>⟨_,_,_,_,eq,?_⟩
 replace T:=join3 s e t;clear t s e;refine new_S T fun b6 a1 T=>?_
 (iterate 2 refine boxA fun a2 T=>?_)
 refine brZ fun U=>?_;refine lsA ?_;refine cl0 U T (fun f _ _ k=>ZIQ f.fle k slA slA (hL.ext f.ext)) fun a3 a4 T U=>⟨_,rfl,?_⟩
 exact tZ
end
end Go.Proofs.YtdmledeildfidaaGreatDoor
