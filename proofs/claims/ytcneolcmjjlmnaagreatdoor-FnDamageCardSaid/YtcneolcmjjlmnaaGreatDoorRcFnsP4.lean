import Derived.Test.YtcneolcmjjlmnaaGreatDoorRcFnsP3
open List renaming eraseIdx->JU,getElem?_set_self->Xe,getElem?_set_ne->Xo,take_length->Jx,length_drop->JO,getElem?_drop->XE,set->Yh,drop_length->Yi,append_nil->JL,length->Jk
open Int renaming toNat_natCast->Jp
open Option renaming some->Jg,none->Jh
open Bool renaming true->Ji
open Go renaming Value->Jl
open Go.IntKind renaming i64->Y
namespace Go.Proofs.YtcneolcmjjlmnaaGreatDoor
open Go Go.Vc
set_option linter.unusedVariables false
set_option linter.unusedSimpArgs false
set_option maxRecDepth 20000
set_option maxHeartbeats 4000000
attribute [local irreducible] CallsQ vLen vIdx IntKind.wrap hcell vNew vNewS vSliceS vStore1 vAppend vMake vCopy vB2S vS2B vNilS vSliceStr vStrIdx
section
variable {ψ:CM} {h:Heap} (hψ:CLe ψ (hcell h))
include hψ
theorem ZAB {w x r} (N:Zjn w=Jg r) (b8:sc h eI x w.Poly):CallsH P 230 #[.agg #[.int .i64 w.Prime,.int .i64 w.Degree,x]] h (λv h'=>∃w0 w1 w2 w3,v=.agg #[.int .i64 r.qq,w0,w1,w2,w3]/\S ψ h h' [.it (El.ow oL) [w0] r.qadd,.it (El.ow oL) [w1] r.qsub,.it (El.ow oL) [w2] r.qmul,.it oL [w3] r.qinv]):=by
 refine zS hψ ⟨an [[4,24],[8,48]],an [[5],[7,31,37,43]],[],[(6,⟨kdL [0,2,3,0,2,3,0,2,3,0,0,0],.both (.sg [0,1,2] (.both (.fin (rgs [(3,9)])) (.fin [6,7,8,3,4,5,9,10,11]))) (.both (.sg [3,4,5] (.both (.fin (rgs [(0,3),(6,6)])) (.fin [6,7,8,0,1,2,9,10,11]))) (.sg [6,7,8] (.both (.fin (rgs [(0,6),(9,3)])) (.fin [3,4,5,0,1,2,9,10,11])))),Ji⟩),(10,⟨kdL [0,0,0,0,0,0,1,0,0,3,2,0,0,3,2,0,0,4,0,4,0,4,0,4],.fin (rgs [(6,12),(0,2),(18,2),(2,2),(20,2),(4,2),(22,2)]),Ji⟩),(13,⟨kdL [0,2,0,3,3,0,2,0,3,3,0,2,0,3,4,0,4,0,4,0,4],.both (.sg [2,3] (.both (.sg [0,1,4] (.both (.sg [7,8] (.both (.fin [5,6,9,12,13,10,11,14,15,16,17,18,19,20]) (.fin (rgs [(12,2),(5,2),(9,3),(14,7)])))) (.fin (rgs [(12,2),(7,2),(5,2),(9,3),(14,7)])))) (.both (.sg [7,8] (.both (.sg [0,1,4] (.both (.fin [5,6,9,12,13,10,11,14,15,16,17,18,19,20]) (.fin (rgs [(12,2),(5,2),(9,3),(14,7)])))) (.fin (rgs [(12,2),(0,2),(4,3),(9,3),(14,7)])))) (.sg [12,13] (.both (.fin [0,1,4,7,8,5,6,9,10,11,14,15,16,17,18,19,20]) (.fin (rgs [(7,2),(0,2),(4,3),(9,3),(14,7)]))))))) (.both (.sg [7,8] (.both (.sg [2,3] (.both (.sg [0,1,4] (.both (.fin [5,6,9,12,13,10,11,14,15,16,17,18,19,20]) (.fin (rgs [(12,2),(5,2),(9,3),(14,7)])))) (.fin (rgs [(12,2),(0,2),(4,3),(9,3),(14,7)])))) (.fin (rgs [(12,2),(2,2),(0,2),(4,3),(9,3),(14,7)])))) (.sg [12,13] (.both (.sg [2,3] (.both (.fin [0,1,4,7,8,5,6,9,10,11,14,15,16,17,18,19,20]) (.fin (rgs [(7,2),(0,2),(4,3),(9,3),(14,7)])))) (.fin (rgs [(7,2),(2,2),(0,2),(4,3),(9,3),(14,7)]))))),Ji⟩)]⟩ Tryz.func230 λC=>?_;refine new_S C λb1 be C=>?_;refine new_S C λb2 bf C=>?_;refine lsA ?_;refine cm0 N C (λs hx=>ZgI s hx slA) λad bg C N=>⟨_,rfl,?_⟩
 refine new_S C λb3 bh C=>?_
 (iterate 5 refine boxA λba C=>?_)
 refine bI C 0 0 ?_;refine mkO eI N λbi y bb C N=>?_;refine boxA λbc C=>?_;have C:=C.nilO (E:=oL);have C:=C.nilO (E:=oL);have C:=C.nilO (E:=oL);refine ⟨λn y4 ae=>∃xs l a2 o a3 a4 a5,S ψ h ae [.it oL [y] a5,.box b3 [.int .i64 ad,l,o,a4,y],.box b2 [.int .i64 0,(.slice Jh 0 0),(.slice Jh 0 0),(.slice Jh 0 0),(.slice Jh 0 0)],.box b1 [.int .i64 w.Prime,.int .i64 w.Degree,x],.it (El.ow oL) [l] xs,.it (El.ow oL) [o] a2,.it (El.ow oL) [a4] a3]/\loopN (Zjp w ad) n (y4,xs,a2,a3,a5)=Jg r,endI,?_⟩;rintro n _ y4 ae ⟨xs,l,a2,o,a3,a4,a5,C,hn⟩;obtain ⟨m,a,rfl,N,O⟩:=ZN hn;refine bI C 1 0 ?_;apply brQ N<;>intro N
 .refine ⟨λal=>∃af am ag ao ah ap ai,S ψ h al [.it oL [y] ai,.box b3 [.int .i64 ad,am,ao,ap,y],.box b2 [.int .i64 0,(.slice Jh 0 0),(.slice Jh 0 0),(.slice Jh 0 0),(.slice Jh 0 0)],.box b1 [.int .i64 w.Prime,.int .i64 w.Degree,x],.it (El.ow oL) [am] af,.it (El.ow oL) [ao] ag,.it (El.ow oL) [ap] ah]/\Zp2 y4 af ag ah ai=Jg a,?_,?_⟩
  .obtain ⟨aq,aj,N⟩:=obind N;obtain ⟨bj,ar,N⟩:=obind N;obtain ⟨bk,au,N⟩:=obind N;obtain rfl:=oI (aj.symm.trans ar);obtain rfl:=oI (aj.symm.trans au);refine ⟨λa6 a7 a8 av=>S ψ h av [.it oL [a8] aq,.it oL [a7] aq,.it oL [a6] aq,.it oL [y] a5,.box b3 [.int .i64 ad,l,o,a4,y],.box b2 [.int .i64 0,(.slice Jh 0 0),(.slice Jh 0 0),(.slice Jh 0 0),(.slice Jh 0 0)],.box b1 [.int .i64 w.Prime,.int .i64 w.Degree,x],.it (El.ow oL) [l] xs,.it (El.ow oL) [o] a2,.it (El.ow oL) [a4] a3],?_,?_⟩
   .refine ⟨λ_=>False,?_⟩;have b0:=C;have g:=eX ae
    repeat' first
     | refine And.intro ?_ ?_
     | (refine Z9 ?_;refine ldI_K (b0.cells 1 rfl) 0 rfl rfl ?_)
     | (refine Zpt (E:=eI) C rfl aj λi z1 xE C=>⟨eZ (g.trans xE),?_⟩;replace g:=g.trans xE)
     | (refine Zpt (E:=eI) C rfl ar λi z1 xE C=>⟨eZ (g.trans xE),?_⟩;replace g:=g.trans xE)
     | (refine Zpt (E:=eI) C rfl au λi z1 xE C=>⟨eZ (g.trans xE),?_⟩;replace g:=g.trans xE)
     | (exact pk C [0,1,2,3,4,5,6,7,8,9])
     | (exact pk C [1,0,2,3,4,5,6,7,8,9])
     | (exact pk C [0,2,1,3,4,5,6,7,8,9])
     | (exact pk C [1,2,0,3,4,5,6,7,8,9])
     | (exact pk C [2,0,1,3,4,5,6,7,8,9])
     | (exact pk C [2,1,0,3,4,5,6,7,8,9])
   .rintro _ a6 a7 a8 av C;refine lw14 N (λy8 ak a9 aa ab=>([.it oL [a8] ab,.it oL [a7] aa,.it oL [a6] a9,.it oL [y] ak,.box b3 [.int .i64 ad,l,o,a4,y],.box b2 [.int .i64 0,(.slice Jh 0 0),(.slice Jh 0 0),(.slice Jh 0 0),(.slice Jh 0 0)],.box b1 [.int .i64 w.Prime,.int .i64 w.Degree,x],.it (El.ow oL) [l] xs,.it (El.ow oL) [o] a2,.it (El.ow oL) [a4] a3],y8,ak,a9,aa,ab)) λy8 aw ak a9 aa ab bm C N b5=>?_;refine bI C 4 0 ?_;apply brQ N<;>intro N
    .exact wX
    .obtain ⟨bn,k,N⟩:=obind N;obtain ⟨bo,u,N⟩:=obind N;obtain ⟨bp,ac,N⟩:=obind N;refine ⟨λb=>blk l=Jg b\/blk o=Jg b,?_⟩;have j:=C;have f:ExtBut (λb=>blk l=Jg b\/blk o=Jg b) aw aw:=eY _ _
     repeat' first
      | refine And.intro ?_ ?_
      | (refine ZD (C.rdL 2 rfl (Zk _)).one ?_)
      | (refine ZbL C λi z1 xE C=>⟨f.trans (eZ xE),?_⟩;replace f:=f.trans (eZ xE))
      | (refine Zsq (λe=>Or.elim e (λe=>j.boxNe 4 7 rfl rfl e) (λe=>j.boxNe 4 8 rfl rfl e)) ?_)
      | (refine ldV_K (j.cells 4 rfl) 1 rfl rfl ?_)
      | (refine ldV_K (j.cells 4 rfl) 2 rfl rfl ?_)
      | (refine ldV_K (j.cells 4 rfl) 3 rfl rfl ?_)
      | (refine ZcH C 4 rfl rfl rfl (C.rdL 7 rfl (ZO (Zk _))).one λi C=>?_;refine ZcH C 4 rfl rfl rfl (C.rdL 8 rfl (ZO (Zk _))).one λz1 C=>?_;refine ZcH C 4 rfl rfl rfl (C.rdL 9 rfl (ZO (Zk _))).one λz2 C=>?_;dsimp at C)
      | (refine ZD (C.rdL 1 rfl (Zk _)).one ?_)
      | (refine ZD (C.rdL 3 rfl (Zk _)).one ?_)
      | (refine ZD (C.rdL 4 rfl (Zk _)).one ?_)
      | (refine ZD (C.rdL 0 rfl (Zk _)).one ?_)
      | (have C:=C.pull 3 rfl;dsimp only [JU] at C;refine Zas C 7 rfl 0 rfl rfl rfl k λi z1 xE C=>⟨f.trans (xE.mono λ_ e=>.inl e),?_⟩;replace f:=f.trans (xE.mono λ_ e=>.inl e);dsimp at C)
      | (have C:=C.pull 3 rfl;dsimp only [JU] at C;refine Zas C 8 rfl 0 rfl rfl rfl u λi z1 xE C=>⟨f.trans (xE.mono λ_ e=>.inr e),?_⟩;replace f:=f.trans (xE.mono λ_ e=>.inr e);dsimp at C)
      | (have C:=C.pull 3 rfl;dsimp only [JU] at C;refine Zas C 9 rfl 0 rfl rfl rfl ac λi z1 xE C=>?_;dsimp at C)
      | (obtain ⟨i,z1,rfl⟩:=omap N;obtain rfl:=oI b5;exact ⟨_,_,_,_,_,_,_,pk C [3,4,5,6,7,8,9],z1⟩)
      | (have C:=C.pull 4 rfl;dsimp only [JU] at C;refine Zas C 9 rfl 1 rfl rfl rfl u λi z1 xE C=>⟨f.trans (xE.mono λ_ e=>.inr e),?_⟩;replace f:=f.trans (xE.mono λ_ e=>.inr e);dsimp at C)
      | (have C:=C.pull 4 rfl;dsimp only [JU] at C;refine Zas C 9 rfl 0 rfl rfl rfl u λi z1 xE C=>⟨f.trans (xE.mono λ_ e=>.inr e),?_⟩;replace f:=f.trans (xE.mono λ_ e=>.inr e);dsimp at C)
      | (have C:=C.pull 3 rfl;dsimp only [JU] at C;refine Zas C 9 rfl 1 rfl rfl rfl ac λi z1 xE C=>?_;dsimp at C)
      | (have C:=C.pull 4 rfl;dsimp only [JU] at C;refine Zas C 8 rfl 1 rfl rfl rfl k λi z1 xE C=>⟨f.trans (xE.mono λ_ e=>.inl e),?_⟩;replace f:=f.trans (xE.mono λ_ e=>.inl e);dsimp at C)
      | (have C:=C.pull 5 rfl;dsimp only [JU] at C;refine Zas C 9 rfl 2 rfl rfl rfl k λi z1 xE C=>⟨f.trans (xE.mono λ_ e=>.inl e),?_⟩;replace f:=f.trans (xE.mono λ_ e=>.inl e);dsimp at C)
      | (have C:=C.pull 4 rfl;dsimp only [JU] at C;refine Zas C 8 rfl 0 rfl rfl rfl k λi z1 xE C=>⟨f.trans (xE.mono λ_ e=>.inl e),?_⟩;replace f:=f.trans (xE.mono λ_ e=>.inl e);dsimp at C)
      | (have C:=C.pull 3 rfl;dsimp only [JU] at C;refine Zas C 8 rfl 1 rfl rfl rfl u λi z1 xE C=>⟨f.trans (xE.mono λ_ e=>.inr e),?_⟩;replace f:=f.trans (xE.mono λ_ e=>.inr e);dsimp at C)
      | (have C:=C.pull 4 rfl;dsimp only [JU] at C;refine Zas C 9 rfl 2 rfl rfl rfl u λi z1 xE C=>⟨f.trans (xE.mono λ_ e=>.inr e),?_⟩;replace f:=f.trans (xE.mono λ_ e=>.inr e);dsimp at C)
      | (have C:=C.pull 5 rfl;dsimp only [JU] at C;refine Zas C 9 rfl 1 rfl rfl rfl k λi z1 xE C=>⟨f.trans (xE.mono λ_ e=>.inl e),?_⟩;replace f:=f.trans (xE.mono λ_ e=>.inl e);dsimp at C)
      | (have C:=C.pull 5 rfl;dsimp only [JU] at C;refine Zas C 9 rfl 0 rfl rfl rfl k λi z1 xE C=>⟨f.trans (xE.mono λ_ e=>.inl e),?_⟩;replace f:=f.trans (xE.mono λ_ e=>.inl e);dsimp at C)
      | (have C:=C.pull 3 rfl;dsimp only [JU] at C;refine Zas C 9 rfl 2 rfl rfl rfl ac λi z1 xE C=>?_;dsimp at C)
  .rintro _ al ⟨af,am,ag,ao,ah,ap,ai,C,N⟩;exact endL
 .exact wX
theorem ZIn {a v0 e p1 r} (N:Zgh a e=Jg r) (g:sc h eI v0 a) (f:CellsC (hcell h) p1 [.int .i64 e]):zR 290 #[v0,.pointer (Jg p1)] h ψ (.bool r):=by
 refine zO Tryz.func290 λC=>?_;exact wX
end
theorem ZFM {ψ:CM} {a h:Heap} {os:List Ob} {e:Z7} {f:Jl} {g:Jl} {i:Jl} {j:Jl} {l:Jb} {v1:Jl} {k:Jb} {o:Jl} {a2:Int} {r:Jb} (N:Zc7 e l k a2=Jg r) (C:S ψ a h (.it oL [v1] l::os)) (s:SlC (UB ψ a) eL f e.qadd) (u:SlC (UB ψ a) eL g e.qsub) (w:SlC (UB ψ a) eL i e.qmul) (x:SlC (UB ψ a) eI j e.qinv) (y:SlC (UB ψ a) eI o k):CallsH P 291 #[.agg #[.int .i64 e.qq,f,g,i,j],v1,o,.int .i64 a2] h (λv h'=>v=.tuple #[]/\S ψ a h' (.it oL [v1] r::os)):=by
 refine zv ⟨an [[2,72]],[],[],[]⟩ Tryz.func291 ?_;exact wX
theorem r2_impl_arithmetic_addTimes {ψ:CM} {l h:Heap} {os:List Ob} {g:Z7} {o s x y:Jl} {ab:Ja} {v u w:Jl} {ps:List (Nat×Jl)} {i j:Int} {xs ys:Jb} {af:Int} {r:Jb} (N:Zc7 g xs ys af=Jg r) (C:S ψ l h (.it (El.pins eI ps) [v] ab::os))
    (n1:Nat) (h1:ps[n1]?=Jg (i.toNat,u)) (n2:Nat) (h2:ps[n2]?=Jg (j.toNat,w)) (ch:i≠j) (ao:gIdx ab i=Jg xs) (a8:gIdx ab j=Jg ys) (ac:SlC (UB ψ l) eL o g.qadd) (ar:SlC (UB ψ l) eL s g.qsub) (ae:SlC (UB ψ l) eL x g.qmul) (au:SlC (UB ψ l) eI y g.qinv):
    CallsH P 291 #[.agg #[.int .i64 g.qq,o,s,x,y],u,w,.int .i64 af] h (λv' h'=>v'=.tuple #[]/\S ψ l h' (.it (El.pins eI ps) [v] (ab.set i.toNat r)::os)):=by
  refine zv ⟨an [[2,72]],[],[],[]⟩ Tryz.func291 ?_;obtain ⟨i0,i1⟩:=ZaK ao;obtain ⟨j0,j1⟩:=ZaK a8;have bq:∀zs:Jb,gIdx (ab.set i.toNat zs) i=Jg zs/\gIdx (ab.set i.toNat zs) j=Jg ys:=λzs=>by
    unfold gIdx;rw [if_pos i0,if_pos j0,Xe (Zad i1),Xo Z];exact ⟨rfl,j1⟩
  have same:ab.set i.toNat xs=ab:=by
    apply List.ext_getElem?;intro k;rw [List.getElem?_set];split
    . rename_i e;subst e;rw [if_pos (Zad i1),i1]
    . rfl
  refine new_S C λb4 b1 C=>?_;refine ZF (C.rowP 1 rfl n2 h2 a8 (Zk _)) ?_;obtain ⟨ap,hn⟩:=ZP N;refine ⟨λn a9 aa=>∃zs,S ψ l aa (.box b4 [.int .i64 g.qq,o,s,x,y]::.it (El.pins eI ps) [v] (ab.set i.toNat zs)::os)/\loopN (ZcQ g ys af) n (a9,zs)=Jg r,⟨ap,xs,by rw [same];exact C,hn⟩,?_⟩;rintro n _ a9 aa ⟨zs,C,hn⟩;obtain ⟨m,a,rfl,N,O⟩:=ZN hn;obtain ⟨k1,k2⟩:=bq zs;refine bifP N (λhc N=>?_) (λhc N=>?_)
  . obtain ⟨b2,hx,N⟩:=obind N;refine ZS (C.rowP 1 rfl n2 h2 k2 (Zk _)) hx λb3 ad=>?_;refine ldI_C (C.rowP 1 rfl n2 h2 k2 (Zk _)) ad hx ?_;refine ldV_K (C.cells 0 rfl) 1 rfl rfl ?_;obtain ⟨b5,a2,N⟩:=obind N;refine ZS (C.rowP 1 rfl n1 h1 k1 (Zk _)) a2 λb6 ah=>?_;refine ldI_C (C.rowP 1 rfl n1 h1 k1 (Zk _)) ah a2 ?_;obtain ⟨b7,a3,N⟩:=obind N;refine ZS slA a3 λb8 ai=>?_;refine ldV_C ac C.leU ai a3 λb9 f=>?_;refine ldV_K (C.cells 0 rfl) 3 rfl rfl ?_;obtain ⟨ba,a4,N⟩:=obind N;refine ZS slA a4 λbb aj=>?_;refine ldV_C ae C.leU aj a4 λbc bd=>?_;obtain ⟨be,a5,N⟩:=obind N;refine ZS slA a5 λbf ak=>?_;refine ldI_C slA ak a5 ?_;obtain ⟨bg,a6,N⟩:=obind N;refine ZS slA a6 λbh al=>?_;refine ldI_C slA al a6 ?_;obtain ⟨bi,a7,N⟩:=obind N;refine ZS (C.rowP 1 rfl n1 h1 k1 (Zk _)) a7 λbj am=>?_;refine ZjG C 1 rfl n1 h1 k1 am a7 rfl (λ_=>⟨rfl,rfl⟩) λbk C=>?_;dsimp at C;rw [List.set_set] at C;obtain rfl:=oI N;exact ⟨m,Nat.lt_succ_self _,_,C,O⟩
  . obtain rfl:=oI N;obtain rfl:=oI O;exact ⟨rfl,C.pickT 2 [1] (by decide) (by decide)⟩
section
variable {ψ:CM} {h:Heap} (hψ:CLe ψ (hcell h))
include hψ
theorem ZDg {x j k l o y1 v1 r} (N:ZjU x y1=Jg r) (bk:sc h eL j x.qadd) (ak:sc h eL k x.qsub) (aa:sc h eL l x.qmul) (bm:sc h eI o x.qinv) (f1:sc h eL v1 y1):CallsH P 231 #[.agg #[.int .i64 x.qq,j,k,l,o],v1] h (λv h'=>∃w0 w1,v=.tuple #[w0,w1,.int .i64 r.2.2]/\S ψ h h' [.it (El.ow oL) [w0] r.1,.it oL [w1] r.2.1]):=by
 refine zS hψ ⟨an [[5,49,54,64],[17,534],[22,690]],an [[7],[14,54],[25,777],[29,49,54],[31,49,54]],[],[(12,⟨[],.fin (rgs [(0,2),(6,12),(2,4),(18,2)]),false⟩)]⟩ Tryz.func231 λC=>?_;refine new_S C λb2 dj C=>?_;refine cm1 N C (λs hx=>ZiM s hx slA) λdk y dl C N=>⟨_,rfl,?_⟩
 refine ⟨λv8 y9 bc=>∃y8 xs,S ψ h bc [.it (El.ow oL) [y] xs,.box b2 [.int .i64 x.qq,j,k,l,o],.it oL [v8] y8]/\ZeT y8 y9 xs=Jg r,?_,?_⟩
 .refine new_S C λdm dn C=>?_;refine boxA λdp C=>?_;have C:=C.nilO (E:=eI);obtain ⟨ca,hn⟩:=ZP N;refine ⟨λn w ab bd be=>∃g i u a5,S ψ h be [.it oL [w] g,.box i [.int .i64 u],.it (El.ow oL) [y] a5,.box b2 [.int .i64 x.qq,j,k,l,o]]/\bd=⟨i,0,Jh⟩/\loopN (Zce x) n (g,ab,u,a5)=Jg r,⟨ca,_,_,_,_,pk C [0,1,2,3],rfl,hn⟩,?_⟩;rintro n _ w ab bd be ⟨g,i,u,a5,C,rfl,hn⟩;obtain ⟨m,a,rfl,N,O⟩:=ZN hn;refine ⟨λbf=>S ψ h bf [.it oL [w] g,.box i [.int .i64 u],.it (El.ow oL) [y] a5,.box b2 [.int .i64 x.qq,j,k,l,o]]/\Zi0 x g ab u a5=Jg a,?_,?_⟩
  .exact wX
  .rintro _ bf ⟨C,N⟩;refine ⟨λal am bg=>∃ac ae,S ψ h bg [.it oL [al] ac,.box i [.int .i64 u],.it (El.ow oL) [y] ae,.box b2 [.int .i64 x.qq,j,k,l,o]]/\Zja u ac am ae=Jg a,?_,?_⟩
   .refine ZF slA ?_;obtain ⟨dq,ao,N⟩:=obind N;refine ZeB (Jg (Jk g:Int)) Jh slA ao λdr hv=>?_;refine cl0 N C (λcb _ _ bo=>ZxP cb.fle bo (hv.C slA ao rfl) κ (λcc=>λbp=>λcd ce=>ZIn bp cd ce ((C.cells 1 rfl).mono (CLe.ext cc)))) λds co C N=>⟨_,rfl,?_⟩
    apply brQ N<;>intro N
    .exact wX
    .refine ⟨λap aq=>∃af,S ψ h aq [.it oL [w] g,.box i [.int .i64 u],.it (El.ow oL) [y] af,.box b2 [.int .i64 x.qq,j,k,l,o]]/\ZgZ x g u ap af=Jg a,?_,?_⟩
     .apply brQ N<;>intro N
      .refine ixA slA N λdt du b0 ah N=>?_;refine Za9 C 2 rfl b0 ah λdv bq=>?_;refine ixA slA N λdw dx b1 ai N=>?_;refine Za9 C 2 rfl b1 ai λdy br=>?_;refine ixA slA N λdz e0 b3 ch N=>?_;obtain ⟨e1,b4,N⟩:=obind N;refine ZIa C 2 rfl rfl ai ah br bq b3 b4 λcp C=>?_;exact wX
      .exact wX
     .rintro _ ap aq ⟨af,C,N⟩;refine ixA slA N λe2 e3 ad ar N=>?_;refine Za9 C 2 rfl ad ar λe4 hd=>?_;refine bI C 1 0 ?_;refine ixI (C.rowC 2 rfl hd ar (Zk _)) N λe5 N=>?_;refine bV C 3 3 ?_;refine ixV aa C.le N λe6 e7 f N=>?_;refine ixI slA N λe8 N=>?_;refine ixA slA N λe9 ea bs au N=>?_;have C:=C.pin0 2 rfl;dsimp at C;refine Zbh C 2 rfl bs au λbh C=>?_;dsimp at C;refine ZF (C.rowP 2 rfl 0 rfl au (Zk _)) ?_;refine lw11 N (λav a6=>([.it oL [w] g,.box i [.int .i64 u],.it (El.pins eI [(((Jk g:Int):Int).toNat,bh)]) [y] a6,.box b2 [.int .i64 x.qq,j,k,l,o]],av,a6)) λav bt a6 eb C N aw=>?_;apply brQ N<;>intro N
      .obtain ⟨e,b5,N⟩:=obind N;refine ixI (C.rowP 2 rfl 0 rfl b5 (Zk _)) N λec N=>?_;refine ixA (C.rdP 2 rfl (Zk _)) N λcf ed bu a9 N=>?_;refine Zbh C 2 rfl bu a9 λee C=>?_;dsimp at C;refine lsA ?_;refine ixI slA N λct N=>?_;refine ixV aa C.le N λcu cv ef N=>?_;refine ixI slA N λbv N=>?_;refine ixA (C.rowP 2 rfl 0 rfl a9 (Zk _)) N λcx cy b6 b7 N=>?_;refine ZjG C 2 rfl 0 rfl a9 b6 b7 rfl (λ_=>⟨rfl,rfl⟩) λbw C=>?_;dsimp at C;have C:S ψ h bw [.it oL [w] g,.box i [.int .i64 u],.it (El.pins eI [(((Jk g:Int):Int).toNat,bh)]) [y] (a6.set ((Jk g:Int):Int).toNat (cf.set (av:Int).toNat bv)),.box b2 [.int .i64 x.qq,j,k,l,o]]:=C.keepP 2 rfl [1];exact endL
      .refine ZF (C.rdP 2 rfl (Zk _)) ?_;have C:S ψ h bt [.it oL [w] g,.box i [.int .i64 u],.it (El.ow oL) [y] a6,.box b2 [.int .i64 x.qq,j,k,l,o]]:=C.unpin 2 rfl;refine lw11 N (λa7 a2=>([.it oL [w] g,.box i [.int .i64 u],.it (El.ow oL) [y] a2,.box b2 [.int .i64 x.qq,j,k,l,o]],a7,a2)) λa7 cz a2 cg C N ax=>?_;apply brQ N<;>intro N
       .refine ixA slA N λbx d0 b8 a4 N=>?_;have C:=C.pin0 2 rfl;dsimp at C;refine Zbh C 2 rfl b8 a4 λbz C=>?_;dsimp at C;refine ⟨λay ag=>S ψ h ag [.it oL [w] g,.box i [.int .i64 u],.it (El.pins eI [((a7:Int).toNat,bz)]) [y] a2,.box b2 [.int .i64 x.qq,j,k,l,o]]/\Zga x g u a7 a2 bx ay=Jg cg,?_,?_⟩
        .apply brQ N<;>intro N
         .refine bI C 1 0 ?_;refine ixI (C.rowP 2 rfl 0 rfl a4 (Zk _)) N λd1 N=>?_;exact endC
         .exact wX
        .rintro _ ay ag ⟨C,N⟩;apply brQ N<;>intro N
         .refine lsA ?_;refine ixA (C.rdP 2 rfl (Zk _)) N λd2 d3 b9 aj N=>?_;refine Zbh C 2 rfl b9 aj λd4 C=>?_;dsimp at C;refine bV C 3 2 ?_;refine ixV ak C.le N λd5 d6 eg N=>?_;refine bI C 1 0 ?_;refine ixI (C.rowP 2 rfl 1 rfl a4 (Zk _)) N λd7 N=>?_;refine ixI slA N λd8 N=>?_;have C:=C.pull 2 rfl;dsimp only [JU] at C;obtain ⟨cj,ba,N⟩:=obind N;obtain ⟨c0,bb,N⟩:=obind N;obtain ⟨d9,eh,a8,bi⟩:=id C;refine (r2_impl_arithmetic_addTimes bb (a8.upS bi) 1 rfl 0 rfl (ZJU ba) a4 aj (bk.mono a8.ubH) (ak.mono a8.ubH) (aa.mono a8.ubH) (bm.mono a8.ubH)).mono λei c3 ⟨c4,bj⟩=>⟨c4,?_⟩
          replace C:=a8.downS bj;clear bj a8 bi;have C:S ψ h c3 [.it (El.ow oL) [y] (a2.set (a7:Int).toNat c0),.it oL [w] g,.box i [.int .i64 u],.box b2 [.int .i64 x.qq,j,k,l,o]]:=C.unpin 0 rfl;exact endL
         .have C:S ψ h ag [.it oL [w] g,.box i [.int .i64 u],.it (El.ow oL) [y] a2,.box b2 [.int .i64 x.qq,j,k,l,o]]:=C.unpin 2 rfl;exact endL
       .refine bI C 1 0 ?_;refine puA N 0 λda db dc C N=>?_;refine ZF slA ?_;refine ZF slA ?_;apply brQ N<;>intro N
        .obtain ⟨xm,hq,rfl⟩:=omap N;obtain rfl:=oI ax;obtain rfl:=oI aw;obtain rfl:=oI O;exact ⟨_,_,pk C [2,3,0],hq⟩
        .obtain ⟨xm,hq,rfl⟩:=omap N;obtain rfl:=oI ax;obtain rfl:=oI aw;exact ⟨_,_,pk C [0,1,2,3],hq⟩
   .rintro _ al am bg ⟨ac,ae,C,N⟩;refine bI C 1 0 ?_;refine new_S C λck de C=>?_;refine boxA λdf C=>?_;refine bI C 0 0 ?_;refine boxA λdg C=>?_;obtain rfl:=oI N;exact ⟨_,ltS,_,_,_,_,pk C [1,0,3,4],rfl,O⟩
 .rintro _ v8 y9 bc ⟨y8,xs,C,N⟩;refine ZF slA ?_;obtain ⟨dh,c6,N⟩:=obind N;refine cut_S Jh (Jg (Jk y8:Int)) C 0 rfl c6 rfl λdi C=>?_;exact wX
omit hψ in
instance k155:Kn 231 (type_of% @ZDg):=⟨@ZDg⟩
theorem ZHS {u:Ja} {v0:Jl} {s1:Ja} {v1:Jl} {j:Jb->Jb->Jm Bool} {k:Nat} {e:Jc} {r:Bool} (N:ZpZ u s1 j=Jg r) (l:sc h eL v0 u) (w:sc h eL v1 s1) (o2:ctx.okf k=Ji) (k2:∀{h1:Heap},ExtH h h1->∀{ψ1:CM},CLe ψ1 (hcell h1)->∀{x:Jb} {g:Jl} {y:Jb} {i:Jl} {r1:Bool},j x y=Jg r1->SlC (hcell h1) eI g x->SlC (hcell h1) eI i y->CallsH P k (([g,i]:Jc)++e).toArray h1 (λv h'=>v=.bool r1/\S ψ1 h1 h' [])):zR 292 #[v0,v1,.func (.func k) #[] e.toArray] h ψ (.bool r):=by
 refine zT [[4,102]] Tryz.func292 λC=>?_;refine vL l C.le ?_;refine vL w C.le ?_;refine brZ λN=>?_;refine vL l C.le ?_;refine lp1 N (nlS C) λm a5 a6 a C N O=>?_;refine brY λN=>?_;refine ixV l C.le N λa7 a8 f N=>?_;refine ixV w C.le N λa9 aa ab N=>?_;obtain ⟨ac,o,N⟩:=obind N;obtain ⟨φ,L,s,a3⟩:=id C;refine Zb9 o2 ?_;refine (k2 C.ext s.fle o slA slA).mono λad ae ⟨eq,t⟩=>⟨_,eq,?_⟩
 replace C:=join0 s a3 t;exact wX
theorem Zt2 {a v0 s1 v1 r} (N:Zdp a s1=Jg r) (e:sc h eI v0 a) (f:sc h eI v1 s1):zR 293 #[v0,v1] h ψ (.bool r):=by
 refine zT [[4,78]] Tryz.func293 λC=>?_;exact wX
theorem Zzb {a0 v0 e v1 r} (N:Zme a0 e=Jg r) (o:sc h eL v0 a0) (u:sc h eL v1 e):zR 232 #[v0,v1] h ψ (.bool r):=by
 refine zO Tryz.func232 λC=>?_;refine cl0 N C (λs _ _ j=>ZHS s.fle j slA slA κ (λk=>λa=>λf g i=>Zt2 a f g i)) λv l C N=>⟨_,rfl,?_⟩
 exact tZ
omit hψ in
instance k156:Kn 232 (type_of% @Zzb):=⟨@Zzb⟩
theorem ZrX {a e f r} (N:Zb8 a=Jg r) (v:sc h eI e a.Field.Poly) (w:sc h eL f a.Rows):zR 145 #[.agg #[.int .i64 a.Field.Prime,.int .i64 a.Field.Degree,e,f]] h ψ (.bool r):=by
 refine zS hψ ⟨[],an [[3]],[],[(1,⟨kdL [0,1,0,1,3,0,0,0,1,0,0,0,0,0,1,3,0,2,4,4,0,0],.fin (rgs [(0,22)]),Ji⟩),(3,⟨kdL [0,1,3,0,2,4,0,0,0,0,0,0,0],.fin (rgs [(0,13)]),Ji⟩)]⟩ Tryz.func145 λC=>?_;refine new_S C λx a2 C=>?_;refine ⟨λi=>S ψ h i [.box x [.int .i64 a.Field.Prime,.int .i64 a.Field.Degree,e,f]]/\Zq8 a=Jg r,?_,?_⟩
 .exact wX
 .rintro _ i ⟨C,N⟩;refine ⟨λ_=>False,?_⟩;have j:=C;have g:=eX i;refine lsA ?_;obtain ⟨a3,y,N⟩:=obind N;obtain ⟨φ,L,s,k⟩:=id C;refine (ZAB s.fle y slA).mono λa4 a5 ⟨a6,l,o,u,eq,t⟩=>⟨_,_,_,_,_,eq,eZ (g.trans t.ext),?_⟩
  replace g:=g.trans t.ext;replace C:=join4 s k t;clear t s k;have C:=frA 0;have C:=frA 1;have C:=frA 2;refine Z8 ?_;refine ldV_K (j.cells 0 rfl) 3 rfl rfl ?_;exact wX
omit hψ in
instance k157:Kn 145 (type_of% @ZrX):=⟨@ZrX⟩
theorem ZHB {n0 r} (N:Zdc n0=Jg r)  :zR 294 #[.int .i64 n0] h ψ (.tuple #[.int .i64 r.1,.int .i64 r.2]):=by
 refine zS hψ ⟨an [[3,66]],[],[],[(10,⟨kdL [0,0,2,0,3,0,0],.fin [3,4,0,1,2,5,6],Ji⟩)]⟩ Tryz.func294 λC=>?_;exact wX
theorem ZBK {e r} (N:ZbI e=Jg r)  :CallsH P 233 #[.int .i64 e] h (λv l=>∃w0,v=.tuple #[.agg #[.int .i64 r.1.Prime,.int .i64 r.1.Degree,w0],.int .i64 r.2]/\S ψ h l [.it oL [w0] r.1.Poly]):=by
 refine zU [[5,36]] [[4]] Tryz.func233 λC=>?_;refine new_S C λf j C=>?_;refine cm0 N C (λs g=>ZHB s g) λi k C N=>⟨_,_,rfl,?_⟩
 refine ⟨λa=>S ψ h a [.box f [.int .i64 0,.int .i64 0,(.slice Jh 0 0)]]/\ZjK i=Jg r,?_,?_⟩
 .exact wX
 .rintro _ a ⟨C,N⟩;exact wX
omit hψ in
instance k158:Kn 233 (type_of% @ZBK):=⟨@ZBK⟩
theorem Zxt {e a r} (N:ZbN e=Jg r) (f:sc h eL a e.Rows):CallsH P 146 #[.agg #[.int .i64 e.Kind,.int .i64 e.Size,a]] h (λv g=>∃w0 w1,v=.agg #[.int .i64 r.Field.Prime,.int .i64 r.Field.Degree,w0,w1]/\S ψ h g [.it oL [w0] r.Field.Poly,.it (El.ow oL) [w1] r.Rows]):=by
 refine zS hψ ⟨[],[],[],[(2,⟨kdL [2,0,1,3,0,4],.fin [1,2,3,0,4,5],Ji⟩)]⟩ Tryz.func146 λC=>?_;exact wX
omit hψ in
instance k159:Kn 146 (type_of% @Zxt):=⟨@Zxt⟩
theorem Zvp {a v0 r} (N:ZfF a=Jg r) (e:sc h eI v0 a):zR 327 #[v0] h ψ (.int .i64 r):=by
 refine zT [[3,48]] Tryz.func327 λC=>?_;exact wX
omit hψ in
instance k160:Kn 327 (type_of% @Zvp):=⟨@Zvp⟩
theorem ZxZ {a0 g r} (N:Zbp a0 g=Jg r)  :zR 297 #[.agg #[.int .i64 a0.A,.int .i64 a0.B],.agg #[.int .i64 g.A,.int .i64 g.B]] h ψ (.int .i64 r):=by
 refine zS hψ ⟨[],[],[],[(1,⟨kdL [0,1,0,1,3,0,2,0,2,4,4,4,0],.fin (rgs [(0,13)]),Ji⟩)]⟩ Tryz.func297 λC=>?_;refine new_S C λx l C=>?_;refine new_S C λy j C=>?_;refine ⟨λ_=>False,?_⟩;have e:=C;have a:=eX j;refine lsA ?_;obtain ⟨k,i,N⟩:=obind N;refine ce0 C (λs=>Zmt s.fle i) λo xE C=>⟨_,rfl,eZ (a.trans xE),?_⟩
 replace a:=a.trans xE;refine Z9 ?_;refine ldI_K (e.cells 1 rfl) 1 rfl rfl ?_;refine Z9 ?_;refine ldI_K (e.cells 0 rfl) 1 rfl rfl ?_;refine cm0 N C (λs i=>Zmt s i) λf u C N=>⟨_,rfl,?_⟩
 refine ZW (E:=eI) (css:=[[.int .i64 k],[.int .i64 f]]) (xs:=([k,f]:Jb)) C (λ_=>⟨[],[],rfl,⟨rfl,rfl⟩,⟨[],[],rfl,⟨rfl,rfl⟩,rfl⟩⟩) rfl rfl λv w C=>?_;exact wX
omit hψ in
instance k161:Kn 297 (type_of% @ZxZ):=⟨@ZxZ⟩
theorem Zw4 {n0 r} (N:Zp4 n0=Jg r)  :zR 329 #[.int .i64 n0] h ψ (.bool r):=by
 refine zO Tryz.func329 λC=>?_;exact wX
omit hψ in
instance k162:Kn 329 (type_of% @Zw4):=⟨@Zw4⟩
theorem ZGy {n0 r} (N:ZoP n0=Jg r)  :zR 328 #[.int .i64 n0] h ψ (.bool r):=by
 refine zO Tryz.func328 λC=>?_;exact wX
theorem ZvK {colors0 v0 r} (N:Zol colors0=Jg r) (f:sc h eI v0 colors0):zR 298 #[v0] h ψ (.bool r):=by
 refine zO Tryz.func298 λC=>?_;refine vL f C.le ?_;refine brY λN=>?_;refine cl0 N C (λs _ _ g=>Zfb s.fle g slA κ (λi=>λa=>λe  =>ZGy a e )) λr8 j C N=>⟨_,rfl,?_⟩
 exact tZ
omit hψ in
instance k163:Kn 298 (type_of% @ZvK):=⟨@ZvK⟩
theorem Zk5 {f a e r} (N:Zf4 f=Jg r) (g:sc h eI a f.Colors) (i:sc h Zg e f.Edges):zR 234 #[.agg #[a,e]] h ψ (.bool r):=by
 refine zS hψ ⟨an [[2,48]],[],[],[(4,⟨kdL [0,1,0,0,0,1,0,1,0,0,0,0,2,0,1,3,0,0,0,0,0,0,0,1,0,0,0,1,1,4,0,0,0],.fin (rgs [(0,11),(13,3),(11,2),(16,17)]),Ji⟩)]⟩ Tryz.func234 λC=>?_;exact wX
omit hψ in
instance k164:Kn 234 (type_of% @Zk5):=⟨@Zk5⟩
theorem ZAK {i g r} (N:Zhp i=Jg r) (j:sc h eL g i.Rows):CallsH P 147 #[.agg #[.int .i64 i.Kind,.int .i64 i.Size,g]] h (λv h'=>∃w0 w1,v=.tuple #[.agg #[w0,w1],.bool r.2]/\S ψ h h' [.it oL [w0] r.1.Colors,.it (El.ow Zg) [w1] r.1.Edges]):=by
 refine zS hψ ⟨an [[5,114]],[],[],[(9,⟨kdL [0,2,0,0,1,0,0,1,0,3,4,0,4],.fin (rgs [(2,8),(0,2),(10,3)]),Ji⟩),(11,⟨kdL [2,1,3,4,0],.fin [1,2,0,3,4],Ji⟩)]⟩ Tryz.func147 λC=>?_;refine new_S C λb1 ab C=>?_;refine new_S C λb2 ac C=>?_;refine bI C 1 1 ?_;refine cm0 N C (λs hx=>Zgj s hx) λr9 ad C N=>⟨_,rfl,?_⟩
 apply brQ N<;>intro N
 .exact wX
 .refine bI C 1 1 ?_;refine mkO eI N λy o ae C N=>?_;refine ZD oneA ?_;refine new_S C λb4 af C=>?_
  (iterate 2 refine boxA λa8 C=>?_)
  refine bV C 3 2 ?_;refine vL j C.le ?_;have C:=C.nilO (E:=Zg);refine lw12 N (λu xs k=>([.box b4 [o,k],.it oL [o] y,.box b2 [(.slice Jh 0 0),(.slice Jh 0 0)],.box b1 [.int .i64 i.Kind,.int .i64 i.Size,g],.it (El.ow Zg) [k] xs],u,xs)) λu w xs k a C N O=>?_;apply brQ N<;>intro N
  .refine ixV j C.le N λag ah f N=>?_;refine vL f C.le ?_;apply brQ N<;>intro N
   .exact wX
   .refine ⟨λ_=>False,?_⟩;have l:=C;have e:=eX w;refine ixI slA N λa2 N=>?_;refine ixI slA N λa3 N=>?_;refine ZbL C λai a9 xE C=>⟨eZ (e.trans xE),?_⟩
    replace e:=e.trans xE;refine Z8 ?_;refine ldV_K (l.cells 0 rfl) 1 rfl rfl ?_;obtain ⟨aj,x,N⟩:=obind N;refine Zl5 C 5 rfl 0 rfl (λ_=>⟨[.int .i64 a2],[.int .i64 a3],[],[],rfl,rfl,⟨rfl,rfl⟩,⟨rfl,rfl⟩⟩) rfl rfl x λak aa xE C=>?_;exact wX
  .exact wX
omit hψ in
instance k165:Kn 147 (type_of% @ZAK):=⟨@ZAK⟩
theorem ZO9 {n0 r} (N:ZjZ n0=Jg r)  :zL 330 #[.int .i64 n0] h ψ eI r:=by
 refine zT [[3,54]] Tryz.func330 λC=>?_;exact wX
theorem Zza {a v0 r} (N:Zhi a=Jg r) (e:sc h eI v0 a):zR 331 #[v0] h ψ (.string r):=by
 refine zT [[3,66]] Tryz.func331 λC=>?_;refine vL e C.le ?_;refine mkO (El.int .u8) N λg i f C N=>?_;exact wX
theorem ZLP {a v0 e v1 r} (N:Zkl a e=Jg r) (f:sc h eI v0 a) (g:sc h eI v1 e):zL 332 #[v0,v1] h ψ eI r:=by
 refine zT [[3,72]] Tryz.func332 λC=>?_;exact wX
end
theorem Zw8 {ψ:CM} {k h:Heap} {os:List Ob} {E0:El Jb} {x0:Ja} {v0:Jl} {j:Jb->Jb->Jm Int} {i:Nat} {a:Jc} {r:Ja} (N:Zf0 x0 j=Jg r) (C:S ψ k h (.it (El.ow E0) [v0] x0::os)) (o1:ctx.okf i=Ji) (k1:∀{h1:Heap},ExtH k h1->∀{ψ1:CM},CLe ψ1 (hcell h1)->∀{o:Jb} {f:Jl} {s:Jb} {g:Jl} {u:Int},j o s=Jg u->SlC (hcell h1) eI f o->SlC (hcell h1) eI g s->CallsQ True P i (([f,g]:Jc)++a).toArray h1 (λv h'=>v=.int .i64 u/\S ψ1 h1 h' [])) (w:E0.z=1:=by exact rfl) (x:Frz E0 eL:=by first|exact ZO (Zk _)|exact Zah _):CallsH P 333 #[v0,.func (.func i) #[] a.toArray] h (λv h'=>v=.tuple #[]/\S ψ k h' (.it (El.ow E0) [v0] r::os)):=by
  unfold Zf0 at N;split at N
  . rename_i y;obtain rfl:=oI N;obtain ⟨fn,hf,l,hn⟩:=ctxOk.fns i o1;obtain ⟨c,l⟩:=Option.isSome_iff_exists.1 l;exact ZMT Tryz.sortF Tryz.sortG C (Go.Proofs.enters_of hf hn l) (λe _=>k1 e) y.1 y.2 w x
  . cases N
section
variable {ψ:CM} {h:Heap} (hψ:CLe ψ (hcell h))
include hψ
theorem ZrK {degree0 genera1 v1 r} (N:ZeK degree0 genera1=Jg r) (f1:sc h eL v1 genera1):CallsH P 299 #[.int .i64 degree0,v1] h (λv h'=>∃w0,v=.tuple #[w0,.bool r.2]/\S ψ h h' [.it (El.ow oL) [w0] r.1]):=by
 refine zT [[4,37,48],[7,37,180]] Tryz.func299 λC=>?_;refine cm1 N C (λs u=>ZO9 s u) λam ao ap C N=>⟨_,rfl,?_⟩
 refine ZD oneA ?_;refine Zcp C λaq ar C=>?_;refine ZLU (κ:=Jd) (ν:=Bool) kStr vBool C λk au C=>?_;refine ixA slA N λav aw ad g N=>?_;refine Za9 C 1 rfl ad g λax hd=>?_;refine cl0 N C (λa7 _ _ w=>Zza a7.fle w (C.rowC 1 rfl hd g (Zk _))) λay az C N=>⟨_,rfl,?_⟩
 refine ZDj (v:=Ji) Ztq C 0 rfl rfl rfl λb0 C=>?_;dsimp at C;refine lw22 N (λv6 k8 a8 mp=>([.mp k (mkV kStr vBool mp),.it (El.ow oL) [v6] a8],a8,k8,mp)) λv6 k8 b1 a8 mp a C N O=>?_;refine ZF slA ?_;apply brQ N<;>intro N
 .refine vL f1 C.le ?_;refine lw22 N (λi l a6 e=>([.mp k (mkV kStr vBool e),.it (El.ow oL) [i] a6],a6,l,e)) λi l b2 a6 e b3 C N O=>?_;apply brQ N<;>intro N
  .refine ixV f1 C.le N λb4 b5 f N=>?_;refine ixA slA N λb6 b7 x j N=>?_;refine Za9 C 1 rfl x j λb8 y=>?_;refine cl1 N C (λa9 _ _ a2=>ZLP a9.fle a2 (C.rowC 1 rfl y j (Zk _)) slA) λb9 ba bb C N=>⟨_,rfl,?_⟩
   refine cm0 N C (λs u=>Zza s u slA) λbc ai C N=>⟨_,rfl,?_⟩
   refine ZNf Ztq C 1 rfl rfl ?_;apply brQ N<;>intro N
   .refine ZDj (v:=Ji) Ztq C 1 rfl rfl rfl λaj C=>?_;exact wX
   .exact wX
  .exact wX
 .have C:=C.pull 1 rfl;dsimp only [JU] at C;obtain ⟨bd,a3,N⟩:=obind N;obtain ⟨ak,be,o,aa⟩:=id C;refine (Zw8 a3 (o.upS aa) κ (λbf=>λa4=>λab ac ae=>ZzE a4 ab ac ae)).mono λbg al ⟨a5,af⟩=>⟨a5,?_⟩
  replace C:=o.downS af;exact wX
omit hψ in
instance k166:Kn 299 (type_of% @ZrK):=⟨@ZrK⟩
theorem Zvv {x0:Ja} {v0:Jl} {a2:Jb} {v1:Jl} {j:Jb->Jb->Jm Int} {l:Nat} {e:Jc} {r:Int×Bool} (N:ZdX x0 a2 j=Jg r) (o:sc h eL v0 x0) (f1:sc h eI v1 a2) (y:ctx.okf l=Ji) (k2:∀{h1:Heap},ExtH h h1->∀{ψ1:CM},CLe ψ1 (hcell h1)->∀{y0:Jb} {g:Jl} {y1:Jb} {i:Jl} {r1:Int},j y0 y1=Jg r1->SlC (hcell h1) eI g y0->SlC (hcell h1) eI i y1->CallsH P l (([g,i]:Jc)++e).toArray h1 (λv h'=>v=.int .i64 r1/\S ψ1 h1 h' [])):zR 300 #[v0,v1,.func (.func l) #[] e.toArray] h ψ (.tuple #[.int .i64 r.1,.bool r.2]):=by
 refine zT [[3,54,60]] Tryz.func300 λC=>?_;refine vL o C.le ?_;refine lp2 N (nlS C) λm i9 aa ab a C N O=>?_;apply brQ N<;>intro N
 .obtain ⟨_,hx,N⟩:=obind N;refine ⟨Zz6 hx,?_⟩;refine ixV o C.le N λac ad f N=>?_;obtain ⟨ae,u,N⟩:=obind N;obtain ⟨φ,L,s,a5⟩:=id C;refine Zb9 y ?_;refine (k2 C.ext s.fle u slA slA).mono λaf ag ⟨eq,t⟩=>⟨_,eq,?_⟩
  replace C:=join0 s a5 t;exact wX
 .refine brY λN=>?_;refine ixV o C.le N λah ai aj N=>?_;obtain ⟨ak,w,N⟩:=obind N;obtain ⟨a9,al,k,a6⟩:=id C;refine Zb9 y ?_;refine (k2 C.ext k.fle w slA slA).mono λam ao ⟨x,a7⟩=>⟨_,x,?_⟩
  replace C:=join0 k a6 a7;exact wX
theorem ZvR {degree0 elemen1 v1 r} (N:ZkJ degree0 elemen1=Jg r) (x:SlC ψ eL v1 elemen1):CallsH P 235 #[.int .i64 degree0,v1] h (λv h'=>∃w0 w1,v=.tuple #[w0,w1,.bool r.2.2]/\S ψ h h' [.it (El.ow eL) [w0] r.1,.it (El.ow eL) [w1] r.2.1]):=by
 refine zU [[4,43,49,57,126]] [[8]] Tryz.func235 λC=>?_;obtain ⟨a7,hx,N⟩:=obind N;obtain ⟨φ,L,s,i⟩:=id C;refine (ZrK s.fle hx SlC.nil).mono λa8 a9 ⟨aa,eq,t⟩=>⟨_,_,eq,?_⟩
 replace C:=join1 s i t;clear t s i;refine vL x C.leF ?_;have C:=C.nilO (E:=eL);refine lw42 N (λl o j g a6 e=>([.it (El.ow eL) [l] a6,.it (El.ow oL) [o] e],a6,e,j,g)) λl o j g ab a6 e a C N O=>?_;apply brQ N<;>intro N
 .refine ixV x C.leF N λy ac f N=>?_;refine ⟨λk=>S ψ h k [.it (El.ow eL) [l] a6,.it (El.ow oL) [o] e]/\Zmn degree0 a6 g y=Jg a,?_,?_⟩
  .refine cl0 N C (λa2 _ _ u=>Zvv a2.fle u slA (f.mono C.leF) κ (λad=>λw=>λa3 a4 a5=>Zfa w a3 a4 a5)) λae af C N=>⟨_,_,rfl,?_⟩
   exact wX
  .rintro _ k ⟨C,N⟩;refine ZD (f.mono C.leF).one ?_;have C:=C.arg f;exact wX
 .have C:=C.frzIn 1 rfl (ZO (Zk _));exact wX
omit hψ in
instance k167:Kn 235 (type_of% @ZvR):=⟨@ZvR⟩
theorem ZPp {e a r} (N:ZmO e=Jg r) (g:SlC ψ eL a e.Elements):zR 148 #[.agg #[.int .i64 e.Degree,a]] h ψ (.bool r):=by
 refine zU [[4,18]] [[3]] Tryz.func148 λC=>?_;refine new_S C λi j C=>?_;refine ⟨λf=>S ψ h f [.box i [.int .i64 e.Degree,a]]/\ZsH e=Jg r,?_,?_⟩
 .exact wX
 .rintro _ f ⟨C,N⟩;exact wX
theorem ZLd {e a r} (N:ZhK e=Jg r) (f:sc h eL a e.Rows):CallsH P 149 #[.agg #[.int .i64 e.Kind,.int .i64 e.Size,a]] h (λv g=>∃w0,v=.agg #[.int .i64 r.Degree,w0]/\S ψ h g [.it (El.ow oL) [w0] r.Elements]):=by
 refine zS hψ ⟨[],[],[],[(1,⟨kdL [0,2,0,1,3,0,4],.fin [2,3,4,0,1,5,6],Ji⟩)]⟩ Tryz.func149 λC=>?_;exact wX
theorem ZmG {f a r} (N:Zar f=Jg r) (o:sc h eL a f.Rows):zR 74 #[.agg #[.int .i64 f.Kind,.int .i64 f.Size,a]] h ψ (.bool r):=by
 refine zS hψ ⟨[],[],[],[(3,⟨kdL [0,1,3,0,2,0,0,0,1,4,0,0],.fin (rgs [(0,12)]),Ji⟩),(7,⟨kdL [0,1,3,0,2,0,0,0,1,4,0,0],.fin (rgs [(0,12)]),Ji⟩)]⟩ Tryz.func74 λC=>?_;refine new_S C λb1 a2 C=>?_;refine bI C 0 0 ?_;apply brQ N<;>intro N
 .exact wX
 .apply brQ N<;>intro N
  .exact wX
  .apply brQ N<;>intro N
   .exact wX
   .apply brQ N<;>intro N
    .exact wX
    .apply brQ N<;>intro N
     .exact wX
     .apply brQ N<;>intro N
      .exact wX
      .refine brY λN=>?_;refine lsA ?_;refine cm1 N C (λs u=>ZLd s u slA) λa3 a4 v C N=>⟨_,_,rfl,?_⟩
       have C:=frA 0;obtain ⟨a5,g,N⟩:=obind N;obtain ⟨l,w,e,j⟩:=id C;refine (ZPp (CLe.refl _) g slA).mono λx y ⟨i,k⟩=>⟨_,i,?_⟩
       replace C:=join0 e j (k.weak e.fle);exact wX
omit hψ in
instance k168:Kn 74 (type_of% @ZmG):=⟨@ZmG⟩
theorem ZC7 {a r} (N:Zfm a=Jg r)  :zR 239 #[.int .i64 a] h ψ (.bool r):=by
 refine zO Tryz.func239 λC=>?_;exact wX
omit hψ in
instance k169:Kn 239 (type_of% @ZC7):=⟨@ZC7⟩
theorem ZLK {a r} (N:ZdO a=Jg r)  :zR 151 #[.int .i64 a] h ψ (.string r):=by
 refine zO Tryz.func151 λC=>?_;exact wX
theorem ZCP {a e r} (N:Zc5 a=Jg r) (i:sc h eL e a.Rows) (hL:LayH 3 [0] [1,2] h):zR 75 #[.agg #[.int .i64 a.Kind,.int .i64 a.Size,e]] h ψ (.string r):=by
 refine zS hψ ⟨an [[7,25,102]],an [[12,20]],[],[(12,⟨kdL [0,1,3,0,0,2,4,0,0,0,0,0],.fin [0,1,2,4,5,6,3,7,8,9,10,11],Ji⟩)]⟩ Tryz.func75 λC=>?_;refine new_S C λv x C=>?_;refine lsA ?_;refine cm0 N C (λs w=>ZmG s w slA) λr8 y C N=>⟨_,rfl,?_⟩
 refine brZ λN=>?_;refine ⟨λg j=>S ψ h j [.box v [.int .i64 a.Kind,.int .i64 a.Size,e]]/\ZdW a g=Jg r,?_,?_⟩
 .refine bV C 0 2 ?_;refine vL i C.le ?_;apply brQ N<;>intro N
  .refine bV C 0 2 ?_;refine vL i C.le ?_;have C:=C.nilO (E:=El.str);exact wX
  .exact wX
 .rintro _ g j ⟨C,N⟩;refine ⟨λ_=>False,?_⟩;have k:=C;have f:=eX j;refine bI C 0 0 ?_;obtain ⟨a2,o,N⟩:=obind N;refine ce0 C (λs=>ZLK s.fle o) λa3 xE C=>⟨_,rfl,eZ (f.trans xE),?_⟩
  replace f:=f.trans xE;refine Z9 ?_;refine ldI_K (k.cells 0 rfl) 1 rfl rfl ?_;refine cl0 N C (λl _ _ u=>ZdA l.fle u (hL.ext l.ext)) λa4 a5 C N=>⟨_,rfl,?_⟩
  refine gfA N λN=>?_;refine gfA N λN=>?_;refine gfA N λN=>?_;exact wX
omit hψ in
instance k170:Kn 75 (type_of% @ZCP):=⟨@ZCP⟩
theorem ZKl {y0 r} (N:Zdq y0=Jg r) (hL:LayH 3 [0] [1,2] h):CallsH P 37 #[.string y0] h (λv h'=>∃w0,v=.tuple #[.agg #[.int .i64 r.1.Kind,.int .i64 r.1.Size,w0],.bool r.2]/\S ψ h h' [.it (El.ow oL) [w0] r.1.Rows]):=by
 refine zU [[9,246]] [[14]] Tryz.func37 λC=>?_;refine new_S C λb2 ad C=>?_;refine cl1 N C (λs _ _ hx=>Zod s.fle hx (hL.ext s.ext)) λo u ae C N=>⟨_,rfl,?_⟩
 refine ZF slA ?_;apply brQ N<;>intro N
 .exact wX
 .refine new_S C λb5 af C=>?_;refine ixS slA N λag N=>?_;refine cm0 N C (λs hx=>ZNa s hx) λf ah C N=>⟨_,_,rfl,?_⟩
  refine boxA λai C=>?_;refine ixS slA N λaj N=>?_;refine cl0 N C (λw _ _ a4=>ZnF w.fle a4 (hL.ext w.ext)) λg a9 C N=>⟨_,_,rfl,?_⟩
  refine boxA λaa C=>?_;refine ⟨λi=>∃xs j,S ψ h i [.box b5 [.int .i64 f.1,.int .i64 g.1,j],.it (El.ow El.str) [u] o,.box b2 [.int .i64 0,.int .i64 0,(.slice Jh 0 0)],.it (El.ow oL) [j] xs]/\ZhL y0 f g xs=Jg r,?_,?_⟩
  .refine ixS slA N λak N=>?_;apply brQ N<;>intro N
   .refine ixS slA N λal N=>?_;refine cl1 N C (λx _ _ l=>Zod x.fle l (hL.ext x.ext)) λa7 a8 ab C N=>⟨_,rfl,?_⟩
    refine ZF slA ?_;have C:=C.nilO (E:=oL);refine lw12 N (λy e k=>([.it (El.ow El.str) [a8] a7,.box b5 [.int .i64 f.1,.int .i64 g.1,k],.it (El.ow El.str) [u] o,.box b2 [.int .i64 0,.int .i64 0,(.slice Jh 0 0)],.it (El.ow oL) [k] e],y,e)) λy ac e k a C N O=>?_;exact wX
   .exact wX
  .rintro _ i ⟨xs,j,C,N⟩;exact wX
theorem ZyR {e r} (N:ZjW e=Jg r)  :zR 38 #[.string e] h ψ (.bool r):=by
 refine zU [[4,108]] [[3],[7,33],[8,39]] Tryz.func38 λC=>?_;refine ⟨λg=>S ψ h g []/\Zsz e=Jg r,?_,?_⟩
 .exact wX
 .rintro _ g ⟨C,N⟩;refine s2b_S C λf o C=>?_;refine ZF slA ?_;refine lp1 (os:=[.it (El.sl (El.int .u8)) [f] (byts e)]) N (pk C [0]) λm i s a C N O=>?_;refine brY λN=>?_;refine ixI slA N λl N=>?_;refine ⟨λu j=>S ψ h j [.it (El.sl (El.int .u8)) [f] (byts e)]/\Zbx i l u=Jg a,?_,?_⟩
  .exact wX
  .rintro _ u j ⟨C,N⟩;refine ⟨λw k=>S ψ h k [.it (El.sl (El.int .u8)) [f] (byts e)]/\Zbl i u w=Jg a,?_,?_⟩
   .exact wX
   .rintro _ w k ⟨C,N⟩;exact wX
omit hψ in
instance k171:Kn 38 (type_of% @ZyR):=⟨@ZyR⟩
theorem ZFF {a r} (N:ZaF a=Jg r) (hL:LayH 3 [0] [1,2] h):CallsH P 15 #[.string a] h (λv h'=>∃w0,v=.tuple #[.string r.1,.agg #[.int .i64 r.2.1.Kind,.int .i64 r.2.1.Size,w0],.int .i64 r.2.2]/\S ψ h h' [.it (El.ow oL) [w0] r.2.1.Rows]):=by
 refine zS hψ ⟨[],an [[4],[8]],[],[(2,⟨[],.fin (rgs [(0,3),(7,5),(3,4),(12,2)]),false⟩)]⟩ Tryz.func15 λC=>?_;refine new_S C λu a4 C=>?_;refine cm0 N C (λs y=>ZJe s y) λw a5 C N=>⟨_,rfl,?_⟩
 refine ⟨λg=>S ψ h g [.box u [.int .i64 0,.int .i64 0,(.slice Jh 0 0)]]/\Zgc a w=Jg r,?_,?_⟩
 .exact wX
 .rintro _ g ⟨C,N⟩;refine ssC N λa6 N=>?_;refine cl0 N C (λi _ _ l=>ZLg i.fle l (hL.ext i.ext)) λx a7 C N=>⟨_,_,_,rfl,?_⟩
  refine cl1 N C (λj _ _ o=>ZKl j.fle o (hL.ext j.ext)) λe k a8 C N=>⟨_,_,_,_,rfl,?_⟩
  refine new_S C λb9 a9 C=>?_
  (iterate 3 refine boxA λa3 C=>?_)
  refine ⟨λf=>S ψ h f [.box b9 [.int .i64 e.1.Kind,.int .i64 e.1.Size,k],.it (El.ow oL) [k] e.1.Rows,.box u [.int .i64 0,.int .i64 0,(.slice Jh 0 0)]]/\ZtF x e=Jg r,?_,?_⟩
  .exact wX
  .rintro _ f ⟨C,N⟩;exact wX
end
theorem ZI5 {ψ:CM} {j h:Heap} {os:List Ob} {x0:List Zc} {v0:Jl} {f:Zc->Zc->Jm Int} {i:Nat} {g:Jc} {r:List Zc} (N:Zhg x0 f=Jg r) (C:S ψ j h (.it (El.ow Zg) [v0] x0::os)) (u:ctx.okf i=Ji) (k1:∀{h1:Heap},ExtH j h1->∀{ψ1:CM},CLe ψ1 (hcell h1)->∀{k:Zc} {l:Zc} {s:Int},f k l=Jg s->CallsQ True P i (([.agg #[.int .i64 k.A,.int .i64 k.B],.agg #[.int .i64 l.A,.int .i64 l.B]]:Jc)++g).toArray h1 (λv h'=>v=.int .i64 s/\S ψ1 h1 h' [])):CallsH P 336 #[v0,.func (.func i) #[] g.toArray] h (λv h'=>v=.tuple #[]/\S ψ j h' (.it (El.ow Zg) [v0] r::os)):=by
  unfold Zhg at N;split at N
  . rename_i w;obtain rfl:=oI N;obtain ⟨fn,hf,o,y⟩:=ctxOk.fns i u;obtain ⟨c,o⟩:=Option.isSome_iff_exists.1 o;obtain ⟨⟨cf,a2,a5⟩,a3⟩:=w;have a6:(λa c=>(f a c).getD 0)=cf:=by funext a c;rw [a2];rfl
    rw [a6]
    haveI:Inhabited Zc:=⟨(Zc.mk (0:Int) (0:Int))⟩
    exact ZFn (ρ:=Tryz.sortK_ren) (E:=Zg) (enc:=λx=>[.int .i64 x.A,.int .i64 x.B]) Tryz.sortK Tryz.isAgg161 Tryz.sizeOf161 (λ{φ L cs x} h=>⟨(Zrf φ φ L cs x h).1,Zcu h⟩) (λ_ x=>⟨[.int .i64 x.A],[.int .i64 x.B],[],[],rfl,rfl,⟨rfl,rfl⟩,⟨rfl,rfl⟩⟩) rfl a5 C (Go.Proofs.enters_of hf y o) (λe _=>k1 e) a2 a3
  . cases N
theorem ZLX {ψ:CM} {e h:Heap} {os:List Ob} {x0:List Zc} {v0:Jl} {r:List Zc} (N:Zhu x0=Jg r) (C:S ψ e h (.it (El.ow Zg) [v0] x0::os)):CallsH P 337 #[v0] h (λv g=>∃w0,v=w0/\S ψ e g (.it (El.ow Zg) [w0] r::os)):=by
 apply ZL9;unfold Zhu at N;split at N
 case isFalse=>cases N
 rename_i l;exact Zt5 (E:=Zg) Zrf (z:=2) rfl (zero:=[.int .i64 0,.int .i64 0]) rfl (λh p K=>ldI .i64 h p λa=>ldI .i64 h (p.add 1) λb=>K ⟨a,b⟩) (λh p y K=>vStore1 h p (.int .i64 y.A) λh1=>vStore1 h1 (p.add 1) (.int .i64 y.B) K) (λa b=>a.A==b.A&&a.B==b.B) (λx N hi j=>by obtain ⟨cs,f,o⟩:=x.cells N hi rfl;obtain rfl:=Zcu o;exact ldI_K f 0 rfl rfl (ldI_K f 1 rfl rfl j)) (λ{h os v xs k y x0 p K} C i w N j u=>stN_S (cs:=[.int .i64 y.A,.int .i64 y.B]) C i w N j rfl (λ_=>⟨[.int .i64 y.A],[.int .i64 y.B],[],[],rfl,rfl,⟨rfl,rfl⟩,⟨rfl,rfl⟩⟩) u) l N C (R:=λv g=>∃w0,v=w0/\S ψ e g (.it (El.ow Zg) [w0] r::os)) λv g C=>⟨v,rfl,C⟩
section
variable {ψ:CM} {h:Heap} (hψ:CLe ψ (hcell h))
include hψ
theorem ZqC {edges0 v0 r} (N:Zhr edges0=Jg r) (u:sc h Zg v0 edges0):zL 303 #[v0] h ψ Zg r:=by
 refine zT [[3,19,48]] Tryz.func303 λC=>?_;refine vL u C.le ?_;have C:=C.nilO (E:=Zg);refine lw21 N (λv w f=>([.it (El.ow Zg) [v] f],f,w)) λv w a3 f a C N O=>?_;apply brQ N<;>intro N
 .refine ixA slA N λe a4 y hx N=>?_;obtain ⟨cs,ck,hr⟩:=u.cells y hx rfl;obtain rfl:=Zcu hr;refine lsA ?_;refine new_S C λb5 a5 C=>?_
  (iterate 2 refine boxA λa6 C=>?_)
  refine lsA ?_;obtain ⟨a7,i,N⟩:=obind N;refine ZcA C 1 rfl (λ_=>⟨[.int .i64 (if (e.B:Int)<e.A then e.B else e.A)],[.int .i64 (if (e.B:Int)>e.A then e.B else e.A)],[],[],rfl,rfl,⟨rfl,rfl⟩,⟨rfl,rfl⟩⟩) rfl rfl i λa8 a9 C=>?_;exact wX
 .obtain ⟨aa,j,N⟩:=obind N;obtain ⟨φ,L,s,g⟩:=id C;refine (ZI5 j (s.upS g) κ (λab=>λk=>λx  =>ZKv k x )).mono λac ae ⟨eq,t⟩=>⟨eq,?_⟩
  replace C:=s.downS t;clear t s g;obtain ⟨af,l,N⟩:=obind N;refine (ZLX l C ).mono λag ah ⟨ai,o,C⟩=>⟨_,o,?_⟩
  exact endX
omit hψ in
instance k172:Kn 303 (type_of% @ZqC):=⟨@ZqC⟩
theorem ZBD {colors0 v0 edges1 v1 r} (N:ZhT colors0 edges1=Jg r) (e:SlC ψ eI v0 colors0) (u:sc h Zg v1 edges1):CallsH P 240 #[v0,v1] h (λv w=>∃w0 w1,v=.tuple #[.agg #[w0,w1],.int .i64 r.2]/\S ψ h w [.it eL [w0] r.1.Colors,.it (El.ow Zg) [w1] r.1.Edges]):=by
 refine zU [] [[3]] Tryz.func240 λC=>?_;refine new_S C λf i C=>?_;refine ⟨λa=>S ψ h a [.box f [(.slice Jh 0 0),(.slice Jh 0 0)]]/\Ztz colors0 edges1=Jg r,?_,?_⟩
 .exact wX
 .rintro _ a ⟨C,N⟩;refine cm1 N C (λs g=>ZqC s g slA) λj k l C N=>⟨_,rfl,?_⟩
  refine ZD (e.mono C.leF).one ?_;refine ZD oneA ?_
  (iterate 2 refine boxA λo C=>?_)
  refine lsA ?_;have C:=C.arg e;exact endS
theorem Zt3 {y0 v0 y1 r} (N:Zfp y0 y1=Jg r) (f0:sc h eL v0 y0):CallsH P 152 #[v0,.bool y1] h (λv h'=>∃w0 w1,v=.tuple #[.agg #[w0,w1],.int .i64 r.2]/\S ψ h h' [.it eL [w0] r.1.Colors,.it (El.ow Zg) [w1] r.1.Edges]):=by
 refine zU [[8,43,174],[17,61,294],[20,61,318]] [[13,54]] Tryz.func152 λC=>?_;refine new_S C λb4 aj C=>?_;refine cm0 N C (λs hx=>Zpf s hx slA) λak al C N=>⟨_,rfl,?_⟩
 apply brQ N<;>intro N
 .exact wX
 .refine cm0 N C (λs hx=>ZdK s hx slA) λe am C N=>⟨_,rfl,?_⟩
  apply brQ N<;>intro N
  .exact wX
  .have C:=C.nilO (E:=eI);refine lw21 N (λo u k=>([.it oL [o] k,.box b4 [(.slice Jh 0 0),(.slice Jh 0 0)]],k,u)) λo u ao k a C N O=>?_;apply brQ N<;>intro N
   .refine gzA N λN=>?_;refine ⟨λy9 w=>S ψ h w [.it oL [o] k,.box b4 [(.slice Jh 0 0),(.slice Jh 0 0)]]/\Zjm k u y9=Jg a,?_,?_⟩
    .exact wX
    .rintro _ y9 w ⟨C,N⟩;exact wX
   .have C:=C.nilO (E:=Zg);refine lw21 N (λa3 g x=>([.it (El.ow Zg) [a3] x,.it oL [o] k,.box b4 [(.slice Jh 0 0),(.slice Jh 0 0)]],x,g)) λa3 g ae x ap C N O=>?_;apply brQ N<;>intro N
    .refine lw21 N (λl i j=>([.it (El.ow Zg) [l] j,.it oL [o] k,.box b4 [(.slice Jh 0 0),(.slice Jh 0 0)]],j,i)) λl i af j aq C N O=>?_;apply brQ N<;>intro N
     .refine ixV f0 C.le N λar au f N=>?_;refine ixI slA N λy N=>?_;refine ZW (E:=Zg) (css:=[[.int .i64 g,.int .i64 (Y.wrap ((Y.wrap ((Y.wrap (3*e))+(Y.wrap (e*g))))+i))],[.int .i64 (Y.wrap (e+i)),.int .i64 (Y.wrap ((Y.wrap ((Y.wrap (3*e))+(Y.wrap (e*g))))+i))],[.int .i64 (Y.wrap ((Y.wrap (2*e))+y)),.int .i64 (Y.wrap ((Y.wrap ((Y.wrap (3*e))+(Y.wrap (e*g))))+i))]]) (xs:=([(Zc.mk g (Y.wrap ((Y.wrap ((Y.wrap (3*e))+(Y.wrap (e*g))))+i))),(Zc.mk (Y.wrap (e+i)) (Y.wrap ((Y.wrap ((Y.wrap (3*e))+(Y.wrap (e*g))))+i))),(Zc.mk (Y.wrap ((Y.wrap (2*e))+y)) (Y.wrap ((Y.wrap ((Y.wrap (3*e))+(Y.wrap (e*g))))+i)))]:List Zc)) C (λ_=>⟨[],[],rfl,⟨[.int .i64 g],[.int .i64 (Y.wrap ((Y.wrap ((Y.wrap (3*e))+(Y.wrap (e*g))))+i))],[],[],rfl,rfl,⟨rfl,rfl⟩,⟨rfl,rfl⟩⟩,⟨[],[],rfl,⟨[.int .i64 (Y.wrap (e+i))],[.int .i64 (Y.wrap ((Y.wrap ((Y.wrap (3*e))+(Y.wrap (e*g))))+i))],[],[],rfl,rfl,⟨rfl,rfl⟩,⟨rfl,rfl⟩⟩,⟨[],[],rfl,⟨[.int .i64 (Y.wrap ((Y.wrap (2*e))+y))],[.int .i64 (Y.wrap ((Y.wrap ((Y.wrap (3*e))+(Y.wrap (e*g))))+i))],[],[],rfl,rfl,⟨rfl,rfl⟩,⟨rfl,rfl⟩⟩,rfl⟩⟩⟩) rfl rfl λav ag C=>?_;obtain ⟨aw,a5,N⟩:=obind N;refine app_S C 1 rfl (ZdE Zrf slA) rfl rfl a5 λax ah C=>?_;exact wX
     .exact wX
    .have C:=frA 1;refine cl2 N C (λaa ab _ a6=>ZBD aa.fle a6 (frF ab 1 rfl) slA) λay az ac ai C N=>⟨_,_,_,rfl,?_⟩
     exact wX
omit hψ in
instance k173:Kn 152 (type_of% @Zt3):=⟨@Zt3⟩
theorem ZGM {zeros0 a r} (N:Zoh zeros0 a=Jg r)  :zL 304 #[.int .i64 zeros0,.int .i64 a] h ψ eI r:=by
 refine zT [[3,36]] Tryz.func304 λC=>?_;exact wX
theorem Zzu {points0 g v1 r} (N:Zjs points0 g=Jg r) (w:sc h eL v1 g):CallsH P 241 #[.int .i64 points0,v1] h (λv h'=>∃w0 w1,v=.tuple #[.agg #[w0,w1],.int .i64 r.2]/\S ψ h h' [.it eL [w0] r.1.Colors,.it (El.ow Zg) [w1] r.1.Edges]):=by
 refine zT [[3,37,78],[6,37,120]] Tryz.func241 λC=>?_;refine new_S C λx a6 C=>?_;refine vL w C.le ?_;have C:=C.nilO (E:=Zg);refine lw21 N (λy i ao=>([.it (El.ow Zg) [y] ao,.box x [(.slice Jh 0 0),(.slice Jh 0 0)]],ao,i)) λy i a7 ao a C N O=>?_;apply brQ N<;>intro N
 .refine ixV w C.le N λa8 a9 f N=>?_;refine vL f C.le ?_;refine lw21 N (λj k e=>([.it (El.ow Zg) [j] e,.box x [(.slice Jh 0 0),(.slice Jh 0 0)]],e,k)) λj k aa e ab C N O=>?_;apply brQ N<;>intro N
  .refine ixI slA N λa2 N=>?_;obtain ⟨ac,l,N⟩:=obind N;refine ZcA C 0 rfl (λ_=>⟨[.int .i64 a2],[.int .i64 (Y.wrap (points0+i))],[],[],rfl,rfl,⟨rfl,rfl⟩,⟨rfl,rfl⟩⟩) rfl rfl l λad ae C=>?_;exact wX
  .exact wX
 .refine cm0 N C (λs o=>ZdK s o slA) λaf ag C N=>⟨_,rfl,?_⟩
  refine cm1 N C (λs o=>ZGM s o) λah ai aj C N=>⟨_,rfl,?_⟩
  have C:=frA 0;refine cl2 N C (λa3 a4 _ u=>ZBD a3.fle u (frF a4 0 rfl) slA) λak al a5 am C N=>⟨_,_,_,rfl,?_⟩
  exact wX
omit hψ in
instance k174:Kn 241 (type_of% @Zzu):=⟨@Zzu⟩
theorem Zvf {e a r} (N:ZqO e=Jg r) (f:sc h eL a e.Blocks):CallsH P 153 #[.agg #[.int .i64 e.Points,a]] h (λv g=>∃w0 w1,v=.tuple #[.agg #[w0,w1],.int .i64 r.2]/\S ψ h g [.it eL [w0] r.1.Colors,.it (El.ow Zg) [w1] r.1.Edges]):=by
 refine zO Tryz.func153 λC=>?_;exact wX
omit hψ in
instance k175:Kn 153 (type_of% @Zvf):=⟨@Zvf⟩
theorem Zxv {e g i j k l v1 messag2 v2 r} (N:Znj e l messag2=Jg r) (u:sc h eL g e.qadd) (v:sc h eL i e.qsub) (w:sc h eL j e.qmul) (x:sc h eI k e.qinv) (f1:sc h eL v1 l) (f2:sc h eI v2 messag2):zL 305 #[.agg #[.int .i64 e.qq,g,i,j,k],v1,v2] h ψ eI r:=by
 refine zT [[3,102]] Tryz.func305 λC=>?_;refine new_S C λb3 a9 C=>?_;refine ixV f1 C.le N λaa ab f N=>?_;refine vL f C.le ?_;refine mkO eI N λac a4 ad C N=>?_;refine vL f2 C.le ?_;refine lw11 N (λo xs=>([.it oL [a4] xs,.box b3 [.int .i64 e.qq,g,i,j,k]],o,xs)) λo ae xs a C N O=>?_;apply brQ N<;>intro N
 .refine ixI slA N λaf N=>?_;refine lsA ?_;refine ixV f1 C.le N λag ah a5 N=>?_;obtain ⟨ai,y,N⟩:=obind N;obtain ⟨φ,L,s,a6⟩:=id C;refine (ZFM y (s.upS a6) (u.mono s.ubH) (v.mono s.ubH) (w.mono s.ubH) (x.mono s.ubH) (a5.mono s.ubH)).mono λaj ak ⟨eq,t⟩=>⟨eq,?_⟩
  replace C:=s.downS t;exact wX
 .exact wX
omit hψ in
instance k176:Kn 305 (type_of% @Zxv):=⟨@Zxv⟩
end
theorem ZF3 {ψ:CM} {a h:Heap} {os:List Ob} {e:Jb} {v0:Jl} {r:Jb} (N:ZkI e=Jg r) (C:S ψ a h (.it oL [v0] e::os))  :CallsH P 338 #[v0] h (λv g=>v=.tuple #[]/\S ψ a g (.it oL [v0] r::os)):=by
 refine zv ⟨an [[1,12,18]],[],[],[(3,⟨[],.fin (rgs [(0,2),(4,10),(2,2),(14,2)]),false⟩)]⟩ Tryz.func338 ?_;exact wX
section
variable {ψ:CM} {h:Heap} (hψ:CLe ψ (hcell h))
include hψ
theorem ZJr {n0 a count2 r} (N:ZjY n0 a count2=Jg r)  :zL 306 #[.int .i64 n0,.int .i64 a,.int .i64 count2] h ψ eI r:=by
 refine zO Tryz.func306 λC=>?_;refine cm1 N C (λs k=>Zs6 s k) λo u v C N=>⟨_,rfl,?_⟩
 obtain ⟨w,f,N⟩:=obind N;obtain ⟨l,x,e,i⟩:=id C;refine (ZF3 f (e.upS i) ).mono λy a2 ⟨g,j⟩=>⟨g,?_⟩
 replace C:=e.downS j;exact wX
theorem ZJ3 {f g i r} (N:ZmW f=Jg r) (a5:sc h eI g f.Field.Poly) (a6:sc h eL i f.Rows):zL 242 #[.agg #[.int .i64 f.Field.Prime,.int .i64 f.Field.Degree,g,i]] h ψ oL r:=by
 refine zS hψ ⟨an [[5,31,102]],[],[],[(7,⟨kdL [0,2,0,2,0,0,1,0,3,4,4,4,0],.fin [4,5,6,7,8,1,2,3,9,10,0,11,12],Ji⟩)]⟩ Tryz.func242 λC=>?_;refine new_S C λb1 ac C=>?_;refine lsA ?_;obtain ⟨k,l,N⟩:=obind N;obtain ⟨φ,L,s,w⟩:=id C;refine (ZAB s.fle l slA).mono λad ae ⟨v9,o,u,v,eq,t⟩=>⟨_,_,_,_,_,eq,?_⟩
 replace C:=join4 s w t;clear t s w;refine new_S C λb3 af C=>?_
 (iterate 5 refine boxA λag C=>?_)
 refine bV C 5 3 ?_;refine cm0 N C (λs l=>ZdK s l slA) λah a9 C N=>⟨_,rfl,?_⟩
 refine bI C 0 0 ?_;refine cm0 N C (λs l=>ZpP s l) λai aa C N=>⟨_,rfl,?_⟩
 have C:=C.nilO (E:=oL);refine lw21 N (λv5 x a3=>([.it (El.ow oL) [v5] a3,.box b3 [.int .i64 k.qq,v9,o,u,v],.it (El.ow oL) [v9] k.qadd,.it (El.ow oL) [o] k.qsub,.it (El.ow oL) [u] k.qmul,.it oL [v] k.qinv,.box b1 [.int .i64 f.Field.Prime,.int .i64 f.Field.Degree,g,i]],a3,x)) λv5 x y a3 a C N O=>?_;apply brQ N<;>intro N
 .refine ⟨λ_=>False,?_⟩;have e:=C;have j:=eX y;refine bI C 1 0 ?_;obtain ⟨aj,a2,N⟩:=obind N;refine ce1 C (λs=>ZJr s.fle a2) λak ab xE C=>⟨_,rfl,eZ (j.trans xE),?_⟩
  replace j:=j.trans xE;refine Z9 ?_;refine ldI_K (e.cells 1 rfl) 0 rfl rfl ?_;refine Z8 ?_;refine ldV_K (e.cells 1 rfl) 1 rfl rfl ?_;refine Z8 ?_;refine ldV_K (e.cells 1 rfl) 2 rfl rfl ?_;refine Z8 ?_;refine ldV_K (e.cells 1 rfl) 3 rfl rfl ?_;refine Z8 ?_;refine ldV_K (e.cells 1 rfl) 4 rfl rfl ?_;refine Z8 ?_;refine ldV_K (e.cells 6 rfl) 3 rfl rfl ?_;exact wX
 .exact wX
theorem Zvz {a v0 r} (N:Zlo a=Jg r) (e:sc h eI v0 a):zL 243 #[v0] h ψ eI r:=by
 refine zT [[3,19,48]] Tryz.func243 λC=>?_;refine vL e C.le ?_;have C:=C.nilO (E:=eI);exact wX
omit hψ in
instance k177:Kn 243 (type_of% @Zvz):=⟨@Zvz⟩
theorem Zya {a e f r} (N:Zsw a=Jg r) (g:sc h eI e a.Field.Poly) (i:sc h eL f a.Rows):zR 244 #[.agg #[.int .i64 a.Field.Prime,.int .i64 a.Field.Degree,e,f]] h ψ (.int .i64 r):=by
 refine zO Tryz.func244 λC=>?_;exact wX
omit hψ in
instance k178:Kn 244 (type_of% @Zya):=⟨@Zya⟩
theorem ZwI {a e f r} (N:ZjF a=Jg r) (j:sc h eI e a.Field.Poly) (k:sc h eL f a.Rows):CallsH P 154 #[.agg #[.int .i64 a.Field.Prime,.int .i64 a.Field.Degree,e,f]] h (λv h'=>∃w0 w1,v=.tuple #[.agg #[w0,w1],.int .i64 r.2]/\S ψ h h' [.it eL [w0] r.1.Colors,.it (El.ow Zg) [w1] r.1.Edges]):=by
 refine zT [[7,25,120]] Tryz.func154 λC=>?_;refine new_S C λb1 o C=>?_;refine new_S C λb2 u C=>?_;refine lsA ?_;refine cm0 N C (λs g=>ZrX s g slA slA) λr8 w C N=>⟨_,rfl,?_⟩
 apply brQ N<;>intro N
 .exact wX
 .refine lsA ?_;refine cm0 N C (λs g=>ZgI s g slA) λx y C N=>⟨_,rfl,?_⟩
  apply brQ N<;>intro N
  .exact wX
  .refine lsA ?_;refine cm1 N C (λs g=>ZJ3 s g slA slA) λa2 a3 l C N=>⟨_,rfl,?_⟩
   have C:=frA 0;obtain ⟨a4,i,N⟩:=obind N;refine ZFt (Jg 1) Jh C 0 rfl i rfl λa5 C=>?_;refine ZF slA ?_;have C:=C.nilO (E:=oL);exact wX
omit hψ in
instance k179:Kn 154 (type_of% @ZwI):=⟨@ZwI⟩
theorem Zxg {f e a r} (N:ZrF f a=Jg r) (g:sc h eL e f.Rows):zR 245 #[.agg #[.int .i64 f.Kind,.int .i64 f.Size,e],.int .i64 a] h ψ (.int .i64 r):=by
 refine zO Tryz.func245 λC=>?_;exact wX
omit hψ in
instance k180:Kn 245 (type_of% @Zxg):=⟨@Zxg⟩
theorem ZHi {e a r} (N:ZsQ e=Jg r) (f:sc h eL a e.Rows):CallsH P 155 #[.agg #[.int .i64 e.Kind,.int .i64 e.Size,a]] h (λv g=>∃w0 w1,v=.tuple #[.agg #[w0,w1],.int .i64 r.2]/\S ψ h g [.it oL [w0] r.1.Colors,.it (El.ow Zg) [w1] r.1.Edges]):=by
 refine zO Tryz.func155 λC=>?_;exact wX
theorem ZOg {e a r} (N:Zdm e=Jg r) (g:sc h eL a e.Rows):CallsH P 76 #[.agg #[.int .i64 e.Kind,.int .i64 e.Size,a]] h (λv h'=>∃w0 w1,v=.tuple #[.agg #[w0,w1],.int .i64 r.2]/\S ψ h h' [.it eL [w0] r.1.Colors,.it (El.ow Zg) [w1] r.1.Edges]):=by
 refine zO Tryz.func76 λC=>?_;refine new_S C λx l C=>?_;refine new_S C λy o C=>?_;refine bI C 1 0 ?_;apply brQ N<;>intro N
 .exact wX
 .apply brQ N<;>intro N
  .exact wX
  .apply brQ N<;>intro N
   .exact wX
   .apply brQ N<;>intro N
    .refine lsA ?_;refine cm2 N C (λs i=>ZHi s i slA) λu w f j C N=>⟨_,_,_,rfl,?_⟩
     (iterate 2 refine boxA λk C=>?_)
     refine lsA ?_;have C:=frA 0;exact endS
    .exact wX
theorem ZOH {v e f r} (N:ZmV v=Jg r) (w:sc h eI e v.Colors) (i:sc h Zg f v.Edges):zL 307 #[.agg #[e,f]] h ψ oL r:=by
 refine zS hψ ⟨an [[3,90],[9,288]],[],[],[(5,⟨kdL [0,0,2,0,0,2,0,2,0,1,3,3,0,4],.fin [8,9,10,3,4,5,6,7,11,0,1,2,12,13],Ji⟩),(6,⟨kdL [0,0,2,0,0,2,0,2,0,1,3,3,0,4],.fin [8,9,10,3,4,5,6,7,11,0,1,2,12,13],Ji⟩)]⟩ Tryz.func307 λC=>?_;refine new_S C λb1 ac C=>?_;refine bV C 0 0 ?_;refine vL w C.le ?_;refine mkO oL N λae k af C N=>?_;refine bV C 1 1 ?_;refine vL i C.le ?_;refine lw11 N (λl xs=>([.it (El.ow oL) [k] xs,.box b1 [e,f]],l,xs)) λl ag xs a C N O=>?_;apply brQ N<;>intro N
 .refine ixA slA N λah ai ad x N=>?_;obtain ⟨cs,ck,hr⟩:=i.cells ad x rfl;obtain rfl:=Zcu hr;refine lsA ?_;refine new_S C λb5 aj C=>?_
  (iterate 2 refine boxA λak C=>?_)
  obtain ⟨al,y,N⟩:=obind N;obtain ⟨am,a2,N⟩:=obind N;refine Zx3 C 1 0 rfl rfl rfl rfl rfl rfl y a2 λao C=>?_;dsimp at C;obtain ⟨ap,a3,N⟩:=obind N;obtain ⟨aq,a4,N⟩:=obind N;refine Zx3 C 1 0 rfl rfl rfl rfl rfl rfl a3 a4 λar C=>?_;exact wX
 .refine ZF slA ?_;refine lw11 N (λo g=>([.it (El.ow oL) [k] g,.box b1 [e,f]],o,g)) λo a9 g au C N O=>?_;apply brQ N<;>intro N
  .refine ixA slA N λav aw a5 j N=>?_;refine Za9 C 0 rfl a5 j λax hd=>?_;have C:=foc_S C 0 rfl hd j;dsimp at C;obtain ⟨ay,a6,N⟩:=obind N;obtain ⟨φ,L,s,u⟩:=id C;refine (ZnA a6 (s.upS u) ).mono λaz ab ⟨eq,t⟩=>⟨eq,?_⟩
   replace C:=s.downS t;clear t s u;have C:=unf_S C 0 rfl;exact wX
  .exact wX
theorem ZER {a0 v0 r} (N:ZmE a0=Jg r) (a:SlC ψ eL v0 a0):zL 363 #[v0] h ψ eL r:=by
 refine zO Tryz.func363 λC=>?_;refine ZAY (a.mono hψ) (λf e=>?_) ?_
 .subst e;exact wX
 .have C:=C.arg a;refine ZW (E:=eL) (css:=[]) (xs:=[]) C (λ_=>rfl) rfl rfl λv1 h1 C=>?_;refine app_S C 0 rfl (Znu 1 rfl) rfl rfl N λg i C=>?_;exact endR
end
theorem ZIj {ψ:CM} {u h:Heap} {os:List Ob} {x0:Ja} {v0:Jl} {i:Jb->Jb->Jm Bool} {o:Nat} {w:Jc} {r:Ja} (N:Zh8 x0 i=Jg r) (C:S ψ u h (.it (El.ow eL) [v0] x0::os)) (o1:ctx.okf o=Ji) (k1:∀{h1:Heap},ExtH u h1->∀{ψ1:CM},CLe ψ1 (hcell h1)->∀{y0:Jb} {a2:Jl} {y1:Jb} {a3:Jl} {r1:Bool},i y0 y1=Jg r1->SlC (hcell h1) eI a2 y0->SlC (hcell h1) eI a3 y1->CallsH P o (([a2,a3]:Jc)++w).toArray h1 (λv h'=>v=.bool r1/\S ψ1 h1 h' [])):CallsH P 364 #[v0,.func (.func o) #[] w.toArray] h (λv h'=>∃w0,v=w0/\S ψ u h' (.it (El.ow eL) [w0] r::os)):=by
  apply ZM4;unfold Zh8 at N;split at N
  case isFalse=>cases N
  rename_i cd;have frz:Frz eL eL:=Zah _;have ap:∀{k:Nat} {x:Jb} {ys:Ja},ys[k]?=Jg x->gIdx ys (k:Int)=Jg x:=λh=>by unfold gIdx;rw [if_pos Z,Jp];exact h
  have w1:∀{k:Nat},k<Jk x0->Y.wrap ((k:Int)+1)=((k+1:Nat):Int):=λh=>by rw [Zap Z Z];omega
  have w2:∀{k:Nat},k+1<=Jk x0->Y.wrap (((k+1:Nat):Int)-1)=(k:Int):=λh=>by rw [Zap Z Z];omega
  refine ZF slA ?_;refine ZfU (λf=>?_) (λf=>?_)
  . have hl:Jk x0<2:=by have:=of_decide_eq_true f;omega
    have hr:r=x0:=by
      cases x0 with
      | nil=>exact (oI N).symm
      | cons a t=>
        cases t with
        | nil=>exact (oI N).symm
        | cons b t=>simp at hl;omega
    subst hr;exact ⟨v0,rfl,C⟩
  . have hl:2<=Jk x0:=by have:=of_decide_eq_false f;omega
    refine ⟨λn x5 ah=>S ψ u ah (.it (El.ow eL) [v0] x0::os)/\∃k p q,x5=((k+1:Nat):Int)/\k+1+n=Jk x0/\x0[k]?=Jg p/\cpt i p (x0.drop (k+1))=Jg q/\r=x0.take (k+1)++q,⟨Jk x0-1,C,?_⟩,?_⟩
    . cases x0 with
      | nil=>simp at hl
      | cons a t=>
        have N:(cpt i a t).map (a::·)=Jg r:=N;cases g:cpt i a t with
        | none=>rw [g] at N;cases N
        | some q=>rw [g] at N;exact ⟨0,a,q,rfl,by simp;omega,rfl,by simpa using g,by simpa using (oI N).symm⟩
    . rintro n _ x5 ah ⟨C,k,p,q,rfl,ce,ai,g,hr⟩;refine ZF slA ?_;refine ZfU (λf=>?_) (λf=>?_)
      . have hk:k+1<Jk x0:=by have:=of_decide_eq_true f;omega
        obtain ⟨y,hy⟩:=Zbs (xs:=x0) (k:=k+1) hk;obtain ⟨b,l,f1,f2,f3⟩:=ZlQ (Zn1 hy) g;refine ZS slA (ap hy) λb3 ad=>?_;refine ldV_C slA (CLe.refl _) ad (ap hy) λaq a7=>?_;simp only [w2 (k:=k) Z];refine ZS slA (ap ai) λb4 a8=>?_;refine ldV_C slA (CLe.refl _) a8 (ap ai) λar a9=>?_;refine Zb9 o1 ?_;obtain ⟨φ,L,s,q0⟩:=id C;refine (k1 C.ext s.fle f1 a7 a9).mono λv b5 ⟨e,t⟩=>⟨_,e,?_⟩
        replace C:=join0 s q0 t;clear t s q0;cases b with
        | false=>
          refine Zok rfl ?_;refine ⟨n-1,by omega,C,k+1,y,l,w1 hk,by omega,hy,f2,?_⟩;rw [hr,f3,Zmy hy];simp
        | true=>
          refine Zlv rfl ?_;have hg:gSl x0 ((k+1:Nat):Int) (Jk x0:Int)=Jg (x0.drop (k+1)):=by
            unfold gSl;rw [if_pos ⟨by omega,by omega,by omega⟩,Jp,Jp,Jx]
          refine ZeB (Jg ((k+1:Nat):Int)) Jh slA hg λab hv=>?_;simp only [Option.getD_some,Option.getD_none,Jp] at hv;have av:r=x0.take (k+1)++l:=by rw [hr,f3];rfl
          refine ⟨λn3 x5 x7 ac=>∃ys,S ψ u ac (.it (El.ow eL) [v0] ys::os)/\∃k' k2 p q,x5=((k':Nat):Int)/\x7=((k2+1:Nat):Int)/\k+1+k2+1+n3=Jk x0/\(Jk ys)=Jk x0/\k'<=k+1+k2/\x0[k+1+k2]?=Jg p/\(∀j,k+1+k2<=j->ys[j]?=x0[j]?)/\cpt i p (x0.drop (k+1+k2+1))=Jg q/\r=ys.take k'++q,
            ⟨Jk x0-(k+2),x0,C,k+1,0,y,l,rfl,rfl,by omega,rfl,by omega,hy,λ_ _=>rfl,f2,av⟩,?_⟩
          rintro n3 _ x5 x7 ac ⟨ys,C,k',k2,p,q,rfl,rfl,b6,ak,cf,ai,ag,g,hr⟩;have ax:gSl ys ((k+1:Nat):Int) (Jk ys:Int)=Jg (ys.drop (k+1)):=by
            unfold gSl;rw [if_pos ⟨by omega,by omega,by omega⟩,Jp,Jp,Jx]
          have al:IsView v0 1 (((k+1:Nat):Int)).toNat ((Jk ys:Int)).toNat ab:=by rw [ak];exact hv
          have fv:SlC (hcell ac) eL ab (ys.drop (k+1)):=al.C slA ax rfl;refine ZF fv ?_;refine ZfU (λf=>?_) (λf=>?_)
          . have ae:k+1+k2+1<Jk x0:=by
              have:=of_decide_eq_true f;rw [JO] at this;omega
            obtain ⟨y,hy⟩:=Zbs (xs:=x0) (k:=k+1+k2+1) ae;obtain ⟨b,l,f1,f2,f3⟩:=ZlQ (Zn1 hy) g;have o:(ys.drop (k+1))[k2+1]?=Jg y:=by rw [XE,show k+1+(k2+1)=k+1+k2+1 by omega,ag _ Z];exact hy
            have g2:(ys.drop (k+1))[k2]?=Jg p:=by rw [XE,ag _ Z];exact ai
            refine ZS fv (ap o) λb7 ad=>?_;refine ldV_C fv (CLe.refl _) ad (ap o) λaq a7=>?_;simp only [w2 (k:=k2) Z];refine ZS fv (ap g2) λb8 a8=>?_;refine ldV_C fv (CLe.refl _) a8 (ap g2) λar a9=>?_;refine Zb9 o1 ?_;obtain ⟨φ,L,s,q0⟩:=id C;refine (k1 C.ext s.fle f1 a7 a9).mono λv ay ⟨e,t⟩=>⟨_,e,?_⟩
            replace C:=join0 s q0 t;clear t s q0;have fv:SlC (hcell ay) eL ab (ys.drop (k+1)):=al.C slA ax rfl;cases b with
            | false=>
              refine Zlv rfl ?_;refine ZS fv (ap o) λaz b0=>?_;have b1:AddrOf v0 (((k+1:Nat):Int)+((k2+1:Nat):Int)) 1 az:=al.addr b0 Z (by rw [Jp,Jp,Jp];omega);have bx:gIdx ys (((k+1:Nat):Int)+((k2+1:Nat):Int))=Jg y:=by
                rw [show ((k+1:Nat):Int)+((k2+1:Nat):Int)=((k+1+k2+1:Nat):Int) by omega];exact ap (by rw [ag _ Z];exact hy)
              refine Zbk C 0 rfl b1 bx λb9 C=>?_;obtain ⟨z,hz⟩:=Zbs (xs:=ys) (k:=k') Z;refine ZS slA (ap hz) λba b2=>?_;refine ZiG C 0 rfl b2 (ap hz) rfl λbb C=>?_;dsimp only [Yh] at C;rw [Jp] at C;refine ⟨n3-1,by omega,_,C,k'+1,k2+1,y,l,w1 Z,w1 Z,by omega,by rw [List.length_set];exact ak,by omega,hy,λj hj=>?_,f2,?_⟩
              . rw [Xo Z];exact ag j Z
              . rw [hr,f3,Zmy (y:=y) (Xe Z),List.take_set_of_le (Nat.le_refl _)];simp
            | true=>
              refine Zok rfl ?_;exact ⟨n3-1,by omega,ys,C,k',k2+1,y,l,rfl,w1 Z,by omega,ak,by omega,hy,λj hj=>ag j Z,f2,by rw [hr,f3];rfl⟩
          . have ae:k+1+k2+1=Jk x0:=by
              have:=of_decide_eq_false f;rw [JO] at this;omega
            have af:q=[]:=by
              rw [ae,Yi] at g;exact (oI g).symm
            refine ZDS ZgT C 0 rfl rfl rfl Z Z λv' h' C=>?_;dsimp only [Yh] at C;rw [Jp] at C;rw [hr,af,JL];exact ⟨v',rfl,C⟩
      . have hk:k+1=Jk x0:=by have:=of_decide_eq_false f;omega
        have af:q=[]:=by
          rw [hk,Yi] at g;exact (oI g).symm
        rw [hr,af,hk,Jx,JL];exact ⟨v0,rfl,C⟩
section
variable {ψ:CM} {h:Heap} (hψ:CLe ψ (hcell h))
include hψ
theorem ZEB {y0 v0 y1 v1 r} (N:ZkA y0 y1=Jg r) (f0:sc h eL v0 y0) (f1:sc h eI v1 y1):zL 342 #[v0,v1] h ψ eI r:=by
 refine zT [[3,132],[7,49,192],[19,390]] Tryz.func342 λC=>?_;refine vL f1 C.le ?_;refine mkO oL N λb3 l b4 C N=>?_;refine vL f1 C.le ?_;refine lw11 N (λa2 xs=>([.it (El.ow oL) [l] xs],a2,xs)) λa2 b5 xs a C N O=>?_;apply brQ N<;>intro N
 .refine ixI slA N λa3 N=>?_;refine ixV f0 C.le N λb6 b7 f N=>?_;refine vL f C.le ?_;have C:=C.nilO (E:=eI);refine lw21 N (λv8 a4 y8=>([.it oL [v8] y8,.it (El.ow oL) [l] xs],y8,a4)) λv8 a4 b8 y8 b9 C N O=>?_;apply brQ N<;>intro N
  .exact wX
  .obtain ⟨ba,ac,N⟩:=obind N;obtain ⟨φ,L,s,a5⟩:=id C;refine (ZnA ac (s.upS a5) ).mono λbb bc ⟨eq,t⟩=>⟨eq,?_⟩
   replace C:=s.downS t;clear t s a5;refine ZW (E:=eI) (css:=[[.int .i64 a3]]) (xs:=([a3]:Jb)) C (λ_=>⟨[],[],rfl,⟨rfl,rfl⟩,rfl⟩) rfl rfl λbd be C=>?_;obtain ⟨bf,ad,N⟩:=obind N;refine app_S C 0 rfl (ZdE (Zcy _) slA) rfl rfl ad λbg bh C=>?_;dsimp at C;refine ixA slA N λbi bj ae af N=>?_;refine ZiG C 1 rfl ae af rfl λbk C=>?_;exact wX
 .have C:=frA 0;refine cl1 N C (λam ao _ u=>ZER am.fle u (frF ao 0 rfl)) λbm bn aw C N=>⟨_,rfl,?_⟩
  obtain ⟨bo,v,N⟩:=obind N;obtain ⟨ax,bp,o,a6⟩:=id C;refine (Zw8 v (o.upS a6) κ (λa7=>λe=>λg i j=>ZzE e g i j)).mono λbq ay ⟨ag,a8⟩=>⟨ag,?_⟩
  replace C:=o.downS a8;clear a8 o a6;obtain ⟨ap,w,N⟩:=obind N;refine (ZIj w C κ (λa7=>λe=>λg i j=>Zt2 e g i j)).mono λbr az ⟨aq,ah,C⟩=>⟨_,ah,?_⟩
  refine vL f1 C.le ?_;refine mkO eI N λbs ar b0 C N=>?_;refine ZF slA ?_;refine lw11 N (λa9 k=>([.it oL [ar] k,.it (El.ow eL) [aq] ap,.it (El.sl eL) [l] xs],a9,k)) λa9 b1 k bt C N O=>?_;apply brQ N<;>intro N
  .refine ixA slA N λbu bv ai x N=>?_;refine ZFs C 2 rfl ai x λbw C=>?_;refine cl0 N C (λau _ _ y=>Zvv au.fle y slA slA κ (λa7=>λe=>λg i j=>Zfa e g i j)) λbx b2 C N=>⟨_,_,rfl,?_⟩
   exact wX
  .exact wX
end
theorem ZMK {ψ:CM} {e h:Heap} {os:List Ob} {x0:Jb} {v0:Jl} {r:Jb} (N:ZmP x0=Jg r) (C:S ψ e h (.it oL [v0] x0::os)):CallsH P 365 #[v0] h (λv g=>∃w0,v=w0/\S ψ e g (.it oL [w0] r::os)):=by
 apply ZID;unfold ZmP at N;split at N
 case isFalse=>cases N
 rename_i k;exact Zt5 (E:=eI) (Zcy _) (z:=1) rfl (zero:=[.int .i64 0]) rfl (λh p K=>ldI .i64 h p K) (λh p y K=>vStore1 h p (.int .i64 y) K) (λa b=>a==b) (λu N hi j=>ldI_C u N hi j) (λC i o N j l=>st1_S C i o N j rfl (λ_=>⟨rfl,rfl⟩) l) k N C (R:=λv g=>∃w0,v=w0/\S ψ e g (.it oL [w0] r::os)) λv g C=>⟨v,rfl,C⟩
section
variable {ψ:CM} {h:Heap} (hψ:CLe ψ (hcell h))
include hψ
theorem ZtR {cells0 v0 r} (N:Zh1 cells0=Jg r) (f0:sc h eI v0 cells0):zR 343 #[v0] h ψ (.int .i64 r):=by
 refine zO Tryz.func343 λC=>?_;refine cm1 N C (λs l=>Zha s l slA) λr5 v5 u C N=>⟨_,rfl,?_⟩
 obtain ⟨r7,g,N⟩:=obind N;obtain ⟨o,v,a,e⟩:=id C;refine (ZnA g (a.upS e) ).mono λw x ⟨i,f⟩=>⟨i,?_⟩
 replace C:=a.downS f;clear f a e;obtain ⟨r9,j,N⟩:=obind N;refine (ZMK j C ).mono λy a2 ⟨v9,k,C⟩=>⟨_,k,?_⟩
 exact wX
theorem ZDG {lists0 v0 cells1 v1 r} (N:ZjJ lists0 cells1=Jg r) (w:sc h eL v0 lists0) (i:SlC ψ eI v1 cells1):zL 309 #[v0,v1] h ψ eI r:=by
 refine zT [[1,7]] Tryz.func309 λC=>?_;have C:=C.arg i;refine lw11 N (λf e=>([.it eL [f] e],e)) λf j e a C N O=>?_;refine cm1 N C (λs g=>ZEB s g slA slA) λr8 x k C N=>⟨_,rfl,?_⟩
 refine cm0 N C (λs g=>ZtR s g slA) λl o C N=>⟨_,rfl,?_⟩
 refine cm0 N C (λs g=>ZtR s g slA) λu v C N=>⟨_,rfl,?_⟩
 apply brQ N<;>intro N
 .exact wX
 .have C:=frA 0;exact endL
theorem ZFc {cells0 v0 r} (N:ZkE cells0=Jg r) (e:sc h eI v0 cells0):zL 339 #[v0] h ψ eI r:=by
 refine zT [[2,54],[6,25,84]] Tryz.func339 λC=>?_;refine vL e C.le ?_;refine lp1 N (nlS C) λm g f a C N O=>?_;apply brQ N<;>intro N
 .refine vL e C.le ?_;have C:=C.nilO (E:=eI);exact wX
 .exact wX
theorem ZK1 {x e f p1 v1 r} (N:ZiA x p1=Jg r) (k:sc h eI e x.Colors) (l:sc h Zg f x.Edges) (f1:sc h eI v1 p1):CallsH P 361 #[.agg #[e,f],v1] h (λv h'=>∃w0 w1,v=.agg #[w0,w1]/\S ψ h h' [.it oL [w0] r.Colors,.it (El.ow Zg) [w1] r.Edges]):=by
 refine zS hψ ⟨an [[3,108],[8,210]],[],[],[(10,⟨kdL [0,2,0,0,1,0,1,0,0,1,0,1,0,3,4,0,4],.fin (rgs [(2,12),(0,2),(14,3)]),Ji⟩)]⟩ Tryz.func361 λC=>?_;refine new_S C λb2 ae C=>?_;refine new_S C λb4 af C=>?_;refine bV C 1 0 ?_;refine vL k C.le ?_;refine mkO eI N λag j ah C N=>?_;refine ZD oneA ?_;refine new_S C λb5 ai C=>?_
 (iterate 2 refine boxA λaj C=>?_)
 refine bV C 3 0 ?_;refine vL k C.le ?_;refine lw11 N (λu xs=>([.box b5 [j,(.slice Jh 0 0)],.it oL [j] xs,.box b4 [(.slice Jh 0 0),(.slice Jh 0 0)],.box b2 [e,f]],u,xs)) λu ak xs a C N O=>?_;apply brQ N<;>intro N
 .exact wX
 .refine bV C 3 1 ?_;refine vL l C.le ?_;have C:=C.nilO (E:=Zg);refine lw12 N (λw i o=>([.box b5 [j,o],.it oL [j] xs,.box b4 [(.slice Jh 0 0),(.slice Jh 0 0)],.box b2 [e,f],.it (El.ow Zg) [o] i],w,i)) λw aa i o al C N O=>?_;apply brQ N<;>intro N
  .refine ixA slA N λam ao y a2 N=>?_;obtain ⟨cs,ck,hr⟩:=l.cells y a2 rfl;obtain rfl:=Zcu hr;refine lsA ?_;refine new_S C λb9 ab C=>?_
   (iterate 2 refine boxA λa3 C=>?_)
   refine ⟨λ_=>False,?_⟩;have s:=C;have g:=eX a3;refine bI C 0 0 ?_;refine ixI slA N λa8 N=>?_;refine bI C 0 1 ?_;refine ixI slA N λa9 N=>?_;refine ZbL C λap ac xE C=>⟨eZ (g.trans xE),?_⟩
   replace g:=g.trans xE;refine Z8 ?_;refine ldV_K (s.cells 1 rfl) 1 rfl rfl ?_;obtain ⟨aq,a4,N⟩:=obind N;refine Zl5 C 6 rfl 0 rfl (λ_=>⟨[.int .i64 a8],[.int .i64 a9],[],[],rfl,rfl,⟨rfl,rfl⟩,⟨rfl,rfl⟩⟩) rfl rfl a4 λar ad xE C=>?_;exact wX
  .exact wX
theorem Zpa {edges0 v0 r} (N:ZhM edges0=Jg r) (a:sc h Zg v0 edges0):zL 392 #[v0] h ψ eI r:=by
 refine zT [[3,19,48]] Tryz.func392 λC=>?_;refine vL a C.le ?_;have C:=C.nilO (E:=eI);exact wX
omit hψ in
instance k181:Kn 392 (type_of% @Zpa):=⟨@Zpa⟩
theorem ZxS {k e f h1 g i r} (N:Zh5 k h1=Jg r) (u:sc h eI e k.Colors) (v:sc h Zg f k.Edges) (w:sc h eI g h1.Colors) (x:sc h Zg i h1.Edges):zR 362 #[.agg #[e,f],.agg #[g,i]] h ψ (.int .i64 r):=by
 refine zS hψ ⟨[],[],[],[(4,⟨kdL [0,1,3,0,2,4,4,0],.fin (rgs [(0,8)]),Ji⟩)]⟩ Tryz.func362 λC=>?_;refine new_S C λb2 a2 C=>?_;refine new_S C λb3 a3 C=>?_;refine lsA ?_;refine cm0 N C (λs y=>Zfa s y slA slA) λa4 o C N=>⟨_,rfl,?_⟩
 refine brZ λN=>?_;refine ⟨λ_=>False,?_⟩;have j:=C;have a:=eX o;refine bV C 1 1 ?_;obtain ⟨a5,l,N⟩:=obind N;refine ce1 C (λs=>Zpa s.fle l slA) λa6 a7 xE C=>⟨_,rfl,eZ (a.trans xE),?_⟩
 replace a:=a.trans xE;refine Z8 ?_;refine ldV_K (j.cells 0 rfl) 1 rfl rfl ?_;exact wX
omit hψ in
instance k182:Kn 362 (type_of% @ZxS):=⟨@ZxS⟩
end
theorem ZJA {ψ:CM} {l h:Heap} {os:List Ob} {x0:ZI} {x:Nat} {a:Jc} {e:Jl} {f:Jl} {g:Jl} {i:Jl} {j:Jl} {k:Jl} {p1:Jb} {v1:Jl} {r:ZI} (N:ZgN x0 p1=Jg r) (C:S ψ l h (.box x (.int .i64 x0.qcounter.qleft::.bool x0.qcounter.qspent::e::f::g::.int .i64 x0.qnodes::.int .i64 x0.qleaves::i::j::k::a)::.it oL [i] x0.qform.Colors::.it (El.ow Zg) [j] x0.qform.Edges::.it (El.ow eL) [k] x0.qbest::os)) (aa:SlC (UB ψ l) eI e x0.qgraph.Colors) (ab:SlC (UB ψ l) Zg f x0.qgraph.Edges) (ac:SlC (UB ψ l) eL g x0.qlists) (f1:SlC ψ eI v1 p1):CallsH P 340 #[.pointer (Jg ⟨x,0,Jh⟩),v1] h (λv h'=>∃w0 w1 w2,v=.tuple #[]/\S ψ l h' (.box x (.int .i64 r.qcounter.qleft::.bool r.qcounter.qspent::e::f::g::.int .i64 r.qnodes::.int .i64 r.qleaves::w0::w1::w2::a)::.it oL [w0] r.qform.Colors::.it (El.ow Zg) [w1] r.qform.Edges::.it (El.ow eL) [w2] r.qbest::os)):=by
 refine zv ⟨[],an [[5,30],[7]],[],[]⟩ Tryz.func340 ?_;refine bI C 0 6 ?_;refine boxA λaf C=>?_;refine lsA ?_;refine cl2 N C (λs _ _ hx=>ZK1 s.fle hx slA slA (f1.mono C.leF)) λy a5 w ag C N=>⟨_,_,rfl,?_⟩
 refine new_S C λb4 ah C=>?_
 (iterate 2 refine boxA λai C=>?_)
 refine ⟨λc5 a6=>S ψ l a6 (.box b4 [a5,w]::.it oL [a5] y.Colors::.it (El.ow Zg) [w] y.Edges::.box x (.int .i64 x0.qcounter.qleft::.bool x0.qcounter.qspent::e::f::g::.int .i64 x0.qnodes::.int .i64 (Y.wrap (x0.qleaves+1))::i::j::k::a)::.it oL [i] x0.qform.Colors::.it (El.ow Zg) [j] x0.qform.Edges::.it (El.ow eL) [k] x0.qbest::os)/\Zd9 x0 p1 y c5=Jg r,?_,?_⟩
 .exact wX
 .rintro _ c5 a6 ⟨C,N⟩;refine ⟨λa7=>∃xs a2 o a3 u a4,S ψ l a7 (.box x (.int .i64 x0.qcounter.qleft::.bool x0.qcounter.qspent::e::f::g::.int .i64 x0.qnodes::.int .i64 (Y.wrap (x0.qleaves+1))::a2::a3::a4::a)::.it oL [a2] xs::.it (El.ow Zg) [a3] o::.it (El.ow eL) [a4] u::os)/\Zdu x0 p1 c5 xs o u=Jg r,?_,?_⟩
  .exact wX
  .rintro _ a7 ⟨xs,a2,o,a3,u,a4,C,N⟩;apply brQ N<;>intro N
   .refine bV C 0 9 ?_;refine ZD (f1.mono C.leF).one ?_;have C:=C.arg f1;exact wX
   .exact wX
theorem ZHo {ψ:CM} {g h:Heap} {os:List Ob} {e:Zag} {f:Nat} {a:Jc} {r:Bool×Zag} (N:Zmk e=Jg r) (C:S ψ g h (.box f (.int .i64 e.qleft::.bool e.qspent::a)::os))  :CallsH P 341 #[.pointer (Jg ⟨f,0,Jh⟩)] h (λv j=>v=.bool r.1/\S ψ g j (.box f (.int .i64 r.2.qleft::.bool r.2.qspent::a)::os)):=by
 refine zv annO Tryz.func341 ?_;exact wX
theorem rq_impl_explorer_search {a4:ZI->Jb->Jm ZI}  (ad:∀{ψ:CM} {x h:Heap} {os:List Ob} {e:ZI} {b0:Nat} {f:Jc} {g:Jl} {i:Jl} {j:Jl} {y:Jl} {a2:Jl} {a3:Jl} {y1:Jb} {v1:Jl} {r:ZI} (N:a4 e y1=Jg r) (C:S ψ x h (.box b0 (.int .i64 e.qcounter.qleft::.bool e.qcounter.qspent::g::i::j::.int .i64 e.qnodes::.int .i64 e.qleaves::y::a2::a3::f)::.it oL [y] e.qform.Colors::.it (El.ow Zg) [a2] e.qform.Edges::.it (El.ow eL) [a3] e.qbest::os)) (ae:SlC (UB ψ x) eI g e.qgraph.Colors) (af:SlC (UB ψ x) Zg i e.qgraph.Edges) (ag:SlC (UB ψ x) eL j e.qlists) (f1:SlC ψ eI v1 y1),CallsH P 308 #[.pointer (Jg ⟨b0,0,Jh⟩),v1] h (λv h'=>∃w0 w1 w2,v=.tuple #[]/\S ψ x h' (.box b0 (.int .i64 r.qcounter.qleft::.bool r.qcounter.qspent::g::i::j::.int .i64 r.qnodes::.int .i64 r.qleaves::w0::w1::w2::f)::.it oL [w0] r.qform.Colors::.it (El.ow Zg) [w1] r.qform.Edges::.it (El.ow eL) [w2] r.qbest::os))):∀{ψ:CM} {x h:Heap} {os:List Ob} {e:ZI} {b0:Nat} {f:Jc} {g:Jl} {i:Jl} {j:Jl} {y:Jl} {a2:Jl} {a3:Jl} {y1:Jb} {v1:Jl} {r:ZI} (N:q_impl_explorer_search a4 e y1=Jg r) (C:S ψ x h (.box b0 (.int .i64 e.qcounter.qleft::.bool e.qcounter.qspent::g::i::j::.int .i64 e.qnodes::.int .i64 e.qleaves::y::a2::a3::f)::.it oL [y] e.qform.Colors::.it (El.ow Zg) [a2] e.qform.Edges::.it (El.ow eL) [a3] e.qbest::os)) (ae:SlC (UB ψ x) eI g e.qgraph.Colors) (af:SlC (UB ψ x) Zg i e.qgraph.Edges) (ag:SlC (UB ψ x) eL j e.qlists) (f1:SlC ψ eI v1 y1),CallsH P 308 #[.pointer (Jg ⟨b0,0,Jh⟩),v1] h (λv h'=>∃w0 w1 w2,v=.tuple #[]/\S ψ x h' (.box b0 (.int .i64 r.qcounter.qleft::.bool r.qcounter.qspent::g::i::j::.int .i64 r.qnodes::.int .i64 r.qleaves::w0::w1::w2::f)::.it oL [w0] r.qform.Colors::.it (El.ow Zg) [w1] r.qform.Edges::.it (El.ow eL) [w2] r.qbest::os)):=by
 intro ψ x h os e b0 f g i j y a2 a3 y1 v1 r N C ae af ag f1;refine zv ⟨an [[4,120],[10,288]],an [[7]],[],[]⟩ Tryz.func308 ?_;rw [q_impl_explorer_search] at N;refine cl1 N C (λs _ _ hx=>ZFc s.fle hx (f1.mono C.leF)) λa7 a9 bk C N=>⟨_,rfl,?_⟩
 refine ZF slA ?_;apply brQ N<;>intro N
 .have C:S ψ x bk (.box b0 (.int .i64 e.qcounter.qleft::.bool e.qcounter.qspent::g::i::j::.int .i64 e.qnodes::.int .i64 e.qleaves::y::a2::a3::f)::.it oL [y] e.qform.Colors::.it (El.ow Zg) [a2] e.qform.Edges::.it (El.ow eL) [a3] e.qbest::.it oL [a9] a7::os):=pkT C 5 [1,2,3,4,0];obtain ⟨c6,b9,N⟩:=obind N;obtain ⟨bx,c7,a8,ay⟩:=id C;refine (ZJA b9 (a8.upS ay) (ae.mono a8.ubU) (af.mono a8.ubU) (ag.mono a8.ubU) (f1.mono a8.bas)).mono λc8 c9 ⟨bm,au,av,ba,az⟩=>⟨ba,?_⟩
  replace C:=a8.downS az;clear az a8 ay;obtain rfl:=oI N;exact ⟨bm,au,av,rfl,pkT C 5 [0,1,2,3]⟩
 .refine ZF slA ?_;obtain ⟨bn,hn⟩:=ZP N;refine ⟨λn ak am=>∃q al a5 a6 xs k u l w o,S ψ x am (.it oL [a9] a7::.box b0 (.int .i64 q::.bool al::g::i::j::.int .i64 a5::.int .i64 a6::k::l::o::f)::.it oL [k] xs::.it (El.ow Zg) [l] u::.it (El.ow eL) [o] w::os)/\loopN (ZcR a4 e y1 a7) n (ak,q,al,a5,a6,xs,u,w)=Jg r,⟨bn,_,_,_,_,_,_,_,_,_,_,pkT C 5 [0,1,2,3,4],hn⟩,?_⟩;rintro n _ ak am ⟨q,al,a5,a6,xs,k,u,l,w,o,C,hn⟩;obtain ⟨m,a,rfl,N,O⟩:=ZN hn;apply brQ N<;>intro N
  .refine ixI slA N λao N=>?_;refine ⟨λb1=>∃aa ab,S ψ x b1 (.it oL [a9] a7::.box b0 (.int .i64 aa::.bool ab::g::i::j::.int .i64 a5::.int .i64 a6::k::l::o::f)::.it oL [k] xs::.it (El.ow Zg) [l] u::.it (El.ow eL) [o] w::os)/\ZqY a4 e y1 ak a5 a6 xs u w ao aa ab=Jg a,?_,?_⟩
   .refine bB C 1 1 ?_;apply brQ N<;>intro N
    .obtain rfl:=oI N;obtain rfl:=oI O;exact ⟨k,l,o,rfl,pkT C 5 [1,2,3,4]⟩
    .have C:S ψ x am (.box b0 (.int .i64 q::.bool al::g::i::j::.int .i64 a5::.int .i64 a6::k::l::o::f)::.it oL [a9] a7::.it oL [k] xs::.it (El.ow Zg) [l] u::.it (El.ow eL) [o] w::os):=pkT C 5 [1,0,2,3,4];obtain ⟨ca,aw,N⟩:=obind N;obtain ⟨bz,cb,ap,b2⟩:=id C;refine (ZHo aw (ap.upS b2) ).mono λcc c0 ⟨bc,b3⟩=>⟨_,bc,?_⟩
     replace C:=ap.downS b3;clear b3 ap b2;apply brQ N<;>intro N
     .obtain rfl:=oI N;obtain rfl:=oI O;exact ⟨k,l,o,rfl,pkT C 5 [0,2,3,4]⟩
     .exact ⟨_,_,pkT C 5 [1,0,2,3,4],N⟩
   .rintro _ b1 ⟨aa,ab,C,N⟩;refine bI C 1 5 ?_;refine boxA λcd C=>?_;refine vL f1 C.leF ?_;refine mkO eI N λce b4 cf C N=>?_;refine vL f1 C.leF ?_;obtain ⟨bo,aj⟩:=ZP N;refine ⟨λb5 b6 b7=>∃ah,S ψ x b7 (.it oL [b4] ah::.it oL [a9] a7::.box b0 (.int .i64 aa::.bool ab::g::i::j::.int .i64 (Y.wrap (a5+1))::.int .i64 a6::k::l::o::f)::.it oL [k] xs::.it (El.ow Zg) [l] u::.it (El.ow eL) [o] w::os)/\loopN (ZfQ a4 e y1 ak a5 a6 xs u w ao aa ab) b5 (b6,ah)=Jg a,⟨bo,_,pkT C 6 [0,1,2,3,4,5],aj⟩,?_⟩;rintro b5 _ b6 b7 ⟨ah,C,aj⟩;obtain ⟨cg,ch,rfl,N,aq⟩:=ZN aj;apply brQ N<;>intro N
    .refine ixI (f1.mono C.leF) N λcj N=>?_;refine ixA slA N λck cm bd be N=>?_;refine st1_S C 0 rfl bd be rfl (λ_=>⟨rfl,rfl⟩) λcn C=>?_;dsimp at C;obtain rfl:=oI N;exact ⟨_,ltS,_,pkT C 6 [0,1,2,3,4,5],aq⟩
    .refine ixI slA N λbp N=>?_;refine ixA slA N λco cp bf bg N=>?_;refine st1_S C 0 rfl bf bg rfl (λ_=>⟨rfl,rfl⟩) λc3 C=>?_;dsimp at C;refine bV C 2 4 ?_;have C:=frA 0;refine cl1 N C (λbq br _ bh=>ZDG bq.fle bh slA (frF br 0 rfl)) λbs bt bi C N=>⟨_,rfl,?_⟩
     have C:=frA 0;have C:S ψ x bi (.box b0 (.int .i64 aa::.bool ab::g::i::j::.int .i64 (Y.wrap (a5+1))::.int .i64 a6::k::l::o::f)::.it oL [k] xs::.it (El.ow Zg) [l] u::.it (El.ow eL) [o] w::.it eL [bt] bs::.it eL [b4] (ah.set (ao:Int).toNat (Y.wrap (bp-1)))::.it oL [a9] a7::os):=pkT C 7 [3,4,5,6,0,1,2];obtain ⟨cq,ax,N⟩:=obind N;obtain ⟨c4,cr,ac,ar⟩:=id C;refine (ad ax (ac.upS ar) (ae.mono ac.ubU) (af.mono ac.ubU) (ag.mono ac.ubU) (frF ar 4 rfl)).mono λct c5 ⟨cu,bu,bv,bj,b8⟩=>⟨bj,?_⟩
     replace C:=ac.downS b8;clear b8 ac ar;obtain rfl:=oI N;obtain rfl:=oI aq;exact ⟨_,ltS,_,_,_,_,_,_,_,_,_,_,pkT C 7 [6,0,1,2,3],O⟩
  .obtain rfl:=oI N;obtain rfl:=oI O;exact ⟨k,l,o,rfl,pkT C 5 [1,2,3,4]⟩
theorem rn_impl_explorer_search:∀n,(∀{ψ:CM} {j h:Heap} {os:List Ob} {a:ZI} {s:Nat} {i:Jc} {e:Jl} {f:Jl} {g:Jl} {k:Jl} {l:Jl} {o:Jl} {u:Jb} {v1:Jl} {r:ZI} (N:(pn_impl_explorer_search n) a u=Jg r) (C:S ψ j h (.box s (.int .i64 a.qcounter.qleft::.bool a.qcounter.qspent::e::f::g::.int .i64 a.qnodes::.int .i64 a.qleaves::k::l::o::i)::.it oL [k] a.qform.Colors::.it (El.ow Zg) [l] a.qform.Edges::.it (El.ow eL) [o] a.qbest::os)) (w:SlC (UB ψ j) eI e a.qgraph.Colors) (x:SlC (UB ψ j) Zg f a.qgraph.Edges) (y:SlC (UB ψ j) eL g a.qlists) (f1:SlC ψ eI v1 u),CallsH P 308 #[.pointer (Jg ⟨s,0,Jh⟩),v1] h (λv h'=>∃w0 w1 w2,v=.tuple #[]/\S ψ j h' (.box s (.int .i64 r.qcounter.qleft::.bool r.qcounter.qspent::e::f::g::.int .i64 r.qnodes::.int .i64 r.qleaves::w0::w1::w2::i)::.it oL [w0] r.qform.Colors::.it (El.ow Zg) [w1] r.qform.Edges::.it (El.ow eL) [w2] r.qbest::os))):=by
  intro n;induction n with
  | zero=>exact λN=>absurd N (by simp [pn_impl_explorer_search])
  | succ n ih=>exact rq_impl_explorer_search ih
theorem ZFG:∀{ψ:CM} {j h:Heap} {os:List Ob} {a:ZI} {s:Nat} {i:Jc} {e:Jl} {f:Jl} {g:Jl} {k:Jl} {l:Jl} {o:Jl} {u:Jb} {v1:Jl} {r:ZI} (N:Zqe a u=Jg r) (C:S ψ j h (.box s (.int .i64 a.qcounter.qleft::.bool a.qcounter.qspent::e::f::g::.int .i64 a.qnodes::.int .i64 a.qleaves::k::l::o::i)::.it oL [k] a.qform.Colors::.it (El.ow Zg) [l] a.qform.Edges::.it (El.ow eL) [o] a.qbest::os)) (w:SlC (UB ψ j) eI e a.qgraph.Colors) (x:SlC (UB ψ j) Zg f a.qgraph.Edges) (y:SlC (UB ψ j) eL g a.qlists) (f1:SlC ψ eI v1 u),CallsH P 308 #[.pointer (Jg ⟨s,0,Jh⟩),v1] h (λv h'=>∃w0 w1 w2,v=.tuple #[]/\S ψ j h' (.box s (.int .i64 r.qcounter.qleft::.bool r.qcounter.qspent::e::f::g::.int .i64 r.qnodes::.int .i64 r.qleaves::w0::w1::w2::i)::.it oL [w0] r.qform.Colors::.it (El.ow Zg) [w1] r.qform.Edges::.it (El.ow eL) [w2] r.qbest::os)):=(rn_impl_explorer_search fuel)
section
variable {ψ:CM} {h:Heap} (hψ:CLe ψ (hcell h))
include hψ
theorem ZC9 {y e f budget1 r} (N:Zmg y budget1=Jg r) (g:SlC ψ eI e y.Colors) (i:SlC ψ Zg f y.Edges):CallsH P 246 #[.agg #[e,f],.int .i64 budget1] h (λv h'=>match r.1 with|none=>v=.tuple #[.pointer Jh,.int .i64 r.2]/\S ψ h h' []|some d=>∃o w1 w2 w3 w4 w5 w6,v=.tuple #[.pointer (Jg ⟨o,0,Jh⟩),.int .i64 r.2]/\S ψ h h' [.box o [.int .i64 d.qcounter.qleft,.bool d.qcounter.qspent,w1,w2,w3,.int .i64 d.qnodes,.int .i64 d.qleaves,w4,w5,w6],.it oL [w4] d.qform.Colors,.it (El.ow Zg) [w5] d.qform.Edges,.it (El.ow eL) [w6] d.qbest]):=by
 refine zS hψ ⟨[],[],[],[(5,⟨kdL [0,0,2,1,3,0,4,0],.fin [3,4,0,1,2,5,6,7],Ji⟩),(6,⟨[],.fin [1,2,3,4,5,6,7,0,8],false⟩)]⟩ Tryz.func246 λC=>?_;refine new_S C λb2 al C=>?_;refine lsA ?_;refine cl0 N C (λs _ _ hx=>Zk5 s.fle hx (g.mono C.leF) (i.mono C.leF)) λr8 am C N=>⟨_,rfl,?_⟩
 refine brZ λN=>?_;refine cm0 N C (λs hx=>Zr5 s hx) λao aa C N=>⟨_,rfl,?_⟩
 refine brZ λN=>?_;refine ⟨λ_=>False,?_⟩;have k:=C;have j:=eX aa;refine lsA ?_;obtain ⟨ab,a3,N⟩:=obind N;refine ce1 C (λs=>ZOH s.fle a3 (g.mono C.leF) (i.mono C.leF)) λu ap xE C=>⟨_,rfl,eZ (j.trans xE),?_⟩
 replace j:=j.trans xE;refine Z8 ?_;refine ldV_K (k.cells 0 rfl) 0 rfl rfl ?_;refine Z8 ?_;refine ldV_K (k.cells 0 rfl) 1 rfl rfl ?_;refine ZD oneA ?_;refine new_S C λac aq C=>?_;refine lsA ?_;refine cl1 N C (λw _ _ a4=>ZDG w.fle a4 slA (g.mono w.bas)) λad ae af C N=>⟨_,rfl,?_⟩
 have C:=frA 2;have C:=frA 0;have C:=C.nil eI;have C:=C.nil Zg;have C:=C.nil eL;have C:S ψ h af [.box ac [.int .i64 budget1,.bool false,e,f,u,.int .i64 0,.int .i64 0,(.slice Jh 0 0),(.slice Jh 0 0),(.slice Jh 0 0)],.it oL [(.slice Jh 0 0)] ([]:Jb),.it (El.ow Zg) [(.slice Jh 0 0)] ([]:List Zc),.it (El.ow eL) [(.slice Jh 0 0)] ([]:Ja),.it eL [ae] ad,.it (El.sl eL) [u] ab,.box b2 [e,f]]:=pk C [4,2,1,0,3,5,6];obtain ⟨ar,a5,N⟩:=obind N;obtain ⟨ak,au,a,l⟩:=id C;refine (ZFG a5 (a.upS l) (g.mono (a.bas.trans a.ubF)) (i.mono (a.bas.trans a.ubF)) ((frF l 5 rfl).mono a.ubF) (frF l 4 rfl)).mono λav aw ⟨ax,ag,ah,a6,x⟩=>⟨a6,?_⟩
 replace C:=a.downS x;clear x a l;refine bB C 0 1 ?_;refine brZ λN=>?_;exact endS
theorem ZBB {g0 g i budget1 r} (N:Zm2 g0 budget1=Jg r) (j:SlC ψ eI g g0.Colors) (k:SlC ψ Zg i g0.Edges):CallsH P 156 #[.agg #[g,i],.int .i64 budget1] h (λv h'=>∃w0 w1 w2,v=.tuple #[.agg #[w0,w1],w2,.int .i64 r.2.2]/\S ψ h h' [.it oL [w0] r.1.Colors,.it (El.ow Zg) [w1] r.1.Edges,.it eL [w2] r.2.1]):=by
 refine zS hψ ⟨[],[],[],[(4,⟨kdL [0,0,0,1,0,0,0,2,0,2,3,0,0],.fin [0,1,2,3,10,4,5,6,7,8,9,11,12],Ji⟩)]⟩ Tryz.func156 λC=>?_;refine new_S C λb2 ak C=>?_;refine new_S C λb4 al C=>?_;refine lsA ?_;obtain ⟨⟨_|am,ao⟩,hx,N⟩:=obind N
 .dsimp only at N;obtain ⟨φ,L,s,f⟩:=id C;refine (ZC9 s.fle hx (j.mono s.bas) (k.mono s.bas)).mono λa6 w ⟨eq,t⟩=>⟨_,_,eq,?_⟩
  replace C:=join0 s f t;clear t s f;apply brQ N<;>intro N
  .exact wX
  .cases N
 .dsimp only at N;obtain ⟨φ,L,s,f⟩:=id C;refine (ZC9 s.fle hx (j.mono s.bas) (k.mono s.bas)).mono λa6 w ⟨ap,w1,w2,w3,w4,w5,w6,eq,t⟩=>⟨_,_,eq,?_⟩
  replace C:=join4 s f t;clear t s f;apply brQ N<;>intro N
  .exact wX
  .obtain ⟨a9,l,N⟩:=obind N;obtain ⟨y,o⟩:∃p,AddrOf w6 0 1 p:=(ZaK l).elim λ_ g2=>(C.rdL 3 rfl (Zah _)).elim (λhe=>by rw [he.2] at g2;simp at g2) λhe=>he.elim λa he=>he.elim λc he=>⟨_,a,_,c,he.1,rfl⟩
   have a5:∀p,AddrOf w6 0 1 p->p=y:=by
     rintro p ⟨a,n,c,e,rfl⟩;obtain ⟨a',n',c',e',rfl⟩:=o;rw [e] at e';cases e';rfl
   obtain ⟨ab,a4,C⟩:=Zbk C 3 rfl o l (K:=λu=>S ψ h w (.it eL [u] a9::_)) λu C=>C;have a3:=C;have nb:¬y.block=b4:=λe=>by
     refine a3.boxNe 5 4 rfl rfl ?_;obtain ⟨a8,n,c,e1,e2⟩:=o;rw [e1];show Jg a8.block=Jg b4;rw [<-e,e2];unfold Addr.add;split<;>rfl
   refine ⟨λx=>x=b4,?_⟩;refine lsA ?_;refine ZwL C 5 rfl rfl rfl oneA λaq x5 C=>?_;dsimp at C;refine ZwL C 5 rfl rfl rfl oneA λar x6 C=>?_;dsimp at C;refine ⟨x5.trans x6,?_⟩;refine Zsq (λe=>a3.boxNeB 1 5 (by decide) rfl rfl e) ?_;refine ldV_K (a3.cells 1 rfl) 9 rfl rfl ?_;refine ZS (a3.rdL 4 rfl (Zah _)) l λac ad=>?_;obtain rfl:=a5 ac ad;refine Zsq nb ⟨ab,a4,?_⟩;exact wX
omit hψ in
instance k183:Kn 156 (type_of% @ZBB):=⟨@ZBB⟩
theorem Zv7 {u e f r} (N:ZkF u=Jg r) (a4:sc h eI e u.Colors) (i:sc h Zg f u.Edges) (hL:LayH 3 [0] [1,2] h):zR 157 #[.agg #[e,f]] h ψ (.string r):=by
 refine zS hψ ⟨an [[5,19,72]],[],[],[(7,⟨kdL [0,0,1,3,0,0,2,4,0,4,4,0],.fin [1,2,3,5,6,7,4,8,9,0,10,11],Ji⟩)]⟩ Tryz.func157 λC=>?_;refine new_S C λb1 aa C=>?_;refine lsA ?_;refine cm0 N C (λs hx=>Zk5 s hx slA slA) λr7 ab C N=>⟨_,rfl,?_⟩
 refine brZ λN=>?_;refine bV C 0 1 ?_;refine vL i C.le ?_;have C:=C.nilO (E:=El.str);refine lw21 N (λv3 k a2=>([.it (El.ow El.str) [v3] a2,.box b1 [e,f]],a2,k)) λv3 k ac a2 a C N O=>?_;apply brQ N<;>intro N
 .refine ixA slA N λae af ad v N=>?_;obtain ⟨cs,ck,hr⟩:=i.cells ad v rfl;obtain rfl:=Zcu hr;refine lsA ?_;refine new_S C λb5 ag C=>?_
  (iterate 2 refine boxA λa3 C=>?_)
  refine ⟨λ_=>False,?_⟩;have j:=C;have g:=eX a3;refine bI C 0 0 ?_;obtain ⟨ah,w,N⟩:=obind N;refine ce0 C (λs=>ZdA s.fle w (hL.ext s.ext)) λai xE C=>⟨_,rfl,eZ (g.trans xE),?_⟩
  replace g:=g.trans xE;refine Z9 ?_;refine ldI_K (j.cells 0 rfl) 1 rfl rfl ?_;refine cl0 N C (λl _ _ x=>ZdA l.fle x (hL.ext l.ext)) λaj ak C N=>⟨_,rfl,?_⟩
  refine gfA N λN=>?_;refine gfA N λN=>?_;refine puA N 1 λal am a8 C N=>?_;exact endL
 .refine bV C 1 0 ?_;refine cl0 N C (λo _ _ y=>Zpy o.fle y slA (hL.ext o.ext)) λao a9 C N=>⟨_,rfl,?_⟩
  refine gfA N λN=>?_;exact wX
omit hψ in
instance k184:Kn 157 (type_of% @Zv7):=⟨@Zv7⟩
theorem ZL6 {f a e budget1 r} (N:ZfY f budget1=Jg r) (g:SlC ψ eI a f.Colors) (i:SlC ψ Zg e f.Edges) (hL:LayH 3 [0] [1,2] h):zR 77 #[.agg #[a,e],.int .i64 budget1] h ψ (.tuple #[.string r.1,.int .i64 r.2]):=by
 refine zO Tryz.func77 λC=>?_;exact wX
end
end Go.Proofs.YtcneolcmjjlmnaaGreatDoor
