import Derived.Test.YtepnljbkgjbbmaaGreatDoorVcAu
import Derived.Test.YtepnljbkgjbbmaaGreatDoorVcDn
import Derived.Test.YtepnljbkgjbbmaaGreatDoorRcFnsP2
open Go.IntKind renaming i64->ε
namespace Go.Proofs.YtepnljbkgjbbmaaGreatDoor
open Go Go.Vc
set_option linter.unusedVariables false
set_option linter.unusedSimpArgs false
set_option maxRecDepth 20000
set_option maxHeartbeats 4000000
attribute [local irreducible] CallsQ vLen vIdx IntKind.wrap hcell vNew vNewS vSliceS vStore1 vAppend vMake vCopy vB2S vS2B vNilS
section
variable {ψ:CM} {h:Heap} (hψ:CLe ψ (hcell h))
include hψ
theorem ZEY {p i j k l y1 v1 r} (I:ZjO p y1=some r) (bo:sc h eL i p.qadd) (a6:sc h eL j p.qsub) (a7:sc h eL k p.qmul) (bp:sc h eI l p.qinv) (f1:sc h eL v1 y1):CallsH P 127 #[.agg #[.int .i64 p.qq,i,j,k,l],v1] h (fun v h'=>∃ w0 w1,v=.tuple #[w0,w1,.int .i64 r.2.2]/\S ψ h h' [.it (El.ow oL) [w0] r.1,.it oL [w1] r.2.1]):=by
 refine zv ⟨[(5,[(8,.v),(9,tkI),(10,.p)]),(17,[(89,tkI)]),(22,[(115,tkI)])],[(7,[]),(14,[(9,tkI)]),(25,[(129,.b)]),(29,[(8,.v),(9,tkI)]),(31,[(8,.v),(9,tkI)])],[],[(12,⟨[],.fin [0,1,6,7,8,9,10,11,12,13,14,15,16,17,2,3,4,5,18,19],false⟩)]⟩ Tryz.func127 ?_
 have C:=sZ hψ
 refine new_S C fun b2 dq C=>?_
 refine cm1 I C (fun s hx=>Zda s hx slA) fun dr w ds C I=>⟨_,rfl,?_⟩
 refine ⟨fun v8 y9 bc=>∃ y8 xs,S ψ h bc [.it (El.ow oL) [w] xs,.box b2 [.int .i64 p.qq,i,j,k,l],.it oL [v8] y8]/\ZeY y8 y9 xs=some r,?_,?_⟩
 ·refine new_S C fun dt du C=>?_
  refine boxA fun dv C=>?_
  have C:=C.nilO (E:=eI)
  obtain ⟨cf,hn⟩:=Zax I
  refine ⟨fun n u a8 bd be=>∃ c g o a2,S ψ h be [.it oL [u] c,.box g [.int .i64 o],.it (El.ow oL) [w] a2,.box b2 [.int .i64 p.qq,i,j,k,l]]/\bd=⟨g,0,none⟩/\loopN (ZbV p) n (c,a8,o,a2)=some r,⟨cf,_,_,_,_,pk C [0,1,2,3],rfl,hn⟩,?_⟩
  rintro n _ u a8 bd be ⟨c,g,o,a2,C,rfl,hn⟩
  obtain ⟨m,a,rfl,I,O⟩:=Zh hn
  refine ⟨fun bf=>S ψ h bf [.it oL [u] c,.box g [.int .i64 o],.it (El.ow oL) [w] a2,.box b2 [.int .i64 p.qq,i,j,k,l]]/\Zhr p c a8 o a2=some a,?_,?_⟩
  ·refine Zm slA ?_
   refine brQ I (fun I=>?_) fun I=>?_
   ·refine bI C 1 0 ?_
    refine ixA slA I fun dw dx az ag I=>?_
    refine ZaX C 2 rfl az ag fun dy br=>?_
    refine Zm (C.rowC 2 rfl br ag (Zk _)) ?_
    refine brQ I (fun I=>?_) fun I=>?_
    ·exact endC
    ·obtain ⟨xm,hq,rfl⟩:=omap I
     obtain rfl:=oI O
     exact ⟨_,_,pk C [2,3,0],hq⟩
   ·obtain ⟨xm,hq,rfl⟩:=omap I
    obtain rfl:=oI O
    exact ⟨_,_,pk C [2,3,0],hq⟩
  ·rintro _ bf ⟨C,I⟩
   refine ⟨fun ak al bg=>∃ aa ab,S ψ h bg [.it oL [ak] aa,.box g [.int .i64 o],.it (El.ow oL) [w] ab,.box b2 [.int .i64 p.qq,i,j,k,l]]/\Zht o aa al ab=some a,?_,?_⟩
   ·refine Zm slA ?_
    obtain ⟨dz,am,I⟩:=obind I
    refine ZpL (some (c.length:Int)) none slA am fun e0 hv=>?_
    refine cl0 I C (fun cg _ _ bt=>Zqp cg.fle bt (hv.C slA am rfl) κ (fun ch=>fun bu=>fun cj ck=>Zxx bu cj ck ((C.cells 1 rfl).mono (CLe.ext ch)))) fun e1 cy C I=>⟨_,rfl,?_⟩
    refine brQ I (fun I=>?_) fun I=>?_
    ·exact endC
    ·refine ⟨fun an ao=>∃ ac,S ψ h ao [.it oL [u] c,.box g [.int .i64 o],.it (El.ow oL) [w] ac,.box b2 [.int .i64 p.qq,i,j,k,l]]/\Zgj p c o an ac=some a,?_,?_⟩
     ·refine brQ I (fun I=>?_) fun I=>?_
      ·refine ixA slA I fun e2 e3 b0 ah I=>?_
       refine ZaX C 2 rfl b0 ah fun e4 bv=>?_
       refine ixA slA I fun e5 e6 b1 ai I=>?_
       refine ZaX C 2 rfl b1 ai fun e7 bw=>?_
       refine ixA slA I fun e8 e9 b3 cr I=>?_
       obtain ⟨ea,b4,I⟩:=obind I
       refine ZBW C 2 rfl rfl ai ah bw bv b3 b4 fun cz C=>?_
       dsimp at C
       refine bV C 3 2 ?_
       refine ixV a6 C.le I fun eb ec ed I=>?_
       refine ixI slA I fun ee I=>?_
       exact endC
      ·exact endC
     ·rintro _ an ao ⟨ac,C,I⟩
      refine ixA slA I fun ef eg ad ap I=>?_
      refine ZaX C 2 rfl ad ap fun eh hd=>?_
      refine bI C 1 0 ?_
      refine ixI (C.rowC 2 rfl hd ap (Zk _)) I fun cm I=>?_
      refine bV C 3 3 ?_
      refine ixV a7 C.le I fun ei ej f I=>?_
      refine ixI slA I fun bh I=>?_
      refine ixA slA I fun cn ek bx aq I=>?_
      have C:=C.pin0 2 rfl
      dsimp at C
      refine Zka C 2 rfl bx aq fun bi C=>?_
      dsimp at C
      refine Zm (C.rowP 2 rfl 0 rfl aq (Zk _)) ?_
      refine ⟨fun bj ar ae=>∃ y,S ψ h ae [.it oL [u] c,.box g [.int .i64 o],.it (El.pins eI [(((c.length:Int):Int).toNat,bi)]) [w] y,.box b2 [.int .i64 p.qq,i,j,k,l]]/\loopN (Zip p c o cm bh cn) bj (ar,y)=some a,endI,?_⟩
      rintro bj _ ar ae ⟨y,C,bz⟩
      obtain ⟨em,co,rfl,I,au⟩:=Zh bz
      refine brQ I (fun I=>?_) fun I=>?_
      ·obtain ⟨e,b5,I⟩:=obind I
       refine ixI (C.rowP 2 rfl 0 rfl b5 (Zk _)) I fun en I=>?_
       refine ixA (C.rdP 2 rfl (Zk _)) I fun cp eo c0 a5 I=>?_
       refine Zka C 2 rfl c0 a5 fun ep C=>?_
       dsimp at C
       refine lsA ?_
       refine ixI slA I fun d2 I=>?_
       refine ixV a7 C.le I fun d3 d4 er I=>?_
       refine ixI slA I fun c3 I=>?_
       refine ixA (C.rowP 2 rfl 0 rfl a5 (Zk _)) I fun d5 d6 b6 b7 I=>?_
       refine ZrQ C 2 rfl 0 rfl a5 b6 b7 rfl (fun _=>⟨rfl,rfl⟩) fun c4 C=>?_
       dsimp at C
       have C:S ψ h c4 [.it oL [u] c,.box g [.int .i64 o],.it (El.pins eI [(((c.length:Int):Int).toNat,bi)]) [w] (y.set ((c.length:Int):Int).toNat (cp.set (ar:Int).toNat c3)),.box b2 [.int .i64 p.qq,i,j,k,l]]:=C.keepP 2 rfl [1]
       exact endL
      ·refine Zm (C.rdP 2 rfl (Zk _)) ?_
       have C:S ψ h ae [.it oL [u] c,.box g [.int .i64 o],.it (El.ow oL) [w] y,.box b2 [.int .i64 p.qq,i,j,k,l]]:=C.unpin 2 rfl
       refine ⟨fun bk a3 av=>∃ x,S ψ h av [.it oL [u] c,.box g [.int .i64 o],.it (El.ow oL) [w] x,.box b2 [.int .i64 p.qq,i,j,k,l]]/\loopN (Zb9 p c o bh y) bk (a3,x)=some co,endI,?_⟩
       rintro bk _ a3 av ⟨x,C,c5⟩
       obtain ⟨es,cq,rfl,I,aw⟩:=Zh c5
       refine brQ I (fun I=>?_) fun I=>?_
       ·refine ixA slA I fun c6 d7 b8 a1 I=>?_
        have C:=C.pin0 2 rfl
        dsimp at C
        refine Zka C 2 rfl b8 a1 fun c7 C=>?_
        dsimp at C
        refine ⟨fun ax af=>S ψ h af [.it oL [u] c,.box g [.int .i64 o],.it (El.pins eI [((a3:Int).toNat,c7)]) [w] x,.box b2 [.int .i64 p.qq,i,j,k,l]]/\Zfb p c o a3 x c6 ax=some cq,?_,?_⟩
        ·refine brQ I (fun I=>?_) fun I=>?_
         ·refine bI C 1 0 ?_
          refine ixI (C.rowP 2 rfl 0 rfl a1 (Zk _)) I fun d8 I=>?_
          exact endC
         ·exact endC
        ·rintro _ ax af ⟨C,I⟩
         refine brQ I (fun I=>?_) fun I=>?_
         ·refine lsA ?_
          refine ixA (C.rdP 2 rfl (Zk _)) I fun d9 da b9 aj I=>?_
          refine Zka C 2 rfl b9 aj fun db C=>?_
          dsimp at C
          refine bV C 3 2 ?_
          refine ixV a6 C.le I fun dc dd et I=>?_
          refine bI C 1 0 ?_
          refine ixI (C.rowP 2 rfl 1 rfl a1 (Zk _)) I fun de I=>?_
          refine ixI slA I fun df I=>?_
          have C:=C.pull 2 rfl
          dsimp only [List.eraseIdx] at C
          obtain ⟨ct,ba,I⟩:=obind I
          obtain ⟨c8,bb,I⟩:=obind I
          obtain ⟨dg,eu,a4,bm⟩:=id C
          refine (r2_impl_arithmetic_addTimes bb (a4.upS bm) 1 rfl 0 rfl (Zz4 ba) a1 aj (bo.mono a4.ubH) (a6.mono a4.ubH) (a7.mono a4.ubH) (bp.mono a4.ubH)).mono fun ew c9 ⟨ca,bn⟩=>⟨ca,?_⟩
          replace C:=a4.downS bn
          clear bn a4 bm
          have C:S ψ h c9 [.it (El.ow oL) [w] (x.set (a3:Int).toNat c8),.it oL [u] c,.box g [.int .i64 o],.box b2 [.int .i64 p.qq,i,j,k,l]]:=C.unpin 0 rfl
          exact endL
         ·have C:S ψ h af [.it oL [u] c,.box g [.int .i64 o],.it (El.ow oL) [w] x,.box b2 [.int .i64 p.qq,i,j,k,l]]:=C.unpin 2 rfl
          exact endL
       ·refine bI C 1 0 ?_
        refine puA I 0 fun dh di dj C I=>?_
        refine Zm slA ?_
        refine Zm slA ?_
        refine brQ I (fun I=>?_) fun I=>?_
        ·obtain ⟨xm,hq,rfl⟩:=omap I
         obtain rfl:=oI aw
         obtain rfl:=oI au
         obtain rfl:=oI O
         exact ⟨_,_,pk C [2,3,0],hq⟩
        ·obtain ⟨xm,hq,rfl⟩:=omap I
         obtain rfl:=oI aw
         obtain rfl:=oI au
         exact ⟨_,_,pk C [0,1,2,3],hq⟩
   ·rintro _ ak al bg ⟨aa,ab,C,I⟩
    refine bI C 1 0 ?_
    refine new_S C fun cu dk C=>?_
    refine boxA fun dl C=>?_
    refine bI C 0 0 ?_
    refine boxA fun dm C=>?_
    obtain rfl:=oI I
    exact ⟨m,ltS,_,_,_,_,pk C [1,0,3,4],rfl,O⟩
 ·rintro _ v8 y9 bc ⟨y8,xs,C,I⟩
  refine Zm slA ?_
  obtain ⟨dn,cb,I⟩:=obind I
  refine cut_S none (some (y8.length:Int)) C 0 rfl cb rfl fun dp C=>?_
  dsimp at C
  exact endS
theorem ZFM {p:List (List Int)} {v0:Value} {s1:List (List Int)} {v1:Value} {i:(List Int)->(List Int)->Option Bool} {k:Nat} {c:List Value} {r:Bool} (I:Zp4 p s1 i=some r) (l:sc h eL v0 p) (u:sc h eL v1 s1) (o2:ctx.okf k=true) (k2:∀ {h1:Heap},ExtH h h1->∀ {ψ1:CM},CLe ψ1 (hcell h1)->∀ {w:List Int} {e:Value} {x:List Int} {g:Value} {y:Bool},i w x=some y->SlC (hcell h1) eI e w->SlC (hcell h1) eI g x->CallsH P k (([e,g]:List Value)++c).toArray h1 (fun v h'=>v=.bool y/\S ψ1 h1 h' [])):zR 172 #[v0,v1,.func (.func k) #[] c.toArray] h ψ (.bool r):=by
 refine zv ⟨[(4,[(17,tkI)])],[],[],[]⟩ Tryz.func172 ?_
 have C:=sZ hψ
 refine vL l C.le ?_
 refine vL u C.le ?_
 refine brZ fun I=>?_
 refine vL l C.le ?_
 refine lp1 I (nlS C) fun m a1 a2 a C I O=>?_
 refine brY fun I=>?_
 refine ixV l C.le I fun a3 a4 f I=>?_
 refine ixV u C.le I fun a5 a6 a7 I=>?_
 obtain ⟨a8,o,I⟩:=obind I
 obtain ⟨φ,L,s,j⟩:=id C
 refine Za9 o2 ?_
 refine (k2 C.ext s.fle o slA slA).mono fun a9 aa ⟨eq,t⟩=>⟨_,eq,?_⟩
 replace C:=join0 s j t
 clear t s j
 exact brQ I (fun I=>tZ) fun I=>tZ
theorem ZvD {c v0 s1 v1 r} (I:ZcJ c s1=some r) (e:sc h eI v0 c) (f:sc h eI v1 s1):zR 173 #[v0,v1] h ψ (.bool r):=by
 refine zv ⟨[(4,[(13,tkI)])],[],[],[]⟩ Tryz.func173 ?_
 have C:=sZ hψ
 refine vL e C.le ?_
 refine vL f C.le ?_
 refine brZ fun I=>?_
 refine vL e C.le ?_
 refine lp1 I (nlS C) fun m g i a C I O=>?_
 refine brY fun I=>?_
 refine ixI slA I fun j I=>?_
 refine ixI slA I fun k I=>?_
 exact brQ I (fun I=>tZ) fun I=>tZ
theorem ZA2 {c v0 e v1 r} (I:ZjV c e=some r) (o:sc h eL v0 c) (p:sc h eL v1 e):zR 128 #[v0,v1] h ψ (.bool r):=by
 refine zv annO Tryz.func128 ?_
 have C:=sZ hψ
 refine cl0 I C (fun s _ _ j=>ZFM s.fle j slA slA κ (fun k=>fun a=>fun f g i=>ZvD a f g i)) fun u l C I=>⟨_,rfl,?_⟩
 exact tZ
theorem Zst {e f g r} (I:ZdV e=some r) (a2:sc h eI f e.Field.Poly) (p:sc h eL g e.Rows):zR 72 #[.agg #[.int .i64 e.Field.Prime,.int .i64 e.Field.Degree,f,g]] h ψ (.bool r):=by
 refine zv ⟨[],[(3,[])],[],[(1,⟨kdL [0,1,0,1,3,0,0,0,1,0,0,0,0,0,1,3,0,2,4,4,0,0],.fin [0,1,2,3,4,5,6,7,8,9,10,11,12,13,14,15,16,17,18,19,20,21],true⟩),(3,⟨kdL [0,1,3,0,2,4,0,0,0,0,0,0,0],.fin [0,1,2,3,4,5,6,7,8,9,10,11,12],true⟩)]⟩ Tryz.func72 ?_
 have C:=sZ hψ
 refine new_S C fun b1 w C=>?_
 refine ⟨fun j=>S ψ h j [.box b1 [.int .i64 e.Field.Prime,.int .i64 e.Field.Degree,f,g]]/\ZpP e=some r,?_,?_⟩
 ·refine ⟨fun _=>False,?_⟩
  have k:=C
  have a:=eX w
  refine lsA ?_
  obtain ⟨a5,u,I⟩:=obind I
  refine ce0 C (fun s=>Zzo s.fle u slA slA) fun a6 xE C=>⟨_,rfl,eZ (a.trans xE),?_⟩
  replace a:=a.trans xE
  refine brZ fun I=>?_
  refine bV C 0 3 ?_
  refine vL p C.le ?_
  refine brZ fun I=>?_
  refine lsA ?_
  obtain ⟨a7,v,I⟩:=obind I
  refine ce0 C (fun s=>ZiR s.fle v slA) fun a8 xE C=>⟨_,rfl,eZ (a.trans xE),?_⟩
  replace a:=a.trans xE
  refine ZK ?_
  refine ldV_K (k.cells 0 rfl) 3 rfl rfl ?_
  refine cm0 I C (fun s c=>ZbX s c slA) fun a9 aa C I=>⟨_,rfl,?_⟩
  refine cm0 I C (fun s c=>Zh3 s c) fun ab a4 C I=>⟨_,rfl,?_⟩
  refine brZ fun I=>?_
  exact endC
 ·rintro _ j ⟨C,I⟩
  refine ⟨fun _=>False,?_⟩
  have l:=C
  have i:=eX j
  refine lsA ?_
  obtain ⟨ac,c,I⟩:=obind I
  obtain ⟨φ,L,s,o⟩:=id C
  refine (Zuz s.fle c slA).mono fun ad ae ⟨af,x,y,a0,eq,t⟩=>⟨_,_,_,_,_,eq,eZ (i.trans t.ext),?_⟩
  replace i:=i.trans t.ext
  replace C:=join4 s o t
  clear t s o
  have C:=frA 0
  have C:=frA 1
  have C:=frA 2
  refine ZK ?_
  refine ldV_K (l.cells 0 rfl) 3 rfl rfl ?_
  refine cm2 I C (fun s c=>ZEY s c slA slA slA slA slA) fun ag ah a1 ai C I=>⟨_,_,_,rfl,?_⟩
  have C:=frA 0
  refine bV C 6 3 ?_
  refine cm0 I C (fun s c=>ZA2 s c slA slA) fun aj ak C I=>⟨_,rfl,?_⟩
  exact tZ
theorem ZGi {n0 r} (I:ZcX n0=some r)  :zR 174 #[.int .i64 n0] h ψ (.tuple #[.int .i64 r.1,.int .i64 r.2]):=by
 refine zv ⟨[(3,[(11,tkI)])],[],[],[(10,⟨kdL [0,0,2,0,3,0,0],.fin [3,4,0,1,2,5,6],true⟩)]⟩ Tryz.func174 ?_
 have C:=sZ hψ
 refine cm1 I C (fun s k=>Zsw s k) fun r8 l o C I=>⟨_,rfl,?_⟩
 refine Zm slA ?_
 refine lp1 (os:=[.it oL [l] r8]) I (pk C [0]) fun m p j a C I O=>?_
 refine brQ I (fun I=>?_) fun I=>?_
 ·refine ixI slA I fun u I=>?_
  refine ixI slA I fun v I=>?_
  refine brZ fun I=>?_
  exact endL
 ·refine Zm slA ?_
  refine brZ fun I=>?_
  refine ⟨fun _=>False,?_⟩
  have e:=C
  have c:=eX j
  obtain ⟨w,f,I⟩:=obind I
  refine ce0 C (fun s=>Za6 s.fle f slA) fun x xE C=>⟨_,rfl,eZ (c.trans xE),?_⟩
  replace c:=c.trans xE
  refine ixA slA I fun y a0 g i I=>?_
  refine ZJ ?_
  refine ldI_C (e.rdL 0 rfl (Zk _)) g i ?_
  exact tZ
theorem ZwC {f r} (I:ZbQ f=some r)  :CallsH P 129 #[.int .i64 f] h (fun v h'=>∃ w0,v=.tuple #[.agg #[.int .i64 r.1.Prime,.int .i64 r.1.Degree,w0],.int .i64 r.2]/\S ψ h h' [.it oL [w0] r.1.Poly]):=by
 refine zv ⟨[(5,[(6,tkI)])],[(4,[])],[],[]⟩ Tryz.func129 ?_
 have C:=sZ hψ
 refine new_S C fun g p C=>?_
 refine cm0 I C (fun s c=>ZGi s c) fun i u C I=>⟨_,_,rfl,?_⟩
 refine ⟨fun e=>S ψ h e [.box g [.int .i64 0,.int .i64 0,(.slice none 0 0)]]/\Zk1 i=some r,?_,?_⟩
 ·refine brQ I (fun I=>?_) fun I=>?_
  ·(iterate 3 refine boxA fun j C=>?_)
   refine lsA ?_
   have C:=C.nilO (E:=eI)
   exact endS
  ·refine brQ I (fun I=>?_) fun I=>?_
   ·(iterate 3 refine boxA fun k C=>?_)
    refine lsA ?_
    have C:=C.nilO (E:=eI)
    exact endS
   ·exact endC
 ·rintro _ e ⟨C,I⟩
  refine lp1 (os:=[.box g [.int .i64 0,.int .i64 0,(.slice none 0 0)]]) I (pk C [0]) fun m n6 w a C I O=>?_
  refine cm1 I C (fun s c=>ZcQ s c) fun x y a0 C I=>⟨_,rfl,?_⟩
  refine puA I 0 fun a1 a2 a3 C I=>?_
  refine cm0 I C (fun s c=>Zql s c slA) fun a4 a5 C I=>⟨_,rfl,?_⟩
  refine brQ I (fun I=>?_) fun I=>?_
  ·exact endL
  ·refine cm1 I C (fun s c=>ZcQ s c) fun a6 a7 a8 C I=>⟨_,rfl,?_⟩
   refine puA I 0 fun a9 aa l C I=>?_
   refine ZG oneA ?_
   (iterate 3 refine boxA fun o C=>?_)
   refine lsA ?_
   obtain rfl:=oI I
   obtain rfl:=oI O
   exact endR
theorem ZrN {f e r} (I:ZcY f=some r) (j:sc h eL e f.Rows):CallsH P 73 #[.agg #[.int .i64 f.Kind,.int .i64 f.Size,e]] h (fun v h'=>∃ w0 w1,v=.agg #[.int .i64 r.Field.Prime,.int .i64 r.Field.Degree,w0,w1]/\S ψ h h' [.it oL [w0] r.Field.Poly,.it (El.ow oL) [w1] r.Rows]):=by
 refine zv ⟨[],[],[],[(2,⟨kdL [2,0,1,3,0,4],.fin [1,2,3,0,4,5],true⟩)]⟩ Tryz.func73 ?_
 have C:=sZ hψ
 refine new_S C fun b1 o C=>?_
 refine new_S C fun b2 p C=>?_
 refine bI C 1 1 ?_
 refine cm1 I C (fun s k=>ZwC s k) fun r8 v8 u C I=>⟨_,_,_,_,rfl,?_⟩
 refine new_S C fun b3 w C=>?_
 (iterate 3 refine boxA fun i C=>?_)
 refine ⟨fun _=>False,?_⟩
 have a:=C
 have c:=eX i
 refine bV C 3 2 ?_
 obtain ⟨x,g,I⟩:=obind I
 refine ce1 C (fun s=>Zda s.fle g slA) fun y a0 xE C=>⟨_,rfl,eZ (c.trans xE),?_⟩
 replace c:=c.trans xE
 refine ZJ ?_
 refine ldI_K (a.cells 0 rfl) 0 rfl rfl ?_
 refine ZJ ?_
 refine ldI_K (a.cells 0 rfl) 1 rfl rfl ?_
 refine ZK ?_
 refine ldV_K (a.cells 0 rfl) 2 rfl rfl ?_
 refine ZG oneA ?_
 (iterate 4 refine boxA fun l C=>?_)
 refine lsA ?_
 exact endS
theorem ZEX {c v0 r} (I:ZeF c=some r) (e:sc h eI v0 c):zR 212 #[v0] h ψ (.int .i64 r):=by
 refine zv ⟨[(3,[(8,tkI)])],[],[],[]⟩ Tryz.func212 ?_
 have C:=sZ hψ
 refine vL e C.le ?_
 refine lp1 I (nlS C) fun m i f a C I O=>?_
 refine brY fun I=>?_
 refine ixI slA I fun g I=>?_
 exact brQ I (fun I=>tZ) fun I=>tZ
theorem ZHL {g i r} (I:Za0 g i=some r)  :zR 177 #[.agg #[.int .i64 g.A,.int .i64 g.B],.agg #[.int .i64 i.A,.int .i64 i.B]] h ψ (.int .i64 r):=by
 refine zv ⟨[],[],[],[(1,⟨kdL [0,1,0,1,3,0,2,0,2,4,4,4,0],.fin [0,1,2,3,4,5,6,7,8,9,10,11,12],true⟩)]⟩ Tryz.func177 ?_
 have C:=sZ hψ
 refine new_S C fun y l C=>?_
 refine new_S C fun b3 j C=>?_
 refine ⟨fun _=>False,?_⟩
 have c:=C
 have a:=eX j
 refine lsA ?_
 obtain ⟨k,e,I⟩:=obind I
 refine ce0 C (fun s=>ZpU s.fle e) fun o xE C=>⟨_,rfl,eZ (a.trans xE),?_⟩
 replace a:=a.trans xE
 refine ZJ ?_
 refine ldI_K (c.cells 1 rfl) 1 rfl rfl ?_
 refine ZJ ?_
 refine ldI_K (c.cells 0 rfl) 1 rfl rfl ?_
 refine cm0 I C (fun s e=>ZpU s e) fun f p C I=>⟨_,rfl,?_⟩
 refine ZO (E:=eI) (css:=[[.int .i64 k],[.int .i64 f]]) (xs:=([k,f]:List Int)) C (fun _=>⟨[],[],rfl,⟨rfl,rfl⟩,⟨[],[],rfl,⟨rfl,rfl⟩,rfl⟩⟩) rfl rfl fun u v C=>?_
 refine cm0 I C (fun s e=>ZEX s e slA) fun w x C I=>⟨_,rfl,?_⟩
 exact tZ
theorem ZFV {n0 r} (I:Zod n0=some r)  :zR 214 #[.int .i64 n0] h ψ (.bool r):=by
 refine zv annO Tryz.func214 ?_
 have C:=sZ hψ
 refine cm0 I C (fun s a=>Zaz s a) fun e c C I=>⟨_,rfl,?_⟩
 exact tZ
theorem ZGS {n0 r} (I:Zo1 n0=some r)  :zR 213 #[.int .i64 n0] h ψ (.bool r):=by
 refine zv annO Tryz.func213 ?_
 have C:=sZ hψ
 refine cm0 I C (fun s a=>ZFV s a) fun e c C I=>⟨_,rfl,?_⟩
 exact tZ
theorem ZCf {colors0 v0 r} (I:Zl2 colors0=some r) (e:sc h eI v0 colors0):zR 178 #[v0] h ψ (.bool r):=by
 refine zv annO Tryz.func178 ?_
 have C:=sZ hψ
 refine vL e C.le ?_
 refine brY fun I=>?_
 refine cl0 I C (fun s _ _ f=>Zes s.fle f slA κ (fun g=>fun a=>fun c  =>ZGS a c )) fun r8 i C I=>⟨_,rfl,?_⟩
 exact tZ
theorem Zpa {k e f r} (I:Zfc k=some r) (w:sc h eI e k.Colors) (c:sc h Zf f k.Edges):zR 130 #[.agg #[e,f]] h ψ (.bool r):=by
 refine zv ⟨[(2,[(8,tkI)])],[],[],[(4,⟨kdL [0,1,0,0,0,1,0,1,0,0,0,0,2,0,1,3,0,0,0,0,0,0,0,1,0,0,0,1,1,4,0,0,0],.fin [0,1,2,3,4,5,6,7,8,9,10,13,14,15,11,12,16,17,18,19,20,21,22,23,24,25,26,27,28,29,30,31,32],true⟩)]⟩ Tryz.func130 ?_
 have C:=sZ hψ
 refine new_S C fun x a2 C=>?_
 refine bV C 0 1 ?_
 refine vL c C.le ?_
 refine lp1 (os:=[.box x [e,f]]) I (pk C [0]) fun m y8 a3 a C I O=>?_
 refine brQ I (fun I=>?_) fun I=>?_
 ·refine ixA slA I fun a4 a5 y i I=>?_
  obtain ⟨cs,ck,hr⟩:=c.cells y i rfl
  obtain rfl:=Zaw hr
  refine lsA ?_
  refine new_S C fun b4 a6 C=>?_
  (iterate 2 refine boxA fun v C=>?_)
  refine ⟨fun _=>False,?_⟩
  have j:=C
  have g:=eX v
  refine bI C 0 0 ?_
  refine brZ fun I=>?_
  refine lsA ?_
  refine brZ fun I=>?_
  refine bV C 1 0 ?_
  obtain ⟨a7,l,I⟩:=obind I
  refine ce0 C (fun s=>Za6 s.fle l slA) fun a8 xE C=>⟨_,rfl,eZ (g.trans xE),?_⟩
  replace g:=g.trans xE
  refine ZJ ?_
  refine ldI_K (j.cells 0 rfl) 1 rfl rfl ?_
  refine brZ fun I=>?_
  refine brQ I (fun I=>?_) fun I=>?_
  ·refine bV C 1 1 ?_
   refine ixA slA I fun a9 aa o p I=>?_
   obtain ⟨a0,a1,u⟩:=c.cells o p rfl
   obtain rfl:=Zaw u
   refine lsA ?_
   refine cm0 I C (fun s i=>ZHL s i) fun ab ac C I=>⟨_,rfl,?_⟩
   refine brZ fun I=>?_
   exact endL
  ·exact endL
 ·refine bV C 0 0 ?_
  refine cm0 I C (fun s i=>ZCf s i slA) fun ae af C I=>⟨_,rfl,?_⟩
  refine brY fun I=>?_
  refine bV C 0 1 ?_
  refine vL c C.le ?_
  exact tZ
theorem ZtO {j k r} (I:Zgr j=some r) (l:sc h eL k j.Rows):CallsH P 74 #[.agg #[.int .i64 j.Kind,.int .i64 j.Size,k]] h (fun v h'=>∃ w0 w1,v=.tuple #[.agg #[w0,w1],.bool r.2]/\S ψ h h' [.it oL [w0] r.1.Colors,.it (El.ow Zf) [w1] r.1.Edges]):=by
 refine zv ⟨[(5,[(19,tkI)])],[],[],[(9,⟨kdL [0,2,0,0,1,0,0,1,0,3,4,0,4],.fin [2,3,4,5,6,7,8,9,0,1,10,11,12],true⟩),(11,⟨kdL [2,1,3,4,0],.fin [1,2,0,3,4],true⟩)]⟩ Tryz.func74 ?_
 have C:=sZ hψ
 refine new_S C fun b1 af C=>?_
 refine new_S C fun b2 ag C=>?_
 refine bI C 1 1 ?_
 refine cm0 I C (fun s hx=>Zaz s hx) fun r9 ah C I=>⟨_,rfl,?_⟩
 refine brQ I (fun I=>?_) fun I=>?_
 ·(iterate 2 refine boxA fun ai C=>?_)
  refine lsA ?_
  have C:=C.nilO (E:=eI)
  have C:=C.nilO (E:=Zf)
  exact endS
 ·refine bI C 1 1 ?_
  refine mkO eI I fun u w aj C I=>?_
  refine ZG oneA ?_
  refine new_S C fun b4 ak C=>?_
  (iterate 2 refine boxA fun a7 C=>?_)
  refine bV C 3 2 ?_
  refine vL l C.le ?_
  have C:=C.nilO (E:=Zf)
  refine ⟨fun n x c=>∃ xs o,S ψ h c [.box b4 [w,o],.it oL [w] u,.box b2 [(.slice none 0 0),(.slice none 0 0)],.box b1 [.int .i64 j.Kind,.int .i64 j.Size,k],.it (El.ow Zf) [o] xs]/\loopN (Zcr j u) n (x,xs)=some r,endI,?_⟩
  rintro n _ x c ⟨xs,o,C,hn⟩
  obtain ⟨m,a,rfl,I,O⟩:=Zh hn
  refine brQ I (fun I=>?_) fun I=>?_
  ·refine ixV l C.le I fun al am f I=>?_
   refine vL f C.le ?_
   refine brQ I (fun I=>?_) fun I=>?_
   ·(iterate 2 refine boxA fun a9 C=>?_)
    refine lsA ?_
    have C:=C.nilO (E:=eI)
    have C:=C.nilO (E:=Zf)
    obtain rfl:=oI I
    obtain rfl:=oI O
    exact endR
   ·refine ⟨fun _=>False,?_⟩
    have p:=C
    have e:=eX c
    refine ixI slA I fun a1 I=>?_
    refine ixI slA I fun a2 I=>?_
    refine ZbN C fun an aa xE C=>⟨eZ (e.trans xE),?_⟩
    replace e:=e.trans xE
    refine ZK ?_
    refine ldV_K (p.cells 0 rfl) 1 rfl rfl ?_
    obtain ⟨ao,y,I⟩:=obind I
    refine ZkQ C 5 rfl 0 rfl (fun _=>⟨[.int .i64 a1],[.int .i64 a2],[],[],rfl,rfl,⟨rfl,rfl⟩,⟨rfl,rfl⟩⟩) rfl rfl y fun ap ab xE C=>?_
    refine boxA fun ac C=>?_
    exact endL
  ·refine ⟨fun _=>False,?_⟩
   have i:=C
   have g:=eX c
   refine lsA ?_
   obtain ⟨aq,a0,I⟩:=obind I
   refine ce0 C (fun s=>Zpa s.fle a0 slA slA) fun ad xE C=>⟨_,rfl,eZ (g.trans xE),?_⟩
   replace g:=g.trans xE
   refine ZK ?_
   refine ldV_K (i.cells 0 rfl) 0 rfl rfl ?_
   refine ZK ?_
   refine ldV_K (i.cells 0 rfl) 1 rfl rfl ?_
   (iterate 2 refine boxA fun ae C=>?_)
   refine lsA ?_
   obtain rfl:=oI I
   obtain rfl:=oI O
   exact endR
theorem ZG4 {n0 r} (I:Zly n0=some r)  :zL 215 #[.int .i64 n0] h ψ eI r:=by
 refine zv ⟨[(3,[(9,tkI)])],[],[],[]⟩ Tryz.func215 ?_
 have C:=sZ hψ
 refine mkO eI I fun g i l C I=>?_
 refine Zm slA ?_
 refine ⟨fun n f c=>∃ xs,S ψ h c [.it oL [i] xs]/\loopN (Zgi g) n (f,xs)=some r,endI,?_⟩
 rintro n _ f c ⟨xs,C,j⟩
 obtain ⟨m,a,rfl,I,O⟩:=Zh j
 refine brQ I (fun I=>?_) fun I=>?_
 ·refine ixA slA I fun o p k e I=>?_
  refine st1_S C 0 rfl k e rfl (fun _=>⟨rfl,rfl⟩) fun s C=>?_
  dsimp at C
  exact endL
 ·obtain rfl:=oI I
  obtain rfl:=oI O
  exact endR
theorem Zqb {f v0 r} (I:Zgo f=some r) (k:sc h eI v0 f):zR 216 #[v0] h ψ (.string r):=by
 refine zv ⟨[(3,[(11,tkI)])],[],[],[]⟩ Tryz.func216 ?_
 have C:=sZ hψ
 refine vL k C.le ?_
 refine mkO (El.int .u8) I fun y l p C I=>?_
 refine vL k C.le ?_
 refine ⟨fun n c e=>∃ xs,S ψ h e [.it (El.ow (El.int .u8)) [l] xs]/\loopN (ZhS f) n (c,xs)=some r,endI,?_⟩
 rintro n _ c e ⟨xs,C,o⟩
 obtain ⟨m,a,rfl,I,O⟩:=Zh o
 refine brQ I (fun I=>?_) fun I=>?_
 ·refine ixI slA I fun s I=>?_
  refine ixA slA I fun u v g i I=>?_
  refine st1_S C 0 rfl g i rfl (fun _=>⟨rfl,rfl⟩) fun w C=>?_
  dsimp at C
  exact endL
 ·obtain ⟨x,j,I⟩:=obind I
  refine b2s_S slA j ?_
  exact tZ
theorem ZHC {f v0 g v1 r} (I:Zju f g=some r) (k:sc h eI v0 f) (f1:sc h eI v1 g):zL 217 #[v0,v1] h ψ eI r:=by
 refine zv ⟨[(3,[(12,tkI)])],[],[],[]⟩ Tryz.func217 ?_
 have C:=sZ hψ
 refine vL k C.le ?_
 refine mkO eI I fun l o s C I=>?_
 refine Zm slA ?_
 refine ⟨fun n c e=>∃ xs,S ψ h e [.it oL [o] xs]/\loopN (ZhT f g l) n (c,xs)=some r,endI,?_⟩
 rintro n _ c e ⟨xs,C,p⟩
 obtain ⟨m,a,rfl,I,O⟩:=Zh p
 refine brQ I (fun I=>?_) fun I=>?_
 ·refine ixI slA I fun u I=>?_
  refine ixI slA I fun v I=>?_
  refine ixA slA I fun w x i j I=>?_
  refine st1_S C 0 rfl i j rfl (fun _=>⟨rfl,rfl⟩) fun y C=>?_
  dsimp at C
  exact endL
 ·obtain rfl:=oI I
  obtain rfl:=oI O
  exact endR
end
theorem ZuC {ψ:CM} {k h:Heap} {os:List Ob} {E0:El (List Int)} {x0:List (List Int)} {v0:Value} {j:(List Int)->(List Int)->Option Int} {i:Nat} {a:List Value} {r:List (List Int)} (I:Zei x0 j=some r) (C:S ψ k h (.it (El.ow E0) [v0] x0::os)) (y:ctx.okf i=true) (k1:∀ {h1:Heap},ExtH k h1->∀ {ψ1:CM},CLe ψ1 (hcell h1)->∀ {o:List Int} {f:Value} {p:List Int} {g:Value} {s:Int},j o p=some s->SlC (hcell h1) eI f o->SlC (hcell h1) eI g p->CallsQ True P i (([f,g]:List Value)++a).toArray h1 (fun v h'=>v=.int .i64 s/\S ψ1 h1 h' [])) (u:E0.z=1:=by exact rfl) (w:Frz E0 eL:=by first|exact ZI (Zk _)|exact Zac _):CallsH P 218 #[v0,.func (.func i) #[] a.toArray] h (fun v h'=>v=.tuple #[]/\S ψ k h' (.it (El.ow E0) [v0] r::os)):=by
  unfold Zei at I
  split at I
  · rename_i x
    obtain rfl:=oI I
    obtain ⟨fn,hf,l,hn⟩:=ctxOk.fns i y
    obtain ⟨c,l⟩:=Option.isSome_iff_exists.1 l
    exact ZxW Tryz.sortF Tryz.sortG C (Go.Proofs.enters_of hf hn l) (fun e _=>k1 e) x.1 x.2 u w
  · cases I
section
variable {ψ:CM} {h:Heap} (hψ:CLe ψ (hcell h))
include hψ
theorem Zs4 {degree0 genera1 v1 r} (I:Zfh degree0 genera1=some r) (f1:sc h eL v1 genera1):CallsH P 179 #[.int .i64 degree0,v1] h (fun v h'=>∃ w0,v=.tuple #[w0,.bool r.2]/\S ψ h h' [.it (El.ow oL) [w0] r.1]):=by
 refine zv ⟨[(4,[(6,.v),(8,tkI)]),(7,[(6,.v),(30,tkI)])],[],[],[]⟩ Tryz.func179 ?_
 have C:=sZ hψ
 refine cm1 I C (fun s hx=>ZG4 s hx) fun aq ar au C I=>⟨_,rfl,?_⟩
 refine ZG oneA ?_
 refine Zj4 C fun av aw C=>?_
 refine ZHM (κ:=ByteArray) (ν:=Bool) kStr vBool C fun l ax C=>?_
 refine ixA slA I fun ay az ad e I=>?_
 refine ZaX C 1 rfl ad e fun b0 hd=>?_
 refine cl0 I C (fun ab _ _ a1=>Zqb ab.fle a1 (C.rowC 1 rfl hd e (Zk _))) fun b1 b2 C I=>⟨_,rfl,?_⟩
 refine ZrC (v:=true) ZoQ C 0 rfl rfl rfl fun b3 C=>?_
 dsimp at C
 refine ⟨fun n v6 k8 o=>∃ a2 mp,S ψ h o [.mp l (mkV kStr vBool mp),.it (El.ow oL) [v6] a2]/\loopN (ZcK genera1) n (a2,k8,mp)=some r,endI,?_⟩
 rintro n _ v6 k8 o ⟨a2,mp,C,hn⟩
 obtain ⟨m,a,rfl,I,O⟩:=Zh hn
 refine Zm slA ?_
 refine brQ I (fun I=>?_) fun I=>?_
 ·refine vL f1 C.le ?_
  refine ⟨fun p g u w=>∃ a0 c,S ψ h w [.mp l (mkV kStr vBool c),.it (El.ow oL) [g] a0]/\loopN (Zck genera1 k8) p (a0,u,c)=some a,endI,?_⟩
  rintro p _ g u w ⟨a0,c,C,a3⟩
  obtain ⟨b4,b5,rfl,I,i⟩:=Zh a3
  refine brQ I (fun I=>?_) fun I=>?_
  ·refine ixV f1 C.le I fun b6 b7 f I=>?_
   refine ixA slA I fun b8 b9 a4 j I=>?_
   refine ZaX C 1 rfl a4 j fun ba a5=>?_
   refine cl1 I C (fun ae _ _ a6=>ZHC ae.fle a6 (C.rowC 1 rfl a5 j (Zk _)) slA) fun bb bc bd C I=>⟨_,rfl,?_⟩
   refine cm0 I C (fun s hx=>Zqb s hx slA) fun be al C I=>⟨_,rfl,?_⟩
   refine ZyD ZoQ C 1 rfl rfl ?_
   refine brQ I (fun I=>?_) fun I=>?_
   ·refine ZrC (v:=true) ZoQ C 1 rfl rfl rfl fun am C=>?_
    dsimp at C
    refine ZG oneA ?_
    refine piA I 1 fun bf bg an C I=>?_
    exact endL
   ·exact endL
  ·refine Zm slA ?_
   refine brQ I (fun I=>?_) fun I=>?_
   ·have C:=C.nilO (E:=oL)
    obtain rfl:=oI I
    obtain rfl:=oI i
    obtain rfl:=oI O
    exact endR
   ·obtain rfl:=oI I
    obtain rfl:=oI i
    exact endM
 ·have C:=C.pull 1 rfl
  dsimp only [List.eraseIdx] at C
  obtain ⟨bh,a7,I⟩:=obind I
  obtain ⟨ao,bi,k,x⟩:=id C
  refine (ZuC a7 (k.upS x) κ (fun bj=>fun a8=>fun af ag ah=>ZsC a8 af ag ah)).mono fun bk ap ⟨a9,y⟩=>⟨a9,?_⟩
  replace C:=k.downS y
  clear y k x
  obtain rfl:=oI I
  obtain rfl:=oI O
  exact endR
theorem Zuq {x0:List (List Int)} {v0:Value} {a0:List Int} {v1:Value} {j:(List Int)->(List Int)->Option Int} {p:Nat} {c:List Value} {r:Int×Bool} (I:ZdE x0 a0 j=some r) (u:sc h eL v0 x0) (f1:sc h eI v1 a0) (o2:ctx.okf p=true) (k2:∀ {h1:Heap},ExtH h h1->∀ {ψ1:CM},CLe ψ1 (hcell h1)->∀ {y0:List Int} {e:Value} {y1:List Int} {g:Value} {r1:Int},j y0 y1=some r1->SlC (hcell h1) eI e y0->SlC (hcell h1) eI g y1->CallsH P p (([e,g]:List Value)++c).toArray h1 (fun v h'=>v=.int .i64 r1/\S ψ1 h1 h' [])):zR 180 #[v0,v1,.func (.func p) #[] c.toArray] h ψ (.tuple #[.int .i64 r.1,.bool r.2]):=by
 refine zv ⟨[(3,[(9,tkI),(10,tkI)])],[],[],[]⟩ Tryz.func180 ?_
 have C:=sZ hψ
 refine vL u C.le ?_
 refine lp2 I (nlS C) fun m i9 a6 a7 a C I O=>?_
 refine brQ I (fun I=>?_) fun I=>?_
 ·obtain ⟨_,hx,I⟩:=obind I
  refine ⟨Zsn hx,?_⟩
  refine ixV u C.le I fun a8 a9 f I=>?_
  obtain ⟨aa,w,I⟩:=obind I
  obtain ⟨φ,L,s,k⟩:=id C
  refine Za9 o2 ?_
  refine (k2 C.ext s.fle w slA slA).mono fun ab ac ⟨eq,t⟩=>⟨_,eq,?_⟩
  replace C:=join0 s k t
  clear t s k
  exact brQ I (fun I=>tZ) fun I=>tZ
 ·refine brY fun I=>?_
  refine ixV u C.le I fun ad ae af I=>?_
  obtain ⟨ag,x,I⟩:=obind I
  obtain ⟨a5,ah,i,l⟩:=id C
  refine Za9 o2 ?_
  refine (k2 C.ext i.fle x slA slA).mono fun ai aj ⟨y,o⟩=>⟨_,y,?_⟩
  replace C:=join0 i l o
  clear o i l
  exact tZ
theorem ZEM {degree0 elemen1 v1 r} (I:ZlR degree0 elemen1=some r) (x:SlC ψ eL v1 elemen1):CallsH P 131 #[.int .i64 degree0,v1] h (fun v h'=>∃ w0 w1,v=.tuple #[w0,w1,.bool r.2.2]/\S ψ h h' [.it (El.ow eL) [w0] r.1,.it (El.ow eL) [w1] r.2.1]):=by
 refine zv ⟨[(4,[(7,.v),(8,.v),(9,.b),(21,tkI)])],[(8,[])],[],[]⟩ Tryz.func131 ?_
 have C:=sZ hψ
 obtain ⟨a5,l,I⟩:=obind I
 obtain ⟨φ,L,s,g⟩:=id C
 refine (Zs4 s.fle l SlC.nil).mono fun a6 a7 ⟨a8,eq,t⟩=>⟨_,_,eq,?_⟩
 replace C:=join1 s g t
 clear t s g
 refine vL x C.leF ?_
 have C:=C.nilO (E:=eL)
 refine ⟨fun n o p i e j=>∃ a4 c,S ψ h j [.it (El.ow eL) [o] a4,.it (El.ow oL) [p] c]/\loopN (ZaL degree0 elemen1) n (a4,c,i,e)=some r,endI,?_⟩
 rintro n _ o p i e j ⟨a4,c,C,hn⟩
 obtain ⟨m,a,rfl,I,O⟩:=Zh hn
 refine brQ I (fun I=>?_) fun I=>?_
 ·refine ixV x C.leF I fun y a9 f I=>?_
  refine ⟨fun k=>S ψ h k [.it (El.ow eL) [o] a4,.it (El.ow oL) [p] c]/\ZlP degree0 a4 e y=some a,?_,?_⟩
  ·refine cl0 I C (fun a0 _ _ u=>Zuq a0.fle u slA (f.mono C.leF) κ (fun aa=>fun w=>fun a1 a2 a3=>ZeD w a1 a2 a3)) fun ab ac C I=>⟨_,_,rfl,?_⟩
   refine brQ I (fun I=>?_) fun I=>?_
   ·exact endL
   ·refine brQ I (fun I=>?_) fun I=>?_
    ·exact endL
    ·exact endC
  ·rintro _ k ⟨C,I⟩
   refine ZG (f.mono C.leF).one ?_
   have C:=C.arg f
   refine piA I 0 fun ad ae af C I=>?_
   refine cm1 I C (fun s l=>Zs4 s l slA) fun ag ah ai C I=>⟨_,_,rfl,?_⟩
   exact endL
 ·have C:=C.frzIn 1 rfl (ZI (Zk _))
  dsimp at C
  obtain rfl:=oI I
  obtain rfl:=oI O
  exact endR
theorem ZwQ {g e r} (I:Zll g=some r) (c:SlC ψ eL e g.Elements):zR 75 #[.agg #[.int .i64 g.Degree,e]] h ψ (.bool r):=by
 refine zv ⟨[(4,[(3,tkI)])],[(3,[])],[],[]⟩ Tryz.func75 ?_
 have C:=sZ hψ
 refine new_S C fun p y C=>?_
 refine ⟨fun i=>S ψ h i [.box p [.int .i64 g.Degree,e]]/\Zm0 g=some r,?_,?_⟩
 ·refine bI C 0 0 ?_
  refine cm0 I C (fun s x=>Zaz s x) fun r9 a0 C I=>⟨_,rfl,?_⟩
  refine brZ fun I=>?_
  refine bV C 0 1 ?_
  refine vL c C.leF ?_
  refine brZ fun I=>?_
  refine bV C 0 1 ?_
  refine vL c C.leF ?_
  refine brZ fun I=>?_
  refine lsA ?_
  refine cl0 I C (fun u _ _ k=>Zqh u.fle k (c.mono C.leF)) fun a1 a2 C I=>⟨_,rfl,?_⟩
  refine brZ fun I=>?_
  exact endC
 ·rintro _ i ⟨C,I⟩
  refine lp1 (os:=[.box p [.int .i64 g.Degree,e]]) I (pk C [0]) fun m y3 a3 a C I O=>?_
  refine bV C 0 1 ?_
  refine vL c C.leF ?_
  refine brQ I (fun I=>?_) fun I=>?_
  ·refine bV C 0 1 ?_
   refine ixV c C.leF I fun a4 a5 f I=>?_
   refine bV C 0 1 ?_
   refine ixV c C.leF I fun a6 a7 v I=>?_
   refine cl0 I C (fun s _ _ l=>ZeD s.fle l (f.mono C.leF) (v.mono C.leF)) fun a8 a9 C I=>⟨_,rfl,?_⟩
   refine brZ fun I=>?_
   exact endL
  ·refine lsA ?_
   refine cl2 I C (fun j _ _ o=>ZEM j.fle o (c.mono j.bas)) fun aa ab w ac C I=>⟨_,_,_,rfl,?_⟩
   refine brY fun I=>?_
   refine Zm slA ?_
   refine bV C 2 1 ?_
   refine vL c C.leF ?_
   exact tZ
theorem Zyw {e c r} (I:ZmB e=some r) (i:sc h eL c e.Rows):CallsH P 76 #[.agg #[.int .i64 e.Kind,.int .i64 e.Size,c]] h (fun v h'=>∃ w0,v=.agg #[.int .i64 r.Degree,w0]/\S ψ h h' [.it (El.ow oL) [w0] r.Elements]):=by
 refine zv ⟨[],[],[],[(1,⟨kdL [0,2,0,1,3,0,4],.fin [2,3,4,0,1,5,6],true⟩)]⟩ Tryz.func76 ?_
 have C:=sZ hψ
 refine new_S C fun p k C=>?_
 refine new_S C fun u g C=>?_
 refine ⟨fun _=>False,?_⟩
 have f:=C
 have a:=eX g
 refine bV C 1 2 ?_
 obtain ⟨w,j,I⟩:=obind I
 refine ce1 C (fun s=>Zda s.fle j slA) fun x l y C=>⟨_,rfl,eZ (a.trans y),?_⟩
 replace a:=a.trans y
 refine ZJ ?_
 refine ldI_K (f.cells 1 rfl) 1 rfl rfl ?_
 refine ZG oneA ?_
 (iterate 2 refine boxA fun o C=>?_)
 refine lsA ?_
 exact endS
theorem Zl6 {k g r} (I:Zb5 k=some r) (w:sc h eL g k.Rows):zR 31 #[.agg #[.int .i64 k.Kind,.int .i64 k.Size,g]] h ψ (.bool r):=by
 refine zv ⟨[],[],[],[(3,⟨kdL [0,1,3,0,2,0,0,0,1,4,0,0],.fin [0,1,2,3,4,5,6,7,8,9,10,11],true⟩),(7,⟨kdL [0,1,3,0,2,0,0,0,1,4,0,0],.fin [0,1,2,3,4,5,6,7,8,9,10,11],true⟩)]⟩ Tryz.func31 ?_
 have C:=sZ hψ
 refine new_S C fun b1 v C=>?_
 refine bI C 0 0 ?_
 refine brQ I (fun I=>?_) fun I=>?_
 ·refine ⟨fun _=>False,?_⟩
  have l:=C
  have c:=eX v
  refine bV C 0 2 ?_
  obtain ⟨ac,a,I⟩:=obind I
  refine ce0 C (fun s=>ZbX s.fle a slA) fun ad xE C=>⟨_,rfl,eZ (c.trans xE),?_⟩
  replace c:=c.trans xE
  refine ZJ ?_
  refine ldI_K (l.cells 0 rfl) 1 rfl rfl ?_
  refine brY fun I=>?_
  refine bV C 0 2 ?_
  refine cm0 I C (fun s a=>ZtZ s a slA) fun ae af C I=>⟨_,rfl,?_⟩
  exact tZ
 ·refine brQ I (fun I=>?_) fun I=>?_
  ·refine lsA ?_
   refine cm1 I C (fun s a=>Ztd s a slA) fun ag ah ai C I=>⟨_,_,rfl,?_⟩
   have C:=frA 0
   refine cm0 I C (fun s a=>ZrV s a slA) fun aj ak C I=>⟨_,rfl,?_⟩
   exact tZ
  ·refine brQ I (fun I=>?_) fun I=>?_
   ·refine ⟨fun _=>False,?_⟩
    have o:=C
    have e:=eX v
    refine bV C 0 2 ?_
    obtain ⟨al,x,I⟩:=obind I
    refine ce0 C (fun s=>ZbX s.fle x slA) fun am xE C=>⟨_,rfl,eZ (e.trans xE),?_⟩
    replace e:=e.trans xE
    refine ZJ ?_
    refine ldI_K (o.cells 0 rfl) 1 rfl rfl ?_
    refine brY fun I=>?_
    refine bV C 0 2 ?_
    refine cm0 I C (fun s a=>ZCR s a slA) fun an ao C I=>⟨_,rfl,?_⟩
    exact tZ
   ·refine brQ I (fun I=>?_) fun I=>?_
    ·refine bV C 0 2 ?_
     refine vL w C.le ?_
     refine brY fun I=>?_
     refine lsA ?_
     refine cm1 I C (fun s a=>ZBu s a slA) fun ap aq ar C I=>⟨_,_,_,rfl,?_⟩
     have C:=frA 0
     refine cm0 I C (fun s a=>ZCi s a slA) fun au a2 C I=>⟨_,rfl,?_⟩
     exact tZ
    ·refine brQ I (fun I=>?_) fun I=>?_
     ·refine lsA ?_
      refine cm2 I C (fun s a=>ZrN s a slA) fun av aw y a3 C I=>⟨_,_,_,_,rfl,?_⟩
      have C:=frA 1
      refine cm0 I C (fun s a=>Zst s a slA slA) fun ax a4 C I=>⟨_,rfl,?_⟩
      exact tZ
     ·refine brQ I (fun I=>?_) fun I=>?_
      ·refine lsA ?_
       refine cm2 I C (fun s a=>ZtO s a slA) fun ay az a0 a5 C I=>⟨_,_,_,rfl,?_⟩
       refine new_S C fun b3 a6 C=>?_
       (iterate 2 refine boxA fun a7 C=>?_)
       exact tZ
      ·refine brY fun I=>?_
       refine lsA ?_
       refine cm1 I C (fun s a=>Zyw s a slA) fun b0 b2 a8 C I=>⟨_,_,rfl,?_⟩
       have C:=frA 0
       obtain ⟨b4,p,I⟩:=obind I
       obtain ⟨a1,a9,f,i⟩:=id C
       refine (ZwQ (CLe.refl _) p slA).mono fun aa ab ⟨u,j⟩=>⟨_,u,?_⟩
       replace C:=join0 f i (j.weak f.fle)
       clear j f i
       exact tZ
theorem ZtP {c r} (I:Zgy c=some r)  :zR 42 #[.string c] h ψ (.bool r):=by
 refine zv ⟨[(4,[(18,tkI)])],[(3,[]),(7,[(5,.b)]),(8,[(6,.b)])],[],[]⟩ Tryz.func42 ?_
 have C:=sZ hψ
 refine ⟨fun f=>S ψ h f []/\Zpp c=some r,?_,?_⟩
 ·refine brZ fun I=>?_
  exact brQ I (fun I=>tZ) fun I=>tZ
 ·rintro _ f ⟨C,I⟩
  refine s2b_S C fun e l C=>?_
  refine Zm slA ?_
  refine lp1 (os:=[.it (El.sl (El.int .u8)) [e] (byts c)]) I (pk C [0]) fun m g o a C I O=>?_
  refine brY fun I=>?_
  refine ixI slA I fun k I=>?_
  refine ⟨fun u i=>S ψ h i [.it (El.sl (El.int .u8)) [e] (byts c)]/\Za2 g k u=some a,?_,?_⟩
  ·refine brQ I (fun I=>?_) fun I=>?_
   ·exact endC
   ·exact endC
  ·rintro _ u i ⟨C,I⟩
   refine ⟨fun w j=>S ψ h j [.it (El.sl (El.int .u8)) [e] (byts c)]/\Za3 g u w=some a,?_,?_⟩
   ·refine brQ I (fun I=>?_) fun I=>?_
    ·exact endC
    ·exact endC
   ·rintro _ w j ⟨C,I⟩
    refine brQ I (fun I=>?_) fun I=>?_
    ·refine brZ fun I=>?_
     refine brZ fun I=>?_
     exact endL
    ·exact endL
theorem ZyT {x0 a r} (I:Zjc x0=some r) (e:sc h eL a x0.Object.Rows):zR 64 #[.agg #[.string x0.Name,.int .i64 x0.Object.Kind,.int .i64 x0.Object.Size,a,.string x0.Key]] h ψ (.bool r):=by
 refine zv annO Tryz.func64 ?_
 have C:=sZ hψ
 refine new_S C fun j f C=>?_
 refine bS C 0 0 ?_
 refine cm0 I C (fun s c=>ZtP s c) fun k g C I=>⟨_,rfl,?_⟩
 refine brY fun I=>?_
 refine lsA ?_
 refine cm0 I C (fun s c=>Zl6 s c slA) fun l i C I=>⟨_,rfl,?_⟩
 refine brY fun I=>?_
 refine bS C 0 4 ?_
 refine brY fun I=>?_
 refine bS C 0 4 ?_
 exact tZ
theorem ZHu {u e r} (I:ZkF u=some r) (c:sc h ZL e u.Items):zR 30 #[.agg #[e]] h ψ (.bool r):=by
 refine zv ⟨[(2,[(8,tkI)])],[],[],[]⟩ Tryz.func30 ?_
 have C:=sZ hψ
 refine new_S C fun b1 a6 C=>?_
 refine bV C 0 0 ?_
 refine vL c C.le ?_
 refine lp1 (os:=[.box b1 [e]]) I (pk C [0]) fun m v a7 a C I O=>?_
 refine brQ I (fun I=>?_) fun I=>?_
 ·refine ixA slA I fun a8 a9 ad g I=>?_
  obtain ⟨cs,ck,hr⟩:=c.cells ad g rfl
  obtain ⟨aa,rfl,f⟩:=Zam hr
  refine lsA ?_
  refine new_S C fun b4 ab C=>?_
  (iterate 5 refine boxA fun ac C=>?_)
  refine lsA ?_
  refine cm0 I C (fun s g=>ZyT s g slA) fun ae a2 C I=>⟨_,rfl,?_⟩
  refine brZ fun I=>?_
  refine brQ I (fun I=>?_) fun I=>?_
  ·refine lsA ?_
   refine ixA slA I fun af ag i j I=>?_
   obtain ⟨a3,k,l⟩:=c.cells i j rfl
   obtain ⟨ah,rfl,ai⟩:=Zam l
   refine kS k C.le 0 ?_
   refine brZ fun I=>?_
   refine bV C 1 0 ?_
   obtain ⟨aj,o,I⟩:=obind I
   refine Zd7 none (some v) c o rfl fun ak al=>?_
   refine lsA ?_
   refine cm0 I C (fun s g=>Zoy s g slA slA) fun am a4 C I=>⟨_,rfl,?_⟩
   refine brZ fun I=>?_
   exact endL
  ·refine bV C 1 0 ?_
   obtain ⟨w,p,I⟩:=obind I
   refine Zd7 none (some v) c p rfl fun x an=>?_
   refine lsA ?_
   refine cm0 I C (fun s g=>Zoy s g slA slA) fun y a5 C I=>⟨_,rfl,?_⟩
   refine brZ fun I=>?_
   exact endL
 ·refine bV C 0 0 ?_
  refine vL c C.le ?_
  exact tZ
theorem ZuE {n0 r} (I:Zgn n0=some r)  :zR 132 #[.int .i64 n0] h ψ (.bool r):=by
 refine zv annO Tryz.func132 ?_
 have C:=sZ hψ
 refine cm0 I C (fun s a=>Zaz s a) fun e c C I=>⟨_,rfl,?_⟩
 exact tZ
end
theorem Zym {ψ:CM} {j h:Heap} {os:List Ob} {x0:List Zb} {v0:Value} {f:Zb->Zb->Option Int} {i:Nat} {g:List Value} {r:List Zb} (I:Zhq x0 f=some r) (C:S ψ j h (.it (El.ow Zf) [v0] x0::os)) (s:ctx.okf i=true) (k1:∀ {h1:Heap},ExtH j h1->∀ {ψ1:CM},CLe ψ1 (hcell h1)->∀ {k:Zb} {l:Zb} {p:Int},f k l=some p->CallsQ True P i (([.agg #[.int .i64 k.A,.int .i64 k.B],.agg #[.int .i64 l.A,.int .i64 l.B]]:List Value)++g).toArray h1 (fun v h'=>v=.int .i64 p/\S ψ1 h1 h' [])):CallsH P 279 #[v0,.func (.func i) #[] g.toArray] h (fun v h'=>v=.tuple #[]/\S ψ j h' (.it (El.ow Zf) [v0] r::os)):=by
  unfold Zhq at I
  split at I
  · rename_i u
    obtain rfl:=oI I
    obtain ⟨fn,hf,o,w⟩:=ctxOk.fns i s
    obtain ⟨c,o⟩:=Option.isSome_iff_exists.1 o
    obtain ⟨⟨cf,y,a3⟩,a0⟩:=u
    have a4:(fun a c=>(f a c).getD 0)=cf:=by funext a c;rw [y];rfl
    rw [a4]
    haveI:Inhabited Zb:=⟨(Zb.mk (0:Int) (0:Int))⟩
    exact ZCv (ρ:=Tryz.sortK_ren) (E:=Zf) (enc:=fun x=>[.int .i64 x.A,.int .i64 x.B]) Tryz.sortK Tryz.isAgg147 Tryz.sizeOf147 (fun {φ L cs x} h=>⟨(ZnI φ φ L cs x h).1,Zaw h⟩) (fun _ x=>⟨[.int .i64 x.A],[.int .i64 x.B],[],[],rfl,rfl,⟨rfl,rfl⟩,⟨rfl,rfl⟩⟩) rfl a3 C (Go.Proofs.enters_of hf w o) (fun e _=>k1 e) y a0
  · cases I
theorem ZGF {ψ:CM} {c h:Heap} {os:List Ob} {x0:List Zb} {v0:Value} {r:List Zb} (I:Zir x0=some r) (C:S ψ c h (.it (El.ow Zf) [v0] x0::os)):CallsH P 280 #[v0] h (fun v g=>∃ w0,v=w0/\S ψ c g (.it (El.ow Zf) [w0] r::os)):=by
 apply ZEs
 unfold Zir at I
 split at I
 case isFalse=>cases I
 rename_i l
 exact Zs9 (E:=Zf) ZnI (z:=2) rfl (zero:=[.int .i64 0,.int .i64 0]) rfl (fun h p K=>ldI .i64 h p fun a=>ldI .i64 h (p.add 1) fun b=>K ⟨a,b⟩) (fun h p y K=>vStore1 h p (.int .i64 y.A) fun h1=>vStore1 h1 (p.add 1) (.int .i64 y.B) K) (fun a b=>a.A==b.A&&a.B==b.B) (fun o I hi j=>by obtain ⟨cs,e,u⟩:=o.cells I hi rfl;obtain rfl:=Zaw u;exact ldI_K e 0 rfl rfl (ldI_K e 1 rfl rfl j)) (fun {h os v xs k y x0 p K} C i x I j w=>stN_S (cs:=[.int .i64 y.A,.int .i64 y.B]) C i x I j rfl (fun _=>⟨[.int .i64 y.A],[.int .i64 y.B],[],[],rfl,rfl,⟨rfl,rfl⟩,⟨rfl,rfl⟩⟩) w) l I C (R:=fun v g=>∃ w0,v=w0/\S ψ c g (.it (El.ow Zf) [w0] r::os)) fun v g C=>⟨v,rfl,C⟩
section
variable {ψ:CM} {h:Heap} (hψ:CLe ψ (hcell h))
include hψ
theorem Ztr {edges0 v0 r} (I:Ziy edges0=some r) (p:sc h Zf v0 edges0):zL 248 #[v0] h ψ Zf r:=by
 refine zv ⟨[(3,[(3,.v),(8,tkI)])],[],[],[]⟩ Tryz.func248 ?_
 have C:=sZ hψ
 refine vL p C.le ?_
 have C:=C.nilO (E:=Zf)
 refine ⟨fun n u v f=>∃ e,S ψ h f [.it (El.ow Zf) [u] e]/\loopN (Zgh edges0) n (e,v)=some r,endI,?_⟩
 rintro n _ u v f ⟨e,C,x⟩
 obtain ⟨m,a,rfl,I,O⟩:=Zh x
 refine brQ I (fun I=>?_) fun I=>?_
 ·refine ixA slA I fun c a1 y hx I=>?_
  obtain ⟨cs,ck,hr⟩:=p.cells y hx rfl
  obtain rfl:=Zaw hr
  refine lsA ?_
  refine new_S C fun b5 a2 C=>?_
  (iterate 2 refine boxA fun a3 C=>?_)
  refine lsA ?_
  obtain ⟨a4,i,I⟩:=obind I
  refine ZaP C 1 rfl (fun _=>⟨[.int .i64 (if (c.B:Int)<c.A then c.B else c.A)],[.int .i64 (if (c.B:Int)>c.A then c.B else c.A)],[],[],rfl,rfl,⟨rfl,rfl⟩,⟨rfl,rfl⟩⟩) rfl rfl i fun a5 a6 C=>?_
  dsimp at C
  exact endL
 ·obtain ⟨a7,j,I⟩:=obind I
  obtain ⟨φ,L,s,g⟩:=id C
  refine (Zym j (s.upS g) κ (fun a8=>fun k=>fun w  =>ZGy k w )).mono fun a9 aa ⟨eq,t⟩=>⟨eq,?_⟩
  replace C:=s.downS t
  clear t s g
  obtain ⟨ab,l,I⟩:=obind I
  refine (ZGF l C ).mono fun ac ae ⟨af,o,C⟩=>⟨_,o,?_⟩
  obtain rfl:=oI I
  obtain rfl:=oI O
  exact endR
theorem ZvC {colors0 v0 edges1 v1 r} (I:Zf8 colors0 edges1=some r) (c:SlC ψ eI v0 colors0) (e:sc h Zf v1 edges1):CallsH P 219 #[v0,v1] h (fun v w=>∃ w0 w1,v=.tuple #[.agg #[w0,w1],.int .i64 r.2]/\S ψ h w [.it eL [w0] r.1.Colors,.it (El.ow Zf) [w1] r.1.Edges]):=by
 refine zv ⟨[],[(3,[])],[],[]⟩ Tryz.func219 ?_
 have C:=sZ hψ
 refine new_S C fun f j C=>?_
 refine ⟨fun a=>S ψ h a [.box f [(.slice none 0 0),(.slice none 0 0)]]/\ZpN colors0 edges1=some r,?_,?_⟩
 ·refine vL c C.leF ?_
  refine brQ I (fun I=>?_) fun I=>?_
  ·(iterate 2 refine boxA fun k C=>?_)
   refine lsA ?_
   have C:=C.nilF (E:=eI)
   have C:=C.nilO (E:=Zf)
   exact endS
  ·refine vL e C.le ?_
   refine brQ I (fun I=>?_) fun I=>?_
   ·(iterate 2 refine boxA fun g C=>?_)
    refine lsA ?_
    have C:=C.nilF (E:=eI)
    have C:=C.nilO (E:=Zf)
    exact endS
   ·exact endC
 ·rintro _ a ⟨C,I⟩
  refine cm1 I C (fun s i=>Ztr s i slA) fun l o p C I=>⟨_,rfl,?_⟩
  refine ZG (c.mono C.leF).one ?_
  refine ZG oneA ?_
  (iterate 2 refine boxA fun u C=>?_)
  refine lsA ?_
  have C:=C.arg c
  exact endS
theorem ZCt {l v0 y1 r} (I:Zez l y1=some r) (f0:sc h eL v0 l):CallsH P 181 #[v0,.bool y1] h (fun v h'=>∃ w0 w1,v=.tuple #[.agg #[w0,w1],.int .i64 r.2]/\S ψ h h' [.it eL [w0] r.1.Colors,.it (El.ow Zf) [w1] r.1.Edges]):=by
 refine zv ⟨[(8,[(7,.v),(29,tkI)]),(17,[(10,.v),(49,tkI)]),(20,[(10,.v),(53,tkI)])],[(13,[(9,tkI)])],[],[]⟩ Tryz.func181 ?_
 have C:=sZ hψ
 refine new_S C fun b4 aq C=>?_
 refine cm0 I C (fun s hx=>ZtZ s hx slA) fun ar au C I=>⟨_,rfl,?_⟩
 refine brQ I (fun I=>?_) fun I=>?_
 ·(iterate 2 refine boxA fun av C=>?_)
  refine lsA ?_
  have C:=C.nilF (E:=eI)
  have C:=C.nilO (E:=Zf)
  exact endS
 ·refine cm0 I C (fun s hx=>ZbX s hx slA) fun c aw C I=>⟨_,rfl,?_⟩
  refine brQ I (fun I=>?_) fun I=>?_
  ·(iterate 2 refine boxA fun ax C=>?_)
   refine lsA ?_
   have C:=C.nilF (E:=eI)
   have C:=C.nilO (E:=Zf)
   exact endS
  ·have C:=C.nilO (E:=eI)
   refine ⟨fun n o p a2=>∃ j,S ψ h a2 [.it oL [o] j,.box b4 [(.slice none 0 0),(.slice none 0 0)]]/\loopN (Zdd l y1 c) n (j,p)=some r,endI,?_⟩
   rintro n _ o p a2 ⟨j,C,hn⟩
   obtain ⟨m,a,rfl,I,O⟩:=Zh hn
   refine brQ I (fun I=>?_) fun I=>?_
   ·refine gzA I fun I=>?_
    refine ⟨fun y9 u=>S ψ h u [.it oL [o] j,.box b4 [(.slice none 0 0),(.slice none 0 0)]]/\ZgP j p y9=some a,?_,?_⟩
    ·refine brQ I (fun I=>?_) fun I=>?_
     ·refine brQ I (fun I=>?_) fun I=>?_
      ·exact endC
      ·exact endC
     ·exact endC
    ·rintro _ y9 u ⟨C,I⟩
     refine puA I 0 fun ay az al C I=>?_
     exact endL
   ·have C:=C.nilO (E:=Zf)
    refine ⟨fun a3 a4 e w=>∃ x,S ψ h w [.it (El.ow Zf) [a4] x,.it oL [o] j,.box b4 [(.slice none 0 0),(.slice none 0 0)]]/\loopN (Zen l c j) a3 (x,e)=some a,endI,?_⟩
    rintro a3 _ a4 e w ⟨x,C,a8⟩
    obtain ⟨b0,af,rfl,I,a9⟩:=Zh a8
    refine brQ I (fun I=>?_) fun I=>?_
    ·refine ⟨fun a5 k g y=>∃ i,S ψ h y [.it (El.ow Zf) [k] i,.it oL [o] j,.box b4 [(.slice none 0 0),(.slice none 0 0)]]/\loopN (ZfI l c e) a5 (i,g)=some af,endI,?_⟩
     rintro a5 _ k g y ⟨i,C,aa⟩
     obtain ⟨b1,b2,rfl,I,ab⟩:=Zh aa
     refine brQ I (fun I=>?_) fun I=>?_
     ·refine ixV f0 C.le I fun b3 b5 f I=>?_
      refine ixI slA I fun a0 I=>?_
      refine ZO (E:=Zf) (css:=[[.int .i64 e,.int .i64 (ε.wrap ((ε.wrap ((ε.wrap (3*c))+(ε.wrap (c*e))))+g))],[.int .i64 (ε.wrap (c+g)),.int .i64 (ε.wrap ((ε.wrap ((ε.wrap (3*c))+(ε.wrap (c*e))))+g))],[.int .i64 (ε.wrap ((ε.wrap (2*c))+a0)),.int .i64 (ε.wrap ((ε.wrap ((ε.wrap (3*c))+(ε.wrap (c*e))))+g))]]) (xs:=([(Zb.mk e (ε.wrap ((ε.wrap ((ε.wrap (3*c))+(ε.wrap (c*e))))+g))),(Zb.mk (ε.wrap (c+g)) (ε.wrap ((ε.wrap ((ε.wrap (3*c))+(ε.wrap (c*e))))+g))),(Zb.mk (ε.wrap ((ε.wrap (2*c))+a0)) (ε.wrap ((ε.wrap ((ε.wrap (3*c))+(ε.wrap (c*e))))+g)))]:List Zb)) C (fun _=>⟨[],[],rfl,⟨[.int .i64 e],[.int .i64 (ε.wrap ((ε.wrap ((ε.wrap (3*c))+(ε.wrap (c*e))))+g))],[],[],rfl,rfl,⟨rfl,rfl⟩,⟨rfl,rfl⟩⟩,⟨[],[],rfl,⟨[.int .i64 (ε.wrap (c+g))],[.int .i64 (ε.wrap ((ε.wrap ((ε.wrap (3*c))+(ε.wrap (c*e))))+g))],[],[],rfl,rfl,⟨rfl,rfl⟩,⟨rfl,rfl⟩⟩,⟨[],[],rfl,⟨[.int .i64 (ε.wrap ((ε.wrap (2*c))+a0))],[.int .i64 (ε.wrap ((ε.wrap ((ε.wrap (3*c))+(ε.wrap (c*e))))+g))],[],[],rfl,rfl,⟨rfl,rfl⟩,⟨rfl,rfl⟩⟩,rfl⟩⟩⟩) rfl rfl fun b6 am C=>?_
      obtain ⟨b7,ac,I⟩:=obind I
      refine app_S C 1 rfl (ZbR ZnI slA) rfl rfl ac fun b8 an C=>?_
      dsimp at C
      exact endL
     ·obtain rfl:=oI I
      obtain rfl:=oI ab
      exact endM
    ·have C:=frA 1
     refine cl2 I C (fun ag ah _ ad=>ZvC ag.fle ad (frF ah 1 rfl) slA) fun b9 ba ai ao C I=>⟨_,_,_,rfl,?_⟩
     (iterate 2 refine boxA fun ap C=>?_)
     refine lsA ?_
     obtain rfl:=oI I
     obtain rfl:=oI a9
     obtain rfl:=oI O
     exact endR
theorem Zzv {zeros0 c r} (I:ZiO zeros0 c=some r)  :zL 249 #[.int .i64 zeros0,.int .i64 c] h ψ eI r:=by
 refine zv ⟨[(3,[(6,tkI)])],[],[],[]⟩ Tryz.func249 ?_
 have C:=sZ hψ
 refine mkO eI I fun k g l C I=>?_
 refine ⟨fun n k6 e=>∃ xs,S ψ h e [.it oL [g] xs]/\loopN (Zg7 zeros0 c) n (k6,xs)=some r,endI,?_⟩
 rintro n _ k6 e ⟨xs,C,i⟩
 obtain ⟨m,a,rfl,I,O⟩:=Zh i
 refine brQ I (fun I=>?_) fun I=>?_
 ·refine ixA slA I fun o p j f I=>?_
  refine st1_S C 0 rfl j f rfl (fun _=>⟨rfl,rfl⟩) fun s C=>?_
  dsimp at C
  exact endL
 ·obtain rfl:=oI I
  obtain rfl:=oI O
  exact endR
theorem Ztk {points0 e v1 r} (I:ZgL points0 e=some r) (f1:sc h eL v1 e):CallsH P 220 #[.int .i64 points0,v1] h (fun v h'=>∃ w0 w1,v=.tuple #[.agg #[w0,w1],.int .i64 r.2]/\S ψ h h' [.it eL [w0] r.1.Colors,.it (El.ow Zf) [w1] r.1.Edges]):=by
 refine zv ⟨[(3,[(6,.v),(13,tkI)]),(6,[(6,.v),(20,tkI)])],[],[],[]⟩ Tryz.func220 ?_
 have C:=sZ hψ
 refine new_S C fun b4 aa C=>?_
 refine vL f1 C.le ?_
 have C:=C.nilO (E:=Zf)
 refine ⟨fun n v6 g j=>∃ a0,S ψ h j [.it (El.ow Zf) [v6] a0,.box b4 [(.slice none 0 0),(.slice none 0 0)]]/\loopN (Zhj points0 e) n (a0,g)=some r,endI,?_⟩
 rintro n _ v6 g j ⟨a0,C,hn⟩
 obtain ⟨m,a,rfl,I,O⟩:=Zh hn
 refine brQ I (fun I=>?_) fun I=>?_
 ·refine ixV f1 C.le I fun a3 ab f I=>?_
  refine vL f C.le ?_
  refine ⟨fun k i l o=>∃ c,S ψ h o [.it (El.ow Zf) [i] c,.box b4 [(.slice none 0 0),(.slice none 0 0)]]/\loopN (Ze5 points0 g a3) k (c,l)=some a,endI,?_⟩
  rintro k _ i l o ⟨c,C,p⟩
  obtain ⟨ac,ad,rfl,I,u⟩:=Zh p
  refine brQ I (fun I=>?_) fun I=>?_
  ·refine ixI slA I fun a4 I=>?_
   obtain ⟨ae,w,I⟩:=obind I
   refine ZaP C 0 rfl (fun _=>⟨[.int .i64 a4],[.int .i64 (ε.wrap (points0+g))],[],[],rfl,rfl,⟨rfl,rfl⟩,⟨rfl,rfl⟩⟩) rfl rfl w fun af ag C=>?_
   dsimp at C
   exact endL
  ·obtain rfl:=oI I
   obtain rfl:=oI u
   exact endM
 ·refine cm0 I C (fun s x=>ZbX s x slA) fun ah ai C I=>⟨_,rfl,?_⟩
  refine cm1 I C (fun s x=>Zzv s x) fun aj ak al C I=>⟨_,rfl,?_⟩
  have C:=frA 0
  refine cl2 I C (fun a5 a6 _ y=>ZvC a5.fle y (frF a6 0 rfl) slA) fun am an a7 ao C I=>⟨_,_,_,rfl,?_⟩
  (iterate 2 refine boxA fun a9 C=>?_)
  refine lsA ?_
  obtain rfl:=oI I
  obtain rfl:=oI O
  exact endR
theorem Zy6 {c a r} (I:ZnC c=some r) (g:sc h eL a c.Blocks):CallsH P 182 #[.agg #[.int .i64 c.Points,a]] h (fun v h'=>∃ w0 w1,v=.tuple #[.agg #[w0,w1],.int .i64 r.2]/\S ψ h h' [.it eL [w0] r.1.Colors,.it (El.ow Zf) [w1] r.1.Edges]):=by
 refine zv annO Tryz.func182 ?_
 have C:=sZ hψ
 refine new_S C fun x i C=>?_
 refine new_S C fun y j C=>?_
 refine lsA ?_
 refine cm0 I C (fun s e=>ZrV s e slA) fun r5 k C I=>⟨_,rfl,?_⟩
 refine brQ I (fun I=>?_) fun I=>?_
 ·(iterate 2 refine boxA fun l C=>?_)
  refine lsA ?_
  have C:=C.nilF (E:=eI)
  have C:=C.nilO (E:=Zf)
  exact endS
 ·refine lsA ?_
  refine cm2 I C (fun s e=>Ztk s e slA) fun o p f u C I=>⟨_,_,_,rfl,?_⟩
  (iterate 2 refine boxA fun w C=>?_)
  refine lsA ?_
  exact endS
theorem ZDG {e g i j k c v1 messag2 v2 r} (I:Zjo e c messag2=some r) (u:sc h eL g e.qadd) (v:sc h eL i e.qsub) (w:sc h eL j e.qmul) (x:sc h eI k e.qinv) (f1:sc h eL v1 c) (f2:sc h eI v2 messag2):zL 250 #[.agg #[.int .i64 e.qq,g,i,j,k],v1,v2] h ψ eI r:=by
 refine zv ⟨[(3,[(17,tkI)])],[],[],[]⟩ Tryz.func250 ?_
 have C:=sZ hψ
 refine new_S C fun b3 a7 C=>?_
 refine ixV f1 C.le I fun a8 a9 f I=>?_
 refine vL f C.le ?_
 refine mkO eI I fun aa a2 ab C I=>?_
 refine vL f2 C.le ?_
 refine ⟨fun n l o=>∃ xs,S ψ h o [.it oL [a2] xs,.box b3 [.int .i64 e.qq,g,i,j,k]]/\loopN (Ze7 e c messag2) n (l,xs)=some r,endI,?_⟩
 rintro n _ l o ⟨xs,C,hn⟩
 obtain ⟨m,a,rfl,I,O⟩:=Zh hn
 refine brQ I (fun I=>?_) fun I=>?_
 ·refine ixI slA I fun ac I=>?_
  refine lsA ?_
  refine ixV f1 C.le I fun ad ae a3 I=>?_
  obtain ⟨af,y,I⟩:=obind I
  obtain ⟨φ,L,s,p⟩:=id C
  refine (Zwa y (s.upS p) (u.mono s.ubH) (v.mono s.ubH) (w.mono s.ubH) (x.mono s.ubH) (a3.mono s.ubH)).mono fun ag ah ⟨eq,t⟩=>⟨eq,?_⟩
  replace C:=s.downS t
  clear t s p
  exact endL
 ·obtain rfl:=oI I
  obtain rfl:=oI O
  exact endR
end
theorem ZBH {ψ:CM} {e h:Heap} {os:List Ob} {l:List Int} {v0:Value} {r:List Int} (I:Zml l=some r) (C:S ψ e h (.it oL [v0] l::os))  :CallsH P 281 #[v0] h (fun v h'=>v=.tuple #[]/\S ψ e h' (.it oL [v0] r::os)):=by
 refine zv ⟨[(1,[(2,tkI),(3,tkI)])],[],[],[(3,⟨[],.fin [0,1,4,5,6,7,8,9,10,11,12,13,2,3,14,15],false⟩)]⟩ Tryz.func281 ?_
 refine Zm slA ?_
 obtain ⟨o,f⟩:=Zax I
 refine ⟨fun n p s c=>∃ xs,S ψ e c (.it oL [v0] xs::os)/\loopN (ZgH) n (p,s,xs)=some r,⟨o,_,pkT C 1 [0],f⟩,?_⟩
 rintro n _ p s c ⟨xs,C,f⟩
 obtain ⟨m,a,rfl,I,O⟩:=Zh f
 refine brQ I (fun I=>?_) fun I=>?_
 ·refine ixI slA I fun u I=>?_
  refine ixI slA I fun w I=>?_
  refine ixA slA I fun x y g i I=>?_
  refine st1_S C 0 rfl g i rfl (fun _=>⟨rfl,rfl⟩) fun a0 C=>?_
  dsimp at C
  refine ixA slA I fun a1 a2 j k I=>?_
  refine st1_S C 0 rfl j k rfl (fun _=>⟨rfl,rfl⟩) fun a3 C=>?_
  dsimp at C
  obtain rfl:=oI I
  exact ⟨m,ltS,_,pkT C 1 [0],O⟩
 ·obtain rfl:=oI I
  obtain rfl:=oI O
  exact ⟨rfl,pkT C 1 [0]⟩
section
variable {ψ:CM} {h:Heap} (hψ:CLe ψ (hcell h))
include hψ
theorem ZwN {n0 a count2 r} (I:Zle n0 a count2=some r)  :zL 251 #[.int .i64 n0,.int .i64 a,.int .i64 count2] h ψ eI r:=by
 refine zv annO Tryz.func251 ?_
 have C:=sZ hψ
 refine cm1 I C (fun s j=>ZcQ s j) fun l o p C I=>⟨_,rfl,?_⟩
 obtain ⟨u,g,I⟩:=obind I
 obtain ⟨k,v,c,e⟩:=id C
 refine (ZBH g (c.upS e) ).mono fun w x ⟨i,f⟩=>⟨i,?_⟩
 replace C:=c.downS f
 clear f c e
 exact endS
theorem ZBK {e f g r} (I:ZiP e=some r) (a3:sc h eI f e.Field.Poly) (a4:sc h eL g e.Rows):zL 221 #[.agg #[.int .i64 e.Field.Prime,.int .i64 e.Field.Degree,f,g]] h ψ oL r:=by
 refine zv ⟨[(5,[(5,.v),(17,tkI)])],[],[],[(7,⟨kdL [0,2,0,2,0,0,1,0,3,4,4,4,0],.fin [4,5,6,7,8,1,2,3,9,10,0,11,12],true⟩)]⟩ Tryz.func221 ?_
 have C:=sZ hψ
 refine new_S C fun b1 ad C=>?_
 refine lsA ?_
 obtain ⟨l,i,I⟩:=obind I
 obtain ⟨φ,L,s,v⟩:=id C
 refine (Zuz s.fle i slA).mono fun ae af ⟨y,o,p,u,eq,t⟩=>⟨_,_,_,_,_,eq,?_⟩
 replace C:=join4 s v t
 clear t s v
 refine new_S C fun b3 ag C=>?_
 (iterate 5 refine boxA fun ah C=>?_)
 refine bV C 5 3 ?_
 refine cm0 I C (fun s i=>ZbX s i slA) fun a0 a7 C I=>⟨_,rfl,?_⟩
 refine bI C 0 0 ?_
 refine cm0 I C (fun s i=>Zh3 s i) fun a1 a8 C I=>⟨_,rfl,?_⟩
 have C:=C.nilO (E:=oL)
 refine ⟨fun n v5 w j=>∃ a2,S ψ h j [.it (El.ow oL) [v5] a2,.box b3 [.int .i64 l.qq,y,o,p,u],.it (El.ow oL) [y] l.qadd,.it (El.ow oL) [o] l.qsub,.it (El.ow oL) [p] l.qmul,.it oL [u] l.qinv,.box b1 [.int .i64 e.Field.Prime,.int .i64 e.Field.Degree,f,g]]/\loopN (Ze0 e l a0 a1) n (a2,w)=some r,endI,?_⟩
 rintro n _ v5 w j ⟨a2,C,hn⟩
 obtain ⟨m,a,rfl,I,O⟩:=Zh hn
 refine brQ I (fun I=>?_) fun I=>?_
 ·refine ⟨fun _=>False,?_⟩
  have c:=C
  have k:=eX j
  refine bI C 1 0 ?_
  obtain ⟨ai,x,I⟩:=obind I
  refine ce1 C (fun s=>ZwN s.fle x) fun aj aa xE C=>⟨_,rfl,eZ (k.trans xE),?_⟩
  replace k:=k.trans xE
  refine ZJ ?_
  refine ldI_K (c.cells 1 rfl) 0 rfl rfl ?_
  refine ZK ?_
  refine ldV_K (c.cells 1 rfl) 1 rfl rfl ?_
  refine ZK ?_
  refine ldV_K (c.cells 1 rfl) 2 rfl rfl ?_
  refine ZK ?_
  refine ldV_K (c.cells 1 rfl) 3 rfl rfl ?_
  refine ZK ?_
  refine ldV_K (c.cells 1 rfl) 4 rfl rfl ?_
  refine ZK ?_
  refine ldV_K (c.cells 6 rfl) 3 rfl rfl ?_
  refine cm1 I C (fun s i=>ZDG s i slA slA slA slA slA slA) fun ak al ab C I=>⟨_,rfl,?_⟩
  refine ZG oneA ?_
  refine piA I 1 fun am an ac C I=>?_
  exact endL
 ·obtain rfl:=oI I
  obtain rfl:=oI O
  exact endR
theorem ZHY {c v0 r} (I:Zlu c=some r) (i:sc h eI v0 c):zL 222 #[v0] h ψ eI r:=by
 refine zv ⟨[(3,[(3,.v),(8,tkI)])],[],[],[]⟩ Tryz.func222 ?_
 have C:=sZ hψ
 refine vL i C.le ?_
 have C:=C.nilO (E:=eI)
 refine ⟨fun n f g e=>∃ u,S ψ h e [.it oL [f] u]/\loopN (Zfv c) n (u,g)=some r,endI,?_⟩
 rintro n _ f g e ⟨u,C,j⟩
 obtain ⟨m,a,rfl,I,O⟩:=Zh j
 refine brQ I (fun I=>?_) fun I=>?_
 ·refine ixI slA I fun k I=>?_
  refine brQ I (fun I=>?_) fun I=>?_
  ·refine puA I 0 fun l o p C I=>?_
   exact endL
  ·exact endL
 ·obtain rfl:=oI I
  obtain rfl:=oI O
  exact endR
theorem ZCb {a c e r} (I:ZpW a=some r) (i:sc h eI c a.Field.Poly) (g:sc h eL e a.Rows):zR 223 #[.agg #[.int .i64 a.Field.Prime,.int .i64 a.Field.Degree,c,e]] h ψ (.int .i64 r):=by
 refine zv annO Tryz.func223 ?_
 have C:=sZ hψ
 refine new_S C fun o k C=>?_
 refine bV C 0 3 ?_
 refine ixV g C.le I fun p u f I=>?_
 refine cm0 I C (fun s j=>Za6 s j slA) fun v l C I=>⟨_,rfl,?_⟩
 exact tZ
theorem Zyx {e f g r} (I:ZhU e=some r) (a0:sc h eI f e.Field.Poly) (a1:sc h eL g e.Rows):CallsH P 183 #[.agg #[.int .i64 e.Field.Prime,.int .i64 e.Field.Degree,f,g]] h (fun v h'=>∃ w0 w1,v=.tuple #[.agg #[w0,w1],.int .i64 r.2]/\S ψ h h' [.it eL [w0] r.1.Colors,.it (El.ow Zf) [w1] r.1.Edges]):=by
 refine zv ⟨[(7,[(4,.v),(20,tkI)])],[],[],[]⟩ Tryz.func183 ?_
 have C:=sZ hψ
 refine new_S C fun b1 ac C=>?_
 refine new_S C fun b2 ae C=>?_
 refine lsA ?_
 refine cm0 I C (fun s c=>Zst s c slA slA) fun r8 af C I=>⟨_,rfl,?_⟩
 refine brQ I (fun I=>?_) fun I=>?_
 ·(iterate 2 refine boxA fun ag C=>?_)
  refine lsA ?_
  have C:=C.nilF (E:=eI)
  have C:=C.nilO (E:=Zf)
  exact endS
 ·refine lsA ?_
  refine cm0 I C (fun s c=>ZiR s c slA) fun ah ai C I=>⟨_,rfl,?_⟩
  refine brQ I (fun I=>?_) fun I=>?_
  ·(iterate 2 refine boxA fun aj C=>?_)
   refine lsA ?_
   have C:=C.nilF (E:=eI)
   have C:=C.nilO (E:=Zf)
   exact endS
  ·refine lsA ?_
   refine cm1 I C (fun s c=>ZBK s c slA slA) fun p u a4 C I=>⟨_,rfl,?_⟩
   have C:=frA 0
   obtain ⟨j,l,I⟩:=obind I
   refine ZxV (some 1) none C 0 rfl l rfl fun w C=>?_
   refine Zm slA ?_
   have C:=C.nilO (E:=oL)
   refine ⟨fun n x k i=>∃ a2,S ψ h i [.it (El.ow oL) [x] a2,.it (El.sl eL) [w] j,.it (El.sl eL) [u] p,.box b2 [(.slice none 0 0),(.slice none 0 0)],.box b1 [.int .i64 e.Field.Prime,.int .i64 e.Field.Degree,f,g]]/\loopN (Zem e j) n (a2,k)=some r,endI,?_⟩
   rintro n _ x k i ⟨a2,C,hn⟩
   obtain ⟨m,a,rfl,I,O⟩:=Zh hn
   refine brQ I (fun I=>?_) fun I=>?_
   ·refine ixA slA I fun ak al ad o I=>?_
    refine Zpi C 1 rfl ad o fun am C=>?_
    refine cm1 I C (fun s c=>ZHY s c slA) fun an ao a7 C I=>⟨_,rfl,?_⟩
    refine ZG oneA ?_
    refine piA I 1 fun ap aq a8 C I=>?_
    exact endL
   ·refine lsA ?_
    refine cm0 I C (fun s c=>ZCb s c slA slA) fun ar a9 C I=>⟨_,rfl,?_⟩
    refine cm2 I C (fun s c=>Ztk s c slA) fun au av y aa C I=>⟨_,_,_,rfl,?_⟩
    (iterate 2 refine boxA fun ab C=>?_)
    refine lsA ?_
    obtain rfl:=oI I
    obtain rfl:=oI O
    exact endR
theorem ZvY {e c a r} (I:ZpK e a=some r) (f:sc h eL c e.Rows):zR 224 #[.agg #[.int .i64 e.Kind,.int .i64 e.Size,c],.int .i64 a] h ψ (.int .i64 r):=by
 refine zv annO Tryz.func224 ?_
 have C:=sZ hψ
 refine new_S C fun k i C=>?_
 refine lsA ?_
 refine cm0 I C (fun s g=>Zl6 s g slA) fun l j C I=>⟨_,rfl,?_⟩
 refine brZ fun I=>?_
 refine bI C 0 0 ?_
 exact brQ I (fun I=>tZ) fun I=>tZ
theorem ZH2 {c a r} (I:Zmw c=some r) (g:sc h eL a c.Rows):CallsH P 184 #[.agg #[.int .i64 c.Kind,.int .i64 c.Size,a]] h (fun v h'=>∃ w0 w1,v=.tuple #[.agg #[w0,w1],.int .i64 r.2]/\S ψ h h' [.it oL [w0] r.1.Colors,.it (El.ow Zf) [w1] r.1.Edges]):=by
 refine zv annO Tryz.func184 ?_
 have C:=sZ hψ
 refine new_S C fun b1 k C=>?_
 refine new_S C fun b2 l C=>?_
 refine lsA ?_
 refine cm0 I C (fun s e=>ZvY s e slA) fun r8 o C I=>⟨_,rfl,?_⟩
 refine brQ I (fun I=>?_) fun I=>?_
 ·(iterate 2 refine boxA fun p C=>?_)
  refine lsA ?_
  have C:=C.nilO (E:=eI)
  have C:=C.nilO (E:=Zf)
  exact endS
 ·refine lsA ?_
  refine cm2 I C (fun s e=>ZtO s e slA) fun u w f x C I=>⟨_,_,_,rfl,?_⟩
  refine new_S C fun b5 y C=>?_
  (iterate 2 refine boxA fun i C=>?_)
  refine lsA ?_
  (iterate 2 refine boxA fun j C=>?_)
  refine lsA ?_
  exact endS
theorem Zxe {e c r} (I:Zcp e=some r) (l:sc h eL c e.Rows):CallsH P 133 #[.agg #[.int .i64 e.Kind,.int .i64 e.Size,c]] h (fun v h'=>∃ w0 w1,v=.tuple #[.agg #[w0,w1],.int .i64 r.2]/\S ψ h h' [.it eL [w0] r.1.Colors,.it (El.ow Zf) [w1] r.1.Edges]):=by
 refine zv annO Tryz.func133 ?_
 have C:=sZ hψ
 refine new_S C fun b1 a1 C=>?_
 refine new_S C fun b2 a2 C=>?_
 refine bI C 1 0 ?_
 refine brQ I (fun I=>?_) fun I=>?_
 ·refine bV C 1 2 ?_
  refine cm2 I C (fun s a=>ZCt s a slA) fun a3 a4 f a5 C I=>⟨_,_,_,rfl,?_⟩
  (iterate 2 refine boxA fun a6 C=>?_)
  refine lsA ?_
  exact endS
 ·refine brQ I (fun I=>?_) fun I=>?_
  ·refine lsA ?_
   refine cm1 I C (fun s a=>Ztd s a slA) fun a7 a8 a9 C I=>⟨_,_,rfl,?_⟩
   have C:=frA 0
   refine cm2 I C (fun s a=>Zy6 s a slA) fun aa ab g ac C I=>⟨_,_,_,rfl,?_⟩
   (iterate 2 refine boxA fun o C=>?_)
   refine lsA ?_
   exact endS
  ·refine brQ I (fun I=>?_) fun I=>?_
   ·refine lsA ?_
    refine cm2 I C (fun s a=>ZrN s a slA) fun ad ae i p C I=>⟨_,_,_,_,rfl,?_⟩
    have C:=frA 1
    refine cm2 I C (fun s a=>Zyx s a slA slA) fun af ag j u C I=>⟨_,_,_,rfl,?_⟩
    (iterate 2 refine boxA fun w C=>?_)
    refine lsA ?_
    exact endS
   ·refine brQ I (fun I=>?_) fun I=>?_
    ·refine lsA ?_
     refine cm2 I C (fun s a=>ZH2 s a slA) fun ah ai k x C I=>⟨_,_,_,rfl,?_⟩
     (iterate 2 refine boxA fun y C=>?_)
     refine lsA ?_
     have C:=frA 0
     exact endS
    ·(iterate 2 refine boxA fun a0 C=>?_)
     refine lsA ?_
     have C:=C.nilF (E:=eI)
     have C:=C.nilO (E:=Zf)
     exact endS
theorem ZBm {k c e r} (I:ZkB k=some r) (x:sc h eI c k.Colors) (g:sc h Zf e k.Edges):zL 252 #[.agg #[c,e]] h ψ oL r:=by
 refine zv ⟨[(3,[(15,tkI)]),(9,[(48,tkI)])],[],[],[(5,⟨kdL [0,0,2,0,0,2,0,2,0,1,3,3,0,4],.fin [8,9,10,3,4,5,6,7,11,0,1,2,12,13],true⟩),(6,⟨kdL [0,0,2,0,0,2,0,2,0,1,3,3,0,4],.fin [8,9,10,3,4,5,6,7,11,0,1,2,12,13],true⟩)]⟩ Tryz.func252 ?_
 have C:=sZ hψ
 refine new_S C fun b1 ae C=>?_
 refine bV C 0 0 ?_
 refine vL x C.le ?_
 refine mkO oL I fun af l ag C I=>?_
 refine bV C 1 1 ?_
 refine vL g C.le ?_
 refine ⟨fun n o p=>∃ xs,S ψ h p [.it (El.ow oL) [l] xs,.box b1 [c,e]]/\loopN (ZiE k) n (o,xs)=some r,endI,?_⟩
 rintro n _ o p ⟨xs,C,hn⟩
 obtain ⟨m,a,rfl,I,O⟩:=Zh hn
 refine brQ I (fun I=>?_) fun I=>?_
 ·refine ixA slA I fun ah ai ad y I=>?_
  obtain ⟨cs,ck,hr⟩:=g.cells ad y rfl
  obtain rfl:=Zaw hr
  refine lsA ?_
  refine new_S C fun b5 aj C=>?_
  (iterate 2 refine boxA fun ak C=>?_)
  obtain ⟨al,a0,I⟩:=obind I
  obtain ⟨am,a1,I⟩:=obind I
  refine Zr8 C 1 0 rfl rfl rfl rfl rfl rfl a0 a1 fun an C=>?_
  dsimp at C
  obtain ⟨ao,a2,I⟩:=obind I
  obtain ⟨ap,a3,I⟩:=obind I
  refine Zr8 C 1 0 rfl rfl rfl rfl rfl rfl a2 a3 fun aq C=>?_
  dsimp at C
  exact endL
 ·refine Zm slA ?_
  refine ⟨fun u v i=>∃ f,S ψ h i [.it (El.ow oL) [l] f,.box b1 [c,e]]/\loopN (Zfx xs) u (v,f)=some a,endI,?_⟩
  rintro u _ v i ⟨f,C,a4⟩
  obtain ⟨ar,au,rfl,I,a5⟩:=Zh a4
  refine brQ I (fun I=>?_) fun I=>?_
  ·refine ixA slA I fun av aw a6 j I=>?_
   refine ZaX C 0 rfl a6 j fun ax hd=>?_
   have C:=foc_S C 0 rfl hd j
   dsimp at C
   obtain ⟨ay,a7,I⟩:=obind I
   obtain ⟨φ,L,s,w⟩:=id C
   refine (Zkb a7 (s.upS w) ).mono fun az ac ⟨eq,t⟩=>⟨eq,?_⟩
   replace C:=s.downS t
   clear t s w
   have C:=unf_S C 0 rfl
   dsimp at C
   exact endL
  ·obtain rfl:=oI I
   obtain rfl:=oI a5
   obtain rfl:=oI O
   exact endR
theorem ZHy {a v0 r} (I:ZkZ a=some r) (c:SlC ψ eL v0 a):zL 302 #[v0] h ψ eL r:=by
 refine zv annO Tryz.func302 ?_
 have C:=sZ hψ
 refine Zt1 (c.mono hψ) (fun f e=>?_) ?_
 ·subst e
  obtain ⟨_,rfl⟩:=Zdz I
  exact ⟨_,rfl,C.nilO⟩
 ·have C:=C.arg c
  refine ZO (E:=eL) (css:=[]) (xs:=[]) C (fun _=>rfl) rfl rfl fun v1 h1 C=>?_
  refine app_S C 0 rfl (Zo9 1 rfl) rfl rfl I fun g i C=>?_
  exact endR
end
theorem ZDp {ψ:CM} {o h:Heap} {os:List Ob} {x0:List (List Int)} {v0:Value} {g:(List Int)->(List Int)->Option Bool} {i:Nat} {u:List Value} {r:List (List Int)} (I:Zgt x0 g=some r) (C:S ψ o h (.it (El.ow eL) [v0] x0::os)) (o1:ctx.okf i=true) (k1:∀ {h1:Heap},ExtH o h1->∀ {ψ1:CM},CLe ψ1 (hcell h1)->∀ {y0:List Int} {w:Value} {y1:List Int} {a0:Value} {r1:Bool},g y0 y1=some r1->SlC (hcell h1) eI w y0->SlC (hcell h1) eI a0 y1->CallsH P i (([w,a0]:List Value)++u).toArray h1 (fun v h'=>v=.bool r1/\S ψ1 h1 h' [])):CallsH P 303 #[v0,.func (.func i) #[] u.toArray] h (fun v h'=>∃ w0,v=w0/\S ψ o h' (.it (El.ow eL) [w0] r::os)):=by
  apply ZEf
  unfold Zgt at I
  split at I
  case isFalse=>cases I
  rename_i c6
  have frz:Frz eL eL:=Zac _
  have ap:∀ {k:Nat} {x:List Int} {ys:List (List Int)},ys[k]?=some x->gIdx ys (k:Int)=some x:=fun h=>by unfold gIdx;rw [if_pos ω,Int.toNat_natCast];exact h
  have w1:∀ {k:Nat},k<x0.length->ε.wrap ((k:Int)+1)=((k+1:Nat):Int):=fun h=>by rw [Zaj ω ω];omega
  have w2:∀ {k:Nat},k+1<=x0.length->ε.wrap (((k+1:Nat):Int)-1)=(k:Int):=fun h=>by rw [Zaj ω ω];omega
  refine Zm slA ?_
  refine Zeg (fun c=>?_) (fun c=>?_)
  · have hl:x0.length<2:=by have:=of_decide_eq_true c;omega
    have hr:r=x0:=by
      cases x0 with
      | nil=>exact (oI I).symm
      | cons a t=>
        cases t with
        | nil=>exact (oI I).symm
        | cons b t=>simp at hl;omega
    subst hr
    exact ⟨v0,rfl,C⟩
  · have hl:2<=x0.length:=by have:=of_decide_eq_false c;omega
    refine ⟨fun n x5 ae=>S ψ o ae (.it (El.ow eL) [v0] x0::os)/\∃ k p q,x5=((k+1:Nat):Int)/\k+1+n=x0.length/\x0[k]?=some p/\cpt g p (x0.drop (k+1))=some q/\r=x0.take (k+1)++q,⟨x0.length-1,C,?_⟩,?_⟩
    · cases x0 with
      | nil=>simp at hl
      | cons a t=>
        have I:(cpt g a t).map (a::·)=some r:=I
        cases f:cpt g a t with
        | none=>rw [f] at I;cases I
        | some q=>rw [f] at I;exact ⟨0,a,q,rfl,by simp;omega,rfl,by simpa using f,by simpa using (oI I).symm⟩
    · rintro n _ x5 ae ⟨C,k,p,q,rfl,ca,af,f,hr⟩
      refine Zm slA ?_
      refine Zeg (fun c=>?_) (fun c=>?_)
      · have hk:k+1<x0.length:=by have:=of_decide_eq_true c;omega
        obtain ⟨y,hy⟩:=ZaC (xs:=x0) (k:=k+1) hk
        obtain ⟨b,l,f1,f2,f3⟩:=Zj2 (ZlU hy) f
        refine Z4 slA (ap hy) fun az ad=>?_
        refine ldV_C slA (CLe.refl _) ad (ap hy) fun al a4=>?_
        simp only [w2 (k:=k) ω]
        refine Z4 slA (ap af) fun b0 a5=>?_
        refine ldV_C slA (CLe.refl _) a5 (ap af) fun am a6=>?_
        refine Za9 o1 ?_
        obtain ⟨φ,L,s,q0⟩:=id C
        refine (k1 C.ext s.fle f1 a4 a6).mono fun v b1 ⟨e,t⟩=>⟨_,e,?_⟩
        replace C:=join0 s q0 t
        clear t s q0
        cases b with
        | false=>
          refine ZiJ rfl ?_
          refine ⟨n-1,by omega,C,k+1,y,l,w1 hk,by omega,hy,f2,?_⟩
          rw [hr,f3,ZjK hy];simp
        | true=>
          refine Zmc rfl ?_
          have hg:gSl x0 ((k+1:Nat):Int) (x0.length:Int)=some (x0.drop (k+1)):=by
            unfold gSl
            rw [if_pos ⟨by omega,by omega,by omega⟩,Int.toNat_natCast,Int.toNat_natCast,List.take_length]
          refine ZpL (some ((k+1:Nat):Int)) none slA hg fun a8 hv=>?_
          simp only [Option.getD_some,Option.getD_none,Int.toNat_natCast] at hv
          have ao:r=x0.take (k+1)++l:=by rw [hr,f3];rfl
          refine ⟨fun n3 x5 x7 a9=>∃ ys,S ψ o a9 (.it (El.ow eL) [v0] ys::os)/\∃ k' k2 p q,x5=((k':Nat):Int)/\x7=((k2+1:Nat):Int)/\k+1+k2+1+n3=x0.length/\ys.length=x0.length/\k'<=k+1+k2/\x0[k+1+k2]?=some p/\(∀ j,k+1+k2<=j->ys[j]?=x0[j]?)/\cpt g p (x0.drop (k+1+k2+1))=some q/\r=ys.take k'++q,
            ⟨x0.length-(k+2),x0,C,k+1,0,y,l,rfl,rfl,by omega,rfl,by omega,hy,fun _ _=>rfl,f2,ao⟩,?_⟩
          rintro n3 _ x5 x7 a9 ⟨ys,C,k',k2,p,q,rfl,rfl,b2,ai,cb,af,ac,f,hr⟩
          have ar:gSl ys ((k+1:Nat):Int) (ys.length:Int)=some (ys.drop (k+1)):=by
            unfold gSl
            rw [if_pos ⟨by omega,by omega,by omega⟩,Int.toNat_natCast,Int.toNat_natCast,List.take_length]
          have ag:IsView v0 1 (((k+1:Nat):Int)).toNat ((ys.length:Int)).toNat a8:=by rw [ai];exact hv
          have fv:SlC (hcell a9) eL a8 (ys.drop (k+1)):=ag.C slA ar rfl
          refine Zm fv ?_
          refine Zeg (fun c=>?_) (fun c=>?_)
          · have aa:k+1+k2+1<x0.length:=by
              have:=of_decide_eq_true c
              rw [List.length_drop] at this;omega
            obtain ⟨y,hy⟩:=ZaC (xs:=x0) (k:=k+1+k2+1) aa
            obtain ⟨b,l,f1,f2,f3⟩:=Zj2 (ZlU hy) f
            have i:(ys.drop (k+1))[k2+1]?=some y:=by rw [List.getElem?_drop,show k+1+(k2+1)=k+1+k2+1 by omega,ac _ ω];exact hy
            have g2:(ys.drop (k+1))[k2]?=some p:=by rw [List.getElem?_drop,ac _ ω];exact af
            refine Z4 fv (ap i) fun b3 ad=>?_
            refine ldV_C fv (CLe.refl _) ad (ap i) fun al a4=>?_
            simp only [w2 (k:=k2) ω]
            refine Z4 fv (ap g2) fun b4 a5=>?_
            refine ldV_C fv (CLe.refl _) a5 (ap g2) fun am a6=>?_
            refine Za9 o1 ?_
            obtain ⟨φ,L,s,q0⟩:=id C
            refine (k1 C.ext s.fle f1 a4 a6).mono fun v au ⟨e,t⟩=>⟨_,e,?_⟩
            replace C:=join0 s q0 t
            clear t s q0
            have fv:SlC (hcell au) eL a8 (ys.drop (k+1)):=ag.C slA ar rfl
            cases b with
            | false=>
              refine Zmc rfl ?_
              refine Z4 fv (ap i) fun av aw=>?_
              have ax:AddrOf v0 (((k+1:Nat):Int)+((k2+1:Nat):Int)) 1 av:=ag.addr aw ω (by rw [Int.toNat_natCast,Int.toNat_natCast,Int.toNat_natCast];omega)
              have bm:gIdx ys (((k+1:Nat):Int)+((k2+1:Nat):Int))=some y:=by
                rw [show ((k+1:Nat):Int)+((k2+1:Nat):Int)=((k+1+k2+1:Nat):Int) by omega]
                exact ap (by rw [ac _ ω];exact hy)
              refine ZaM C 0 rfl ax bm fun b5 C=>?_
              obtain ⟨z,hz⟩:=ZaC (xs:=ys) (k:=k') ω
              refine Z4 slA (ap hz) fun b6 ay=>?_
              refine Zeu C 0 rfl ay (ap hz) rfl fun b7 C=>?_
              dsimp only [List.set] at C
              rw [Int.toNat_natCast] at C
              refine ⟨n3-1,by omega,_,C,k'+1,k2+1,y,l,w1 ω,w1 ω,by omega,by rw [List.length_set];exact ai,by omega,hy,fun j hj=>?_,f2,?_⟩
              · rw [List.getElem?_set_ne ω];exact ac j ω
              · rw [hr,f3,ZjK (y:=y) (List.getElem?_set_self ω),List.take_set_of_le (Nat.le_refl _)];simp
            | true=>
              refine ZiJ rfl ?_
              exact ⟨n3-1,by omega,ys,C,k',k2+1,y,l,rfl,w1 ω,by omega,ai,by omega,hy,fun j hj=>ac j ω,f2,by rw [hr,f3];rfl⟩
          · have aa:k+1+k2+1=x0.length:=by
              have:=of_decide_eq_false c
              rw [List.length_drop] at this;omega
            have ab:q=[]:=by
              rw [aa,List.drop_length] at f
              exact (oI f).symm
            refine Zu0 ZDi C 0 rfl rfl rfl ω ω fun v' h' C=>?_
            dsimp only [List.set] at C
            rw [Int.toNat_natCast] at C
            rw [hr,ab,List.append_nil]
            exact ⟨v',rfl,C⟩
      · have hk:k+1=x0.length:=by have:=of_decide_eq_false c;omega
        have ab:q=[]:=by
          rw [hk,List.drop_length] at f
          exact (oI f).symm
        rw [hr,ab,hk,List.take_length,List.append_nil]
        exact ⟨v0,rfl,C⟩
section
variable {ψ:CM} {h:Heap} (hψ:CLe ψ (hcell h))
include hψ
theorem ZB1 {w v0 k v1 r} (I:ZlS w k=some r) (f0:sc h eL v0 w) (f1:sc h eI v1 k):zL 285 #[v0,v1] h ψ eI r:=by
 refine zv ⟨[(3,[(22,tkI)]),(7,[(8,.v),(32,tkI)]),(19,[(65,tkI)])],[],[],[]⟩ Tryz.func285 ?_
 have C:=sZ hψ
 refine vL f1 C.le ?_
 refine mkO oL I fun bb l bc C I=>?_
 refine vL f1 C.le ?_
 refine ⟨fun n o a4=>∃ xs,S ψ h a4 [.it (El.ow oL) [l] xs]/\loopN (Zhu w k) n (o,xs)=some r,endI,?_⟩
 rintro n _ o a4 ⟨xs,C,hn⟩
 obtain ⟨m,a,rfl,I,O⟩:=Zh hn
 refine brQ I (fun I=>?_) fun I=>?_
 ·refine ixI slA I fun p I=>?_
  refine ixV f0 C.le I fun av bd f I=>?_
  refine vL f C.le ?_
  have C:=C.nilO (E:=eI)
  refine ⟨fun a5 v8 a6 a7=>∃ y8,S ψ h a7 [.it oL [v8] y8,.it (El.ow oL) [l] xs]/\loopN (ZfE k o xs p av) a5 (y8,a6)=some a,endI,?_⟩
  rintro a5 _ v8 a6 a7 ⟨y8,C,ah⟩
  obtain ⟨be,bf,rfl,I,ai⟩:=Zh ah
  refine brQ I (fun I=>?_) fun I=>?_
  ·refine ixI slA I fun bg I=>?_
   refine ixI slA I fun bh I=>?_
   refine puA I 0 fun bi bj bk C I=>?_
   exact endL
  ·obtain ⟨bm,aj,I⟩:=obind I
   obtain ⟨φ,L,s,a8⟩:=id C
   refine (Zkb aj (s.upS a8) ).mono fun bn bo ⟨eq,t⟩=>⟨eq,?_⟩
   replace C:=s.downS t
   clear t s a8
   refine ZO (E:=eI) (css:=[[.int .i64 p]]) (xs:=([p]:List Int)) C (fun _=>⟨[],[],rfl,⟨rfl,rfl⟩,rfl⟩) rfl rfl fun bp bq C=>?_
   obtain ⟨br,ak,I⟩:=obind I
   refine app_S C 0 rfl (ZbR (Zbl _) slA) rfl rfl ak fun bs bt C=>?_
   dsimp at C
   refine ixA slA I fun bu bv al am I=>?_
   refine Zeu C 1 rfl al am rfl fun bw C=>?_
   dsimp at C
   obtain rfl:=oI I
   obtain rfl:=oI ai
   exact endM
 ·have C:=frA 0
  refine cl1 I C (fun ax ay _ x=>ZHy ax.fle x (frF ay 0 rfl)) fun bx bz b4 C I=>⟨_,rfl,?_⟩
  obtain ⟨c0,y,I⟩:=obind I
  obtain ⟨b5,c3,u,a9⟩:=id C
  refine (ZuC y (u.upS a9) κ (fun aa=>fun c=>fun e g i=>ZsC c e g i)).mono fun c4 b6 ⟨an,ab⟩=>⟨an,?_⟩
  replace C:=u.downS ab
  clear ab u a9
  obtain ⟨ac,a0,I⟩:=obind I
  refine (ZDp a0 C κ (fun aa=>fun c=>fun e g i=>ZvD c e g i)).mono fun c5 b7 ⟨az,ao,C⟩=>⟨_,ao,?_⟩
  refine vL f1 C.le ?_
  refine mkO eI I fun c6 b0 b8 C I=>?_
  refine Zm slA ?_
  refine ⟨fun ad ae v=>∃ j,S ψ h v [.it oL [b0] j,.it (El.ow eL) [az] ac,.it (El.sl eL) [l] xs]/\loopN (Zej w k xs ac) ad (ae,j)=some a,endI,?_⟩
  rintro ad _ ae v ⟨j,C,ap⟩
  obtain ⟨c7,c8,rfl,I,aq⟩:=Zh ap
  refine brQ I (fun I=>?_) fun I=>?_
  ·refine ixA slA I fun c9 ca ar a1 I=>?_
   refine Zpi C 2 rfl ar a1 fun cb C=>?_
   refine cl0 I C (fun b1 _ _ a2=>Zuq b1.fle a2 slA slA κ (fun aa=>fun c=>fun e g i=>ZeD c e g i)) fun cc b9 C I=>⟨_,_,rfl,?_⟩
   refine ixA slA I fun cd ce au a3 I=>?_
   refine st1_S C 1 rfl au a3 rfl (fun _=>⟨rfl,rfl⟩) fun ba C=>?_
   dsimp at C
   exact endL
  ·obtain rfl:=oI I
   obtain rfl:=oI aq
   obtain rfl:=oI O
   exact endR
end
theorem Zxm {ψ:CM} {c h:Heap} {os:List Ob} {x0:List Int} {v0:Value} {r:List Int} (I:Zkc x0=some r) (C:S ψ c h (.it oL [v0] x0::os)):CallsH P 304 #[v0] h (fun v e=>∃ w0,v=w0/\S ψ c e (.it oL [w0] r::os)):=by
 apply Zx3
 unfold Zkc at I
 split at I
 case isFalse=>cases I
 rename_i j
 exact Zs9 (E:=eI) (Zbl _) (z:=1) rfl (zero:=[.int .i64 0]) rfl (fun h p K=>ldI .i64 h p K) (fun h p y K=>vStore1 h p (.int .i64 y) K) (fun a b=>a==b) (fun k I hi g=>ldI_C k I hi g) (fun C i o I g l=>st1_S C i o I g rfl (fun _=>⟨rfl,rfl⟩) l) j I C (R:=fun v e=>∃ w0,v=w0/\S ψ c e (.it oL [w0] r::os)) fun v e C=>⟨v,rfl,C⟩
section
variable {ψ:CM} {h:Heap} (hψ:CLe ψ (hcell h))
include hψ
theorem Zrh {cells0 v0 r} (I:ZgB cells0=some r) (y:sc h eI v0 cells0):zR 286 #[v0] h ψ (.int .i64 r):=by
 refine zv annO Tryz.func286 ?_
 have C:=sZ hψ
 refine cm1 I C (fun s k=>ZjH s k slA) fun r5 v5 o C I=>⟨_,rfl,?_⟩
 obtain ⟨r7,f,I⟩:=obind I
 obtain ⟨l,p,a,c⟩:=id C
 refine (Zkb f (a.upS c) ).mono fun u v ⟨g,e⟩=>⟨g,?_⟩
 replace C:=a.downS e
 clear e a c
 obtain ⟨r9,i,I⟩:=obind I
 refine (Zxm i C ).mono fun w x ⟨v9,j,C⟩=>⟨_,j,?_⟩
 refine Zm slA ?_
 exact tZ
theorem Zu7 {lists0 v0 cells1 v1 r} (I:ZlO lists0 cells1=some r) (v:sc h eL v0 lists0) (i:SlC ψ eI v1 cells1):zL 254 #[v0,v1] h ψ eI r:=by
 refine zv ⟨[(1,[(1,.v)])],[],[],[]⟩ Tryz.func254 ?_
 have C:=sZ hψ
 have C:=C.arg i
 refine ⟨fun n e g=>∃ c,S ψ h g [.it eL [e] c]/\loopN (Zdq lists0) n c=some r,endI,?_⟩
 rintro n _ e g ⟨c,C,j⟩
 obtain ⟨m,a,rfl,I,O⟩:=Zh j
 refine cm1 I C (fun s f=>ZB1 s f slA slA) fun r8 w k C I=>⟨_,rfl,?_⟩
 refine cm0 I C (fun s f=>Zrh s f slA) fun l o C I=>⟨_,rfl,?_⟩
 refine cm0 I C (fun s f=>Zrh s f slA) fun p u C I=>⟨_,rfl,?_⟩
 refine brQ I (fun I=>?_) fun I=>?_
 ·obtain rfl:=oI I
  obtain rfl:=oI O
  exact endR
 ·have C:=frA 0
  exact endL
theorem ZFL {cells0 v0 r} (I:ZlA cells0=some r) (j:sc h eI v0 cells0):zL 282 #[v0] h ψ eI r:=by
 refine zv ⟨[(2,[(9,tkI)]),(6,[(4,.v),(14,tkI)])],[],[],[]⟩ Tryz.func282 ?_
 have C:=sZ hψ
 refine vL j C.le ?_
 refine lp1 I (nlS C) fun m l o a C I O=>?_
 refine brQ I (fun I=>?_) fun I=>?_
 ·refine vL j C.le ?_
  have C:=C.nilO (E:=eI)
  refine ⟨fun e k f g=>∃ y,S ψ h g [.it oL [k] y]/\loopN (Zci cells0 l) e (y,f)=some a,endI,?_⟩
  rintro e _ k f g ⟨y,C,i⟩
  obtain ⟨p,s,rfl,I,c⟩:=Zh i
  refine brQ I (fun I=>?_) fun I=>?_
  ·refine ixI slA I fun u I=>?_
   refine brQ I (fun I=>?_) fun I=>?_
   ·refine puA I 0 fun v w x C I=>?_
    exact endL
   ·exact endL
  ·refine Zm slA ?_
   refine brQ I (fun I=>?_) fun I=>?_
   ·obtain rfl:=oI I
    obtain rfl:=oI c
    obtain rfl:=oI O
    exact endR
   ·obtain rfl:=oI I
    obtain rfl:=oI c
    exact ⟨m,ltS,nlS C,O⟩
 ·have C:=C.nilO (E:=eI)
  obtain rfl:=oI I
  obtain rfl:=oI O
  exact endR
theorem Zzx {j c e p1 v1 r} (I:Zh5 j p1=some r) (k:sc h eI c j.Colors) (l:sc h Zf e j.Edges) (f1:sc h eI v1 p1):CallsH P 300 #[.agg #[c,e],v1] h (fun v h'=>∃ w0 w1,v=.agg #[w0,w1]/\S ψ h h' [.it oL [w0] r.Colors,.it (El.ow Zf) [w1] r.Edges]):=by
 refine zv ⟨[(3,[(18,tkI)]),(8,[(35,tkI)])],[],[],[(10,⟨kdL [0,2,0,0,1,0,1,0,0,1,0,1,0,3,4,0,4],.fin [2,3,4,5,6,7,8,9,10,11,12,13,0,1,14,15,16],true⟩)]⟩ Tryz.func300 ?_
 have C:=sZ hψ
 refine new_S C fun b2 an C=>?_
 refine new_S C fun b4 ao C=>?_
 refine bV C 1 0 ?_
 refine vL k C.le ?_
 refine mkO eI I fun ap i aq C I=>?_
 refine ZG oneA ?_
 refine new_S C fun b5 ar C=>?_
 (iterate 2 refine boxA fun au C=>?_)
 refine bV C 3 0 ?_
 refine vL k C.le ?_
 refine ⟨fun n w x=>∃ xs,S ψ h x [.box b5 [i,(.slice none 0 0)],.it oL [i] xs,.box b4 [(.slice none 0 0),(.slice none 0 0)],.box b2 [c,e]]/\loopN (Zf2 j p1) n (w,xs)=some r,endI,?_⟩
 rintro n _ w x ⟨xs,C,hn⟩
 obtain ⟨m,a,rfl,I,O⟩:=Zh hn
 refine brQ I (fun I=>?_) fun I=>?_
 ·refine ixI slA I fun av I=>?_
  refine bV C 0 0 ?_
  refine ixI slA I fun aw I=>?_
  refine ixA slA I fun ax ay a1 a2 I=>?_
  refine st1_S C 1 rfl a1 a2 rfl (fun _=>⟨rfl,rfl⟩) fun az C=>?_
  dsimp at C
  exact endL
 ·refine bV C 3 1 ?_
  refine vL l C.le ?_
  have C:=C.nilO (E:=Zf)
  refine ⟨fun y a0 o=>∃ g p,S ψ h o [.box b5 [i,p],.it oL [i] xs,.box b4 [(.slice none 0 0),(.slice none 0 0)],.box b2 [c,e],.it (El.ow Zf) [p] g]/\loopN (ZfP j p1 xs) y (a0,g)=some a,endI,?_⟩
  rintro y _ a0 o ⟨g,p,C,a3⟩
  obtain ⟨b0,b1,rfl,I,a4⟩:=Zh a3
  refine brQ I (fun I=>?_) fun I=>?_
  ·refine ixA slA I fun b3 b6 a5 a6 I=>?_
   obtain ⟨cs,ck,hr⟩:=l.cells a5 a6 rfl
   obtain rfl:=Zaw hr
   refine lsA ?_
   refine new_S C fun b9 af C=>?_
   (iterate 2 refine boxA fun a7 C=>?_)
   refine ⟨fun _=>False,?_⟩
   have u:=C
   have f:=eX a7
   refine bI C 0 0 ?_
   refine ixI slA I fun ac I=>?_
   refine bI C 0 1 ?_
   refine ixI slA I fun ad I=>?_
   refine ZbN C fun b7 ag xE C=>⟨eZ (f.trans xE),?_⟩
   replace f:=f.trans xE
   refine ZK ?_
   refine ldV_K (u.cells 1 rfl) 1 rfl rfl ?_
   obtain ⟨b8,a8,I⟩:=obind I
   refine ZkQ C 6 rfl 0 rfl (fun _=>⟨[.int .i64 ac],[.int .i64 ad],[],[],rfl,rfl,⟨rfl,rfl⟩,⟨rfl,rfl⟩⟩) rfl rfl a8 fun ba ah xE C=>?_
   refine boxA fun ai C=>?_
   exact endL
  ·refine bV C 0 1 ?_
   refine cm1 I C (fun s hx=>Ztr s hx slA) fun bb bc ak C I=>⟨_,rfl,?_⟩
   refine boxA fun al C=>?_
   refine lsA ?_
   (iterate 2 refine boxA fun am C=>?_)
   refine lsA ?_
   obtain rfl:=oI I
   obtain rfl:=oI a4
   obtain rfl:=oI O
   exact endR
theorem Zvk {edges0 v0 r} (I:Zhm edges0=some r) (i:sc h Zf v0 edges0):zL 320 #[v0] h ψ eI r:=by
 refine zv ⟨[(3,[(3,.v),(8,tkI)])],[],[],[]⟩ Tryz.func320 ?_
 have C:=sZ hψ
 refine vL i C.le ?_
 have C:=C.nilO (E:=eI)
 refine ⟨fun n j k f=>∃ c,S ψ h f [.it oL [j] c]/\loopN (Zgq edges0) n (c,k)=some r,endI,?_⟩
 rintro n _ j k f ⟨c,C,l⟩
 obtain ⟨m,a,rfl,I,O⟩:=Zh l
 refine brQ I (fun I=>?_) fun I=>?_
 ·refine ixA slA I fun e s o p I=>?_
  obtain ⟨cs,ck,hr⟩:=i.cells o p rfl
  obtain rfl:=Zaw hr
  refine lsA ?_
  refine new_S C fun b5 u C=>?_
  (iterate 2 refine boxA fun v C=>?_)
  refine lsA ?_
  refine ZO (E:=eI) (css:=[[.int .i64 e.A],[.int .i64 e.B]]) (xs:=([e.A,e.B]:List Int)) C (fun _=>⟨[],[],rfl,⟨rfl,rfl⟩,⟨[],[],rfl,⟨rfl,rfl⟩,rfl⟩⟩) rfl rfl fun w x C=>?_
  obtain ⟨y,g,I⟩:=obind I
  refine app_S C 2 rfl (ZbR (Zbl _) slA) rfl rfl g fun a0 a1 C=>?_
  dsimp at C
  exact endL
 ·obtain rfl:=oI I
  obtain rfl:=oI O
  exact endR
theorem ZEQ {k c e h1 f g r} (I:Zik k h1=some r) (p:sc h eI c k.Colors) (u:sc h Zf e k.Edges) (v:sc h eI f h1.Colors) (w:sc h Zf g h1.Edges):zR 301 #[.agg #[c,e],.agg #[f,g]] h ψ (.int .i64 r):=by
 refine zv ⟨[],[],[],[(4,⟨kdL [0,1,3,0,2,4,4,0],.fin [0,1,2,3,4,5,6,7],true⟩)]⟩ Tryz.func301 ?_
 have C:=sZ hψ
 refine new_S C fun b2 x C=>?_
 refine new_S C fun b3 y C=>?_
 refine lsA ?_
 refine cm0 I C (fun s i=>ZeD s i slA slA) fun a0 o C I=>⟨_,rfl,?_⟩
 refine brZ fun I=>?_
 refine ⟨fun _=>False,?_⟩
 have j:=C
 have a:=eX o
 refine bV C 1 1 ?_
 obtain ⟨a1,l,I⟩:=obind I
 refine ce1 C (fun s=>Zvk s.fle l slA) fun a2 a3 xE C=>⟨_,rfl,eZ (a.trans xE),?_⟩
 replace a:=a.trans xE
 refine ZK ?_
 refine ldV_K (j.cells 0 rfl) 1 rfl rfl ?_
 refine cm1 I C (fun s i=>Zvk s i slA) fun a4 a5 a6 C I=>⟨_,rfl,?_⟩
 refine cm0 I C (fun s i=>ZeD s i slA slA) fun a7 a8 C I=>⟨_,rfl,?_⟩
 exact tZ
end
theorem ZG8 {ψ:CM} {o h:Heap} {os:List Ob} {x0:Zu} {y:Nat} {a:List Value} {c:Value} {e:Value} {f:Value} {g:Value} {i:Value} {j:Value} {p1:List Int} {v1:Value} {r:Zu} (I:ZfV x0 p1=some r) (C:S ψ o h (.box y (.int .i64 x0.qcounter.qleft::.bool x0.qcounter.qspent::c::e::f::.int .i64 x0.qnodes::.int .i64 x0.qleaves::g::i::j::a)::.it oL [g] x0.qform.Colors::.it (El.ow Zf) [i] x0.qform.Edges::.it (El.ow eL) [j] x0.qbest::os)) (a9:SlC (UB ψ o) eI c x0.qgraph.Colors) (aa:SlC (UB ψ o) Zf e x0.qgraph.Edges) (ab:SlC (UB ψ o) eL f x0.qlists) (f1:SlC ψ eI v1 p1):CallsH P 283 #[.pointer (some ⟨y,0,none⟩),v1] h (fun v h'=>∃ w0 w1 w2,v=.tuple #[]/\S ψ o h' (.box y (.int .i64 r.qcounter.qleft::.bool r.qcounter.qspent::c::e::f::.int .i64 r.qnodes::.int .i64 r.qleaves::w0::w1::w2::a)::.it oL [w0] r.qform.Colors::.it (El.ow Zf) [w1] r.qform.Edges::.it (El.ow eL) [w2] r.qbest::os)):=by
 refine zv ⟨[],[(5,[(5,tkI)]),(7,[])],[],[]⟩ Tryz.func283 ?_
 refine bI C 0 6 ?_
 refine boxA fun ag C=>?_
 refine lsA ?_
 refine cl2 I C (fun s _ _ hx=>Zzx s.fle hx slA slA (f1.mono C.leF)) fun a0 a1 w ah C I=>⟨_,_,rfl,?_⟩
 refine new_S C fun b4 ai C=>?_
 (iterate 2 refine boxA fun aj C=>?_)
 refine ⟨fun c5 a2=>S ψ o a2 (.box b4 [a1,w]::.it oL [a1] a0.Colors::.it (El.ow Zf) [w] a0.Edges::.box y (.int .i64 x0.qcounter.qleft::.bool x0.qcounter.qspent::c::e::f::.int .i64 x0.qnodes::.int .i64 (ε.wrap (x0.qleaves+1))::g::i::j::a)::.it oL [g] x0.qform.Colors::.it (El.ow Zf) [i] x0.qform.Edges::.it (El.ow eL) [j] x0.qbest::os)/\Zdm x0 p1 a0 c5=some r,?_,?_⟩
 ·refine bV C 3 9 ?_
  refine Zm slA ?_
  refine brQ I (fun I=>?_) fun I=>?_
  ·refine lsA ?_
   refine cm0 I C (fun s hx=>ZEQ s hx slA slA slA slA) fun ak ad C I=>⟨_,rfl,?_⟩
   exact ⟨pkT C 7 [0,1,2,3,4,5,6],I⟩
  ·exact ⟨pkT C 7 [0,1,2,3,4,5,6],I⟩
 ·rintro _ c5 a2 ⟨C,I⟩
  refine ⟨fun a3=>∃ xs k p l u x,S ψ o a3 (.box y (.int .i64 x0.qcounter.qleft::.bool x0.qcounter.qspent::c::e::f::.int .i64 x0.qnodes::.int .i64 (ε.wrap (x0.qleaves+1))::k::l::x::a)::.it oL [k] xs::.it (El.ow Zf) [l] p::.it (El.ow eL) [x] u::os)/\Zdk x0 p1 c5 xs p u=some r,?_,?_⟩
  ·refine brQ I (fun I=>?_) fun I=>?_
   ·refine lsA ?_
    (iterate 3 refine boxA fun ae C=>?_)
    have C:=C.nilO (E:=eL)
    exact ⟨_,_,_,_,_,_,pkT C 8 [4,2,3,0],I⟩
   ·exact ⟨_,_,_,_,_,_,pkT C 7 [3,4,5,6],I⟩
  ·rintro _ a3 ⟨xs,k,p,l,u,x,C,I⟩
   refine brQ I (fun I=>?_) fun I=>?_
   ·refine bV C 0 9 ?_
    refine ZG (f1.mono C.leF).one ?_
    have C:=C.arg f1
    obtain ⟨al,a7,I⟩:=obind I
    refine ZlW C 3 rfl rfl rfl a7 fun a8 am C=>?_
    refine boxA fun af C=>?_
    obtain rfl:=oI I
    exact ⟨k,l,a8,rfl,pkT C 4 [0,1,2,3]⟩
   ·obtain rfl:=oI I
    exact ⟨k,l,x,rfl,pkT C 4 [0,1,2,3]⟩
theorem Zv6 {ψ:CM} {f h:Heap} {os:List Ob} {c:Zad} {e:Nat} {a:List Value} {r:Bool×Zad} (I:ZkK c=some r) (C:S ψ f h (.box e (.int .i64 c.qleft::.bool c.qspent::a)::os))  :CallsH P 284 #[.pointer (some ⟨e,0,none⟩)] h (fun v j=>v=.bool r.1/\S ψ f j (.box e (.int .i64 r.2.qleft::.bool r.2.qspent::a)::os)):=by
 refine zv annO Tryz.func284 ?_
 refine bI C 0 0 ?_
 refine brQ I (fun I=>?_) fun I=>?_
 ·refine boxA fun g C=>?_
  obtain rfl:=oI I
  exact ⟨rfl,pkT C 1 [0]⟩
 ·refine bI C 0 0 ?_
  refine boxA fun i C=>?_
  obtain rfl:=oI I
  exact ⟨rfl,pkT C 1 [0]⟩
theorem rq_impl_explorer_search {a0:Zu->(List Int)->Option Zu}  (a9:∀ {ψ:CM} {u h:Heap} {os:List Ob} {c:Zu} {b0:Nat} {e:List Value} {f:Value} {g:Value} {i:Value} {w:Value} {x:Value} {y:Value} {y1:List Int} {v1:Value} {r:Zu} (I:a0 c y1=some r) (C:S ψ u h (.box b0 (.int .i64 c.qcounter.qleft::.bool c.qcounter.qspent::f::g::i::.int .i64 c.qnodes::.int .i64 c.qleaves::w::x::y::e)::.it oL [w] c.qform.Colors::.it (El.ow Zf) [x] c.qform.Edges::.it (El.ow eL) [y] c.qbest::os)) (aa:SlC (UB ψ u) eI f c.qgraph.Colors) (ab:SlC (UB ψ u) Zf g c.qgraph.Edges) (ac:SlC (UB ψ u) eL i c.qlists) (f1:SlC ψ eI v1 y1),CallsH P 253 #[.pointer (some ⟨b0,0,none⟩),v1] h (fun v h'=>∃ w0 w1 w2,v=.tuple #[]/\S ψ u h' (.box b0 (.int .i64 r.qcounter.qleft::.bool r.qcounter.qspent::f::g::i::.int .i64 r.qnodes::.int .i64 r.qleaves::w0::w1::w2::e)::.it oL [w0] r.qform.Colors::.it (El.ow Zf) [w1] r.qform.Edges::.it (El.ow eL) [w2] r.qbest::os))):∀ {ψ:CM} {u h:Heap} {os:List Ob} {c:Zu} {b0:Nat} {e:List Value} {f:Value} {g:Value} {i:Value} {w:Value} {x:Value} {y:Value} {y1:List Int} {v1:Value} {r:Zu} (I:q_impl_explorer_search a0 c y1=some r) (C:S ψ u h (.box b0 (.int .i64 c.qcounter.qleft::.bool c.qcounter.qspent::f::g::i::.int .i64 c.qnodes::.int .i64 c.qleaves::w::x::y::e)::.it oL [w] c.qform.Colors::.it (El.ow Zf) [x] c.qform.Edges::.it (El.ow eL) [y] c.qbest::os)) (aa:SlC (UB ψ u) eI f c.qgraph.Colors) (ab:SlC (UB ψ u) Zf g c.qgraph.Edges) (ac:SlC (UB ψ u) eL i c.qlists) (f1:SlC ψ eI v1 y1),CallsH P 253 #[.pointer (some ⟨b0,0,none⟩),v1] h (fun v h'=>∃ w0 w1 w2,v=.tuple #[]/\S ψ u h' (.box b0 (.int .i64 r.qcounter.qleft::.bool r.qcounter.qspent::f::g::i::.int .i64 r.qnodes::.int .i64 r.qleaves::w0::w1::w2::e)::.it oL [w0] r.qform.Colors::.it (El.ow Zf) [w1] r.qform.Edges::.it (El.ow eL) [w2] r.qbest::os)):=by
 intro ψ u h os c b0 e f g i w x y y1 v1 r I C aa ab ac f1
 refine zv ⟨[(4,[(20,tkI)]),(10,[(48,tkI)])],[(7,[])],[],[]⟩ Tryz.func253 ?_
 rw [q_impl_explorer_search] at I
 refine cl1 I C (fun s _ _ hx=>ZFL s.fle hx (f1.mono C.leF)) fun a3 a5 bf C I=>⟨_,rfl,?_⟩
 refine Zm slA ?_
 refine brQ I (fun I=>?_) fun I=>?_
 ·have C:S ψ u bf (.box b0 (.int .i64 c.qcounter.qleft::.bool c.qcounter.qspent::f::g::i::.int .i64 c.qnodes::.int .i64 c.qleaves::w::x::y::e)::.it oL [w] c.qform.Colors::.it (El.ow Zf) [x] c.qform.Edges::.it (El.ow eL) [y] c.qbest::.it oL [a5] a3::os):=pkT C 5 [1,2,3,4,0]
  obtain ⟨c0,b4,I⟩:=obind I
  obtain ⟨bt,c3,a4,ar⟩:=id C
  refine (ZG8 b4 (a4.upS ar) (aa.mono a4.ubU) (ab.mono a4.ubU) (ac.mono a4.ubU) (f1.mono a4.bas)).mono fun c4 c5 ⟨bg,an,ao,b5,au⟩=>⟨b5,?_⟩
  replace C:=a4.downS au
  clear au a4 ar
  obtain rfl:=oI I
  exact ⟨bg,an,ao,rfl,pkT C 5 [0,1,2,3]⟩
 ·refine Zm slA ?_
  obtain ⟨bh,hn⟩:=Zax I
  refine ⟨fun n ag ai=>∃ q ah a1 a2 xs j o k p l,S ψ u ai (.it oL [a5] a3::.box b0 (.int .i64 q::.bool ah::f::g::i::.int .i64 a1::.int .i64 a2::j::k::l::e)::.it oL [j] xs::.it (El.ow Zf) [k] o::.it (El.ow eL) [l] p::os)/\loopN (Zcv a0 c y1 a3) n (ag,q,ah,a1,a2,xs,o,p)=some r,⟨bh,_,_,_,_,_,_,_,_,_,_,pkT C 5 [0,1,2,3,4],hn⟩,?_⟩
  rintro n _ ag ai ⟨q,ah,a1,a2,xs,j,o,k,p,l,C,hn⟩
  obtain ⟨m,a,rfl,I,O⟩:=Zh hn
  refine brQ I (fun I=>?_) fun I=>?_
  ·refine ixI slA I fun aj I=>?_
   refine ⟨fun av=>∃ a6 a7,S ψ u av (.it oL [a5] a3::.box b0 (.int .i64 a6::.bool a7::f::g::i::.int .i64 a1::.int .i64 a2::j::k::l::e)::.it oL [j] xs::.it (El.ow Zf) [k] o::.it (El.ow eL) [l] p::os)/\Zp3 a0 c y1 ag a1 a2 xs o p aj a6 a7=some a,?_,?_⟩
   ·refine bB C 1 1 ?_
    refine brQ I (fun I=>?_) fun I=>?_
    ·obtain rfl:=oI I
     obtain rfl:=oI O
     exact ⟨j,k,l,rfl,pkT C 5 [1,2,3,4]⟩
    ·have C:S ψ u ai (.box b0 (.int .i64 q::.bool ah::f::g::i::.int .i64 a1::.int .i64 a2::j::k::l::e)::.it oL [a5] a3::.it oL [j] xs::.it (El.ow Zf) [k] o::.it (El.ow eL) [l] p::os):=pkT C 5 [1,0,2,3,4]
     obtain ⟨c6,ap,I⟩:=obind I
     obtain ⟨bu,c7,ak,aw⟩:=id C
     refine (Zv6 ap (ak.upS aw) ).mono fun c8 bv ⟨b7,ax⟩=>⟨_,b7,?_⟩
     replace C:=ak.downS ax
     clear ax ak aw
     refine brQ I (fun I=>?_) fun I=>?_
     ·obtain rfl:=oI I
      obtain rfl:=oI O
      exact ⟨j,k,l,rfl,pkT C 5 [0,2,3,4]⟩
     ·exact ⟨_,_,pkT C 5 [1,0,2,3,4],I⟩
   ·rintro _ av ⟨a6,a7,C,I⟩
    refine bI C 1 5 ?_
    refine boxA fun c9 C=>?_
    refine vL f1 C.leF ?_
    refine mkO eI I fun ca ay cb C I=>?_
    refine vL f1 C.leF ?_
    obtain ⟨bi,af⟩:=Zax I
    refine ⟨fun az b1 b2=>∃ ad,S ψ u b2 (.it oL [ay] ad::.it oL [a5] a3::.box b0 (.int .i64 a6::.bool a7::f::g::i::.int .i64 (ε.wrap (a1+1))::.int .i64 a2::j::k::l::e)::.it oL [j] xs::.it (El.ow Zf) [k] o::.it (El.ow eL) [l] p::os)/\loopN (ZfQ a0 c y1 ag a1 a2 xs o p aj a6 a7) az (b1,ad)=some a,⟨bi,_,pkT C 6 [0,1,2,3,4,5],af⟩,?_⟩
    rintro az _ b1 b2 ⟨ad,C,af⟩
    obtain ⟨bj,cc,rfl,I,al⟩:=Zh af
    refine brQ I (fun I=>?_) fun I=>?_
    ·refine ixI (f1.mono C.leF) I fun cd I=>?_
     refine ixA slA I fun ce cf b8 b9 I=>?_
     refine st1_S C 0 rfl b8 b9 rfl (fun _=>⟨rfl,rfl⟩) fun cg C=>?_
     dsimp at C
     obtain rfl:=oI I
     exact ⟨bj,ltS,_,pkT C 6 [0,1,2,3,4,5],al⟩
    ·refine ixI slA I fun bk I=>?_
     refine ixA slA I fun ch cj ba bb I=>?_
     refine st1_S C 0 rfl ba bb rfl (fun _=>⟨rfl,rfl⟩) fun bw C=>?_
     dsimp at C
     refine bV C 2 4 ?_
     have C:=frA 0
     refine cl1 I C (fun bm bn _ bc=>Zu7 bm.fle bc slA (frF bn 0 rfl)) fun bo bp bd C I=>⟨_,rfl,?_⟩
     have C:=frA 0
     have C:S ψ u bd (.box b0 (.int .i64 a6::.bool a7::f::g::i::.int .i64 (ε.wrap (a1+1))::.int .i64 a2::j::k::l::e)::.it oL [j] xs::.it (El.ow Zf) [k] o::.it (El.ow eL) [l] p::.it eL [bp] bo::.it eL [ay] (ad.set (aj:Int).toNat (ε.wrap (bk-1)))::.it oL [a5] a3::os):=pkT C 7 [3,4,5,6,0,1,2]
     obtain ⟨ck,aq,I⟩:=obind I
     obtain ⟨bx,cm,a8,am⟩:=id C
     refine (a9 aq (a8.upS am) (aa.mono a8.ubU) (ab.mono a8.ubU) (ac.mono a8.ubU) (frF am 4 rfl)).mono fun cn bz ⟨co,bq,br,be,b3⟩=>⟨be,?_⟩
     replace C:=a8.downS b3
     clear b3 a8 am
     obtain rfl:=oI I
     obtain rfl:=oI al
     exact ⟨m,ltS,_,_,_,_,_,_,_,_,_,_,pkT C 7 [6,0,1,2,3],O⟩
  ·obtain rfl:=oI I
   obtain rfl:=oI O
   exact ⟨j,k,l,rfl,pkT C 5 [1,2,3,4]⟩
theorem rn_impl_explorer_search:∀ n,(∀ {ψ:CM} {i h:Heap} {os:List Ob} {a:Zu} {o:Nat} {g:List Value} {c:Value} {e:Value} {f:Value} {j:Value} {k:Value} {l:Value} {p:List Int} {v1:Value} {r:Zu} (I:(pn_impl_explorer_search n) a p=some r) (C:S ψ i h (.box o (.int .i64 a.qcounter.qleft::.bool a.qcounter.qspent::c::e::f::.int .i64 a.qnodes::.int .i64 a.qleaves::j::k::l::g)::.it oL [j] a.qform.Colors::.it (El.ow Zf) [k] a.qform.Edges::.it (El.ow eL) [l] a.qbest::os)) (s:SlC (UB ψ i) eI c a.qgraph.Colors) (u:SlC (UB ψ i) Zf e a.qgraph.Edges) (w:SlC (UB ψ i) eL f a.qlists) (x:SlC ψ eI v1 p),CallsH P 253 #[.pointer (some ⟨o,0,none⟩),v1] h (fun v h'=>∃ w0 w1 w2,v=.tuple #[]/\S ψ i h' (.box o (.int .i64 r.qcounter.qleft::.bool r.qcounter.qspent::c::e::f::.int .i64 r.qnodes::.int .i64 r.qleaves::w0::w1::w2::g)::.it oL [w0] r.qform.Colors::.it (El.ow Zf) [w1] r.qform.Edges::.it (El.ow eL) [w2] r.qbest::os))):=by
  intro n
  induction n with
  | zero=>exact fun I=>absurd I (by simp [pn_impl_explorer_search])
  | succ n y=>exact rq_impl_explorer_search y
theorem ZAU:∀ {ψ:CM} {i h:Heap} {os:List Ob} {a:Zu} {o:Nat} {g:List Value} {c:Value} {e:Value} {f:Value} {j:Value} {k:Value} {l:Value} {p:List Int} {v1:Value} {r:Zu} (I:Zpc a p=some r) (C:S ψ i h (.box o (.int .i64 a.qcounter.qleft::.bool a.qcounter.qspent::c::e::f::.int .i64 a.qnodes::.int .i64 a.qleaves::j::k::l::g)::.it oL [j] a.qform.Colors::.it (El.ow Zf) [k] a.qform.Edges::.it (El.ow eL) [l] a.qbest::os)) (s:SlC (UB ψ i) eI c a.qgraph.Colors) (u:SlC (UB ψ i) Zf e a.qgraph.Edges) (w:SlC (UB ψ i) eL f a.qlists) (x:SlC ψ eI v1 p),CallsH P 253 #[.pointer (some ⟨o,0,none⟩),v1] h (fun v y=>∃ w0 w1 w2,v=.tuple #[]/\S ψ i y (.box o (.int .i64 r.qcounter.qleft::.bool r.qcounter.qspent::c::e::f::.int .i64 r.qnodes::.int .i64 r.qleaves::w0::w1::w2::g)::.it oL [w0] r.qform.Colors::.it (El.ow Zf) [w1] r.qform.Edges::.it (El.ow eL) [w2] r.qbest::os)):=(rn_impl_explorer_search fuel)
section
variable {ψ:CM} {h:Heap} (hψ:CLe ψ (hcell h))
include hψ
theorem Ztj {w c e budget1 r} (I:Zkk w budget1=some r) (f:SlC ψ eI c w.Colors) (g:SlC ψ Zf e w.Edges):CallsH P 225 #[.agg #[c,e],.int .i64 budget1] h (fun v h'=>match r.1 with|none=>v=.tuple #[.pointer none,.int .i64 r.2]/\S ψ h h' []|some d=>∃ l w1 w2 w3 w4 w5 w6,v=.tuple #[.pointer (some ⟨l,0,none⟩),.int .i64 r.2]/\S ψ h h' [.box l [.int .i64 d.qcounter.qleft,.bool d.qcounter.qspent,w1,w2,w3,.int .i64 d.qnodes,.int .i64 d.qleaves,w4,w5,w6],.it oL [w4] d.qform.Colors,.it (El.ow Zf) [w5] d.qform.Edges,.it (El.ow eL) [w6] d.qbest]):=by
 refine zv ⟨[],[],[],[(5,⟨kdL [0,0,2,1,3,0,4,0],.fin [3,4,0,1,2,5,6,7],true⟩),(6,⟨[],.fin [1,2,3,4,5,6,7,0,8],false⟩)]⟩ Tryz.func225 ?_
 have C:=sZ hψ
 refine new_S C fun b2 ah C=>?_
 refine lsA ?_
 refine cl0 I C (fun s _ _ x=>Zpa s.fle x (f.mono C.leF) (g.mono C.leF)) fun r8 ai C I=>⟨_,rfl,?_⟩
 refine brZ fun I=>?_
 refine cm0 I C (fun s x=>ZuE s x) fun aj a6 C I=>⟨_,rfl,?_⟩
 refine brZ fun I=>?_
 refine ⟨fun _=>False,?_⟩
 have j:=C
 have i:=eX a6
 refine lsA ?_
 obtain ⟨a7,y,I⟩:=obind I
 refine ce1 C (fun s=>ZBm s.fle y (f.mono C.leF) (g.mono C.leF)) fun o ak xE C=>⟨_,rfl,eZ (i.trans xE),?_⟩
 replace i:=i.trans xE
 refine ZK ?_
 refine ldV_K (j.cells 0 rfl) 0 rfl rfl ?_
 refine ZK ?_
 refine ldV_K (j.cells 0 rfl) 1 rfl rfl ?_
 refine ZG oneA ?_
 refine new_S C fun a8 al C=>?_
 refine lsA ?_
 refine cl1 I C (fun p _ _ a0=>Zu7 p.fle a0 slA (f.mono p.bas)) fun a9 aa ab C I=>⟨_,rfl,?_⟩
 have C:=frA 2
 have C:=frA 0
 have C:=C.nil eI
 have C:=C.nil Zf
 have C:=C.nil eL
 have C:S ψ h ab [.box a8 [.int .i64 budget1,.bool false,c,e,o,.int .i64 0,.int .i64 0,(.slice none 0 0),(.slice none 0 0),(.slice none 0 0)],.it oL [(.slice none 0 0)] ([]:List Int),.it (El.ow Zf) [(.slice none 0 0)] ([]:List Zb),.it (El.ow eL) [(.slice none 0 0)] ([]:List (List Int)),.it eL [aa] a9,.it (El.sl eL) [o] a7,.box b2 [c,e]]:=pk C [4,2,1,0,3,5,6]
 obtain ⟨am,a1,I⟩:=obind I
 obtain ⟨ag,an,a,k⟩:=id C
 refine (ZAU a1 (a.upS k) (f.mono (a.bas.trans a.ubF)) (g.mono (a.bas.trans a.ubF)) ((frF k 5 rfl).mono a.ubF) (frF k 4 rfl)).mono fun ao ap ⟨aq,ac,ad,a2,u⟩=>⟨a2,?_⟩
 replace C:=a.downS u
 clear u a k
 refine bB C 0 1 ?_
 refine brZ fun I=>?_
 exact endS
theorem ZCm {g0 g i budget1 r} (I:ZkY g0 budget1=some r) (j:SlC ψ eI g g0.Colors) (k:SlC ψ Zf i g0.Edges):CallsH P 185 #[.agg #[g,i],.int .i64 budget1] h (fun v h'=>∃ w0 w1 w2,v=.tuple #[.agg #[w0,w1],w2,.int .i64 r.2.2]/\S ψ h h' [.it oL [w0] r.1.Colors,.it (El.ow Zf) [w1] r.1.Edges,.it eL [w2] r.2.1]):=by
 refine zv ⟨[],[],[],[(4,⟨kdL [0,0,0,1,0,0,0,2,0,2,3,0,0],.fin [0,1,2,3,10,4,5,6,7,8,9,11,12],true⟩)]⟩ Tryz.func185 ?_
 have C:=sZ hψ
 refine new_S C fun b2 aj C=>?_
 refine new_S C fun b4 ak C=>?_
 refine lsA ?_
 obtain ⟨⟨_|al,am⟩,hx,I⟩:=obind I
 ·dsimp only at I
  obtain ⟨φ,L,s,f⟩:=id C
  refine (Ztj s.fle hx (j.mono s.bas) (k.mono s.bas)).mono fun a5 w ⟨eq,t⟩=>⟨_,_,eq,?_⟩
  replace C:=join0 s f t
  clear t s f
  refine brQ I (fun I=>?_) fun I=>?_
  ·(iterate 2 refine boxA fun y C=>?_)
   refine lsA ?_
   obtain rfl:=oI I
   have C:=C.nilF (E:=El.int .i64)
   have C:=C.nil Zf
   have C:=C.nil eI
   exact endR
  ·cases I
 ·dsimp only at I
  obtain ⟨φ,L,s,f⟩:=id C
  refine (Ztj s.fle hx (j.mono s.bas) (k.mono s.bas)).mono fun a5 w ⟨an,w1,w2,w3,w4,w5,w6,eq,t⟩=>⟨_,_,eq,?_⟩
  replace C:=join4 s f t
  clear t s f
  refine brQ I (fun I=>?_) fun I=>?_
  ·(iterate 2 refine boxA fun y C=>?_)
   refine lsA ?_
   obtain rfl:=oI I
   have C:=C.nilF (E:=El.int .i64)
   have C:=C.nil Zf
   have C:=C.nil eI
   exact endR
  ·obtain ⟨a7,l,I⟩:=obind I
   obtain ⟨a0,o⟩:∃ p,AddrOf w6 0 1 p:=(ZaD l).elim fun _ g2=>(C.rdL 3 rfl (Zac _)).elim (fun he=>by rw [he.2] at g2;simp at g2) fun he=>he.elim fun a he=>he.elim fun c he=>⟨_,a,_,c,he.1,rfl⟩
   have a4:∀ p,AddrOf w6 0 1 p->p=a0:=by
     rintro p ⟨a,n,c,e,rfl⟩
     obtain ⟨a',n',c',e',rfl⟩:=o
     rw [e] at e'
     cases e'
     rfl
   obtain ⟨aa,a3,C⟩:=ZaM C 3 rfl o l (K:=fun u=>S ψ h w (.it eL [u] a7::_)) fun u C=>C
   have a2:=C
   have nb:¬ a0.block=b4:=fun e=>by
     refine a2.boxNe 5 4 rfl rfl ?_
     obtain ⟨a8,n,c,e1,e2⟩:=o
     rw [e1]
     show some a8.block=some b4
     rw [<-e,e2]
     unfold Addr.add;split<;>rfl
   refine ⟨fun x=>x=b4,?_⟩
   refine lsA ?_
   refine Zt6 C 5 rfl rfl rfl oneA fun ao x5 C=>?_
   dsimp at C
   refine Zt6 C 5 rfl rfl rfl oneA fun y x6 C=>?_
   dsimp at C
   refine ⟨x5.trans x6,?_⟩
   refine Zn1 (fun e=>a2.boxNeB 1 5 (by decide) rfl rfl e) ?_
   refine ldV_K (a2.cells 1 rfl) 9 rfl rfl ?_
   refine Z4 (a2.rdL 4 rfl (Zac _)) l fun ab ad=>?_
   obtain rfl:=a4 ab ad
   refine Zn1 nb ⟨aa,a3,?_⟩
   refine lsA ?_
   exact endS
end
theorem ZDv {ψ:CM} {h:Heap} (hψ:CLe ψ (hcell h)) {c a:Int} {r:ByteArray} (I:Zmb c a=some r) (g:TabH 0 h):CallsH P 255 #[.int .i64 c,.int .i64 a] h (fun v k=>v=.string r/\S ψ h k []):=by
  unfold Zmb at I
  split at I
  · rename_i e
    obtain rfl:=oI I
    obtain ⟨rfl,f,h1⟩:=e
    exact fmt_H hψ fun w j=>Go.Proofs.Any.strconv_FormatInt_10 Tryz.fmtM _ f h1 w (TabH.tab κ (j▸g))
  · cases I
section
variable {ψ:CM} {h:Heap} (hψ:CLe ψ (hcell h))
include hψ
theorem Zou {n0 r} (I:ZfR n0=some r) (g:TabH 0 h):zR 226 #[.int .i64 n0] h ψ (.string r):=by
 refine zv annO Tryz.func226 ?_
 have C:=sZ hψ
 refine cl0 I C (fun s _ _ a=>ZDv s.fle a (g.ext s.ext)) fun e c C I=>⟨_,rfl,?_⟩
 exact tZ
end
theorem ZrM {ψ:CM} {h:Heap} (hψ:CLe ψ (hcell h)) {x0:List ByteArray} {v0:Value} {s1:ByteArray} {r:ByteArray} (I:Zel x0 s1=some r) (c:sc h El.str v0 x0):CallsH P 228 #[v0,.string s1] h (fun v e=>v=.string r/\S ψ h e []):=by
  unfold Zel at I
  split at I
  · rename_i a
    obtain rfl:=oI I
    exact ZzS Tryz.joinL Tryz.joinL_x hψ c a.1 a.2
  · cases I
section
variable {ψ:CM} {h:Heap} (hψ:CLe ψ (hcell h))
include hψ
theorem ZDb {n0 r} (I:Zeo n0=some r)  :zR 256 #[.int .i64 n0] h ψ (.bool r):=by
 refine zv annO Tryz.func256 ?_
 have C:=sZ hψ
 refine cm0 I C (fun s a=>Zaz s a) fun e c C I=>⟨_,rfl,?_⟩
 exact tZ
theorem ZxC {c v0 r} (I:Zlt c=some r) (i:sc h eI v0 c) (hL:TabH 0 h):zR 227 #[v0] h ψ (.string r):=by
 refine zv ⟨[(7,[(3,.v),(18,tkI)])],[(3,[])],[],[]⟩ Tryz.func227 ?_
 have C:=sZ hψ
 refine ⟨fun e=>S ψ h e []/\Zkj c=some r,?_,?_⟩
 ·refine vL i C.le ?_
  refine brZ fun I=>?_
  refine cl0 I C (fun o _ _ j=>Zes o.fle j slA κ (fun x=>fun k=>fun p  =>ZDb k p )) fun y a0 C I=>⟨_,rfl,?_⟩
  exact brQ I (fun I=>tZ) fun I=>tZ
 ·rintro _ e ⟨C,I⟩
  refine vL i C.le ?_
  refine brZ fun I=>?_
  refine vL i C.le ?_
  have C:=C.nilO (E:=El.str)
  refine ⟨fun n u f g=>∃ a9,S ψ h g [.it (El.ow El.str) [u] a9]/\loopN (ZeA c) n (a9,f)=some r,endI,?_⟩
  rintro n _ u f g ⟨a9,C,v⟩
  obtain ⟨m,a,rfl,I,O⟩:=Zh v
  refine brQ I (fun I=>?_) fun I=>?_
  ·refine ixI slA I fun a1 I=>?_
   refine cl0 I C (fun s _ _ l=>Zou s.fle l (hL.ext s.ext)) fun a2 a3 C I=>⟨_,rfl,?_⟩
   refine puA I 0 fun a4 a5 a6 C I=>?_
   exact endL
  ·refine cm0 I C (fun s w=>ZrM s w slA) fun a7 a8 C I=>⟨_,rfl,?_⟩
   exact tZ
theorem ZBQ {i c e r} (I:ZjS i=some r) (a2:sc h eI c i.Colors) (g:sc h Zf e i.Edges) (hL:TabH 0 h):zR 186 #[.agg #[c,e]] h ψ (.string r):=by
 refine zv ⟨[(5,[(3,.v),(12,tkI)])],[],[],[(7,⟨kdL [0,0,1,3,0,0,2,4,0,4,4,0],.fin [1,2,3,5,6,7,4,8,9,0,10,11],true⟩)]⟩ Tryz.func186 ?_
 have C:=sZ hψ
 refine new_S C fun b1 a9 C=>?_
 refine lsA ?_
 refine cm0 I C (fun s u=>Zpa s u slA slA) fun r7 aa C I=>⟨_,rfl,?_⟩
 refine brZ fun I=>?_
 refine bV C 0 1 ?_
 refine vL g C.le ?_
 have C:=C.nilO (E:=El.str)
 refine ⟨fun n v3 k l=>∃ a0,S ψ h l [.it (El.ow El.str) [v3] a0,.box b1 [c,e]]/\loopN (Zfi i) n (a0,k)=some r,endI,?_⟩
 rintro n _ v3 k l ⟨a0,C,hn⟩
 obtain ⟨m,a,rfl,I,O⟩:=Zh hn
 refine brQ I (fun I=>?_) fun I=>?_
 ·refine ixA slA I fun ab ac ad v I=>?_
  obtain ⟨cs,ck,hr⟩:=g.cells ad v rfl
  obtain rfl:=Zaw hr
  refine lsA ?_
  refine new_S C fun b5 ae C=>?_
  (iterate 2 refine boxA fun a1 C=>?_)
  refine ⟨fun _=>False,?_⟩
  have j:=C
  have f:=eX a1
  refine bI C 0 0 ?_
  obtain ⟨af,w,I⟩:=obind I
  refine ce0 C (fun s=>Zou s.fle w (hL.ext s.ext)) fun ag xE C=>⟨_,rfl,eZ (f.trans xE),?_⟩
  replace f:=f.trans xE
  refine ZJ ?_
  refine ldI_K (j.cells 0 rfl) 1 rfl rfl ?_
  refine cl0 I C (fun o _ _ x=>Zou o.fle x (hL.ext o.ext)) fun ah ai C I=>⟨_,rfl,?_⟩
  refine gfA I fun I=>?_
  refine gfA I fun I=>?_
  refine puA I 1 fun aj ak a6 C I=>?_
  exact endL
 ·refine bV C 1 0 ?_
  refine cl0 I C (fun p _ _ y=>ZxC p.fle y slA (hL.ext p.ext)) fun al a7 C I=>⟨_,rfl,?_⟩
  refine gfA I fun I=>?_
  refine cm0 I C (fun s u=>ZrM s u slA) fun am a8 C I=>⟨_,rfl,?_⟩
  refine gfA I fun I=>?_
  exact tZ
theorem ZBT {g a c budget1 r} (I:Zfs g budget1=some r) (i:SlC ψ eI a g.Colors) (j:SlC ψ Zf c g.Edges) (hL:TabH 0 h):zR 134 #[.agg #[a,c],.int .i64 budget1] h ψ (.tuple #[.string r.1,.int .i64 r.2]):=by
 refine zv annO Tryz.func134 ?_
 have C:=sZ hψ
 refine new_S C fun b2 u C=>?_
 refine lsA ?_
 obtain ⟨v,p,I⟩:=obind I
 obtain ⟨φ,L,s,e⟩:=id C
 refine (ZCm s.fle p (i.mono s.bas) (j.mono s.bas)).mono fun w x ⟨y,l,o,eq,t⟩=>⟨_,_,_,_,eq,?_⟩
 replace C:=join3 s e t
 clear t s e
 refine new_S C fun b6 a0 C=>?_
 (iterate 2 refine boxA fun a1 C=>?_)
 refine brZ fun I=>?_
 refine lsA ?_
 refine cl0 I C (fun f _ _ k=>ZBQ f.fle k slA slA (hL.ext f.ext)) fun a2 a3 C I=>⟨_,rfl,?_⟩
 exact tZ
theorem ZH4 {f c budget1 r} (I:ZjT f budget1=some r) (o:sc h eL c f.Rows) (hL:TabH 0 h):zR 77 #[.agg #[.int .i64 f.Kind,.int .i64 f.Size,c],.int .i64 budget1] h ψ (.tuple #[.string r.1,.int .i64 r.2]):=by
 refine zv annO Tryz.func77 ?_
 have C:=sZ hψ
 refine new_S C fun b2 u C=>?_
 refine lsA ?_
 refine cm0 I C (fun s e=>Zl6 s e slA) fun r9 v C I=>⟨_,rfl,?_⟩
 refine brZ fun I=>?_
 refine cm0 I C (fun s e=>ZuE s e) fun w x C I=>⟨_,rfl,?_⟩
 refine brZ fun I=>?_
 refine lsA ?_
 refine cm2 I C (fun s e=>Zxe s e slA) fun y a0 l a1 C I=>⟨_,_,_,rfl,?_⟩
 refine new_S C fun b6 a2 C=>?_
 (iterate 2 refine boxA fun a3 C=>?_)
 refine brZ fun I=>?_
 refine lsA ?_
 obtain ⟨a4,j,I⟩:=obind I
 obtain ⟨p,a5,a,g⟩:=id C
 refine (ZBT (CLe.refl _) j slA slA (hL.ext a.ext)).mono fun a6 a7 ⟨k,i⟩=>⟨_,_,k,?_⟩
 replace C:=join0 a g (i.weak a.fle)
 clear i a g
 exact tZ
theorem Zya {c a budget1 r} (I:ZkH c budget1=some r) (e:sc h eL a c.Rows) (l:TabH 0 h):zR 32 #[.agg #[.int .i64 c.Kind,.int .i64 c.Size,a],.int .i64 budget1] h ψ (.tuple #[.string r.1,.int .i64 r.2]):=by
 refine zv annO Tryz.func32 ?_
 have C:=sZ hψ
 refine new_S C fun k g C=>?_
 refine lsA ?_
 refine cl0 I C (fun s _ _ f=>ZH4 s.fle f slA (l.ext s.ext)) fun i j C I=>⟨_,_,rfl,?_⟩
 refine brZ fun I=>?_
 exact brQ I (fun I=>tZ) fun I=>tZ
theorem Zr0 {c a r} (I:ZfX c=some r) (e:sc h eL a c.Rows):CallsH P 43 #[.agg #[.int .i64 c.Kind,.int .i64 c.Size,a]] h (fun v x=>∃ w0,v=.agg #[.int .i64 r.Kind,.int .i64 r.Size,w0]/\S ψ h x [.it (El.ow oL) [w0] r.Rows]):=by
 refine zv annO Tryz.func43 ?_
 have C:=sZ hψ
 refine new_S C fun o g C=>?_
 refine new_S C fun p i C=>?_
 refine bV C 1 2 ?_
 refine cm1 I C (fun s f=>Zda s f slA) fun u w j C I=>⟨_,rfl,?_⟩
 refine boxA fun k C=>?_
 refine lsA ?_
 (iterate 3 refine boxA fun l C=>?_)
 refine lsA ?_
 exact endS
theorem Zxs {x0:List Zd} {v0:Value} {a4:ByteArray} {j:Zd->ByteArray->Option Int} {p:Nat} {e:List Value} {r:Int×Bool} (I:Zpm x0 a4 j=some r) (u:sc h ZL v0 x0) (o2:ctx.okf p=true) (k2:∀ {h1:Heap},ExtH h h1->∀ {ψ1:CM},CLe ψ1 (hcell h1)->∀ {c:Zd} {g:Value} {y1:ByteArray} {r1:Int},j c y1=some r1->SlC (hcell h1) eL g c.Object.Rows->CallsH P p (([.agg #[.string c.Name,.int .i64 c.Object.Kind,.int .i64 c.Object.Size,g,.string c.Key],.string y1]:List Value)++e).toArray h1 (fun v h'=>v=.int .i64 r1/\S ψ1 h1 h' [])):zR 89 #[v0,.string a4,.func (.func p) #[] e.toArray] h ψ (.tuple #[.int .i64 r.1,.bool r.2]):=by
 refine zv ⟨[(3,[(9,tkI),(10,tkI)])],[],[],[]⟩ Tryz.func89 ?_
 have C:=sZ hψ
 refine vL u C.le ?_
 refine lp2 I (nlS C) fun m i9 ac ae a C I O=>?_
 refine brQ I (fun I=>?_) fun I=>?_
 ·obtain ⟨_,hx,I⟩:=obind I
  refine ⟨Zsn hx,?_⟩
  refine ixA slA I fun af ag ad w I=>?_
  obtain ⟨cs,ck,hr⟩:=u.cells ad w rfl
  obtain ⟨ah,rfl,f⟩:=Zam hr
  refine lsA ?_
  obtain ⟨ai,x,I⟩:=obind I
  obtain ⟨φ,L,s,k⟩:=id C
  refine Za9 o2 ?_
  refine (k2 C.ext s.fle x slA).mono fun aj ak ⟨eq,t⟩=>⟨_,eq,?_⟩
  replace C:=join0 s k t
  clear t s k
  exact brQ I (fun I=>tZ) fun I=>tZ
 ·refine brY fun I=>?_
  refine ixA slA I fun al am y a0 I=>?_
  obtain ⟨a9,aa,a1⟩:=u.cells y a0 rfl
  obtain ⟨an,rfl,ao⟩:=Zam a1
  refine lsA ?_
  obtain ⟨ap,a2,I⟩:=obind I
  obtain ⟨ab,aq,i,l⟩:=id C
  refine Za9 o2 ?_
  refine (k2 C.ext i.fle a2 slA).mono fun ar au ⟨a3,o⟩=>⟨_,a3,?_⟩
  replace C:=join0 i l o
  clear o i l
  exact tZ
theorem ZqB {x0 r} (I:Zie x0=some r)  :zR 137 #[.string x0] h ψ (.bool r):=by
 refine zv annO Tryz.func137 ?_
 have C:=sZ hψ
 exact tZ
theorem ZAD {x0 c r} (I:ZoD x0 c=some r)  :zR 91 #[.string x0,.string c] h ψ (.int .i64 r):=by
 refine zv annO Tryz.func91 ?_
 have C:=sZ hψ
 refine cm0 I C (fun s a=>ZqB s a) fun r8 e C I=>⟨_,rfl,?_⟩
 refine cm0 I C (fun s a=>ZqB s a) fun f g C I=>⟨_,rfl,?_⟩
 refine brQ I (fun I=>?_) fun I=>?_
 ·exact brQ I (fun I=>tZ) fun I=>tZ
 ·refine brZ fun I=>?_
  refine brZ fun I=>?_
  exact brQ I (fun I=>tZ) fun I=>tZ
theorem ZDy {x0 c a r} (I:Zfa x0 a=some r) (e:sc h eL c x0.Object.Rows):zR 90 #[.agg #[.string x0.Name,.int .i64 x0.Object.Kind,.int .i64 x0.Object.Size,c,.string x0.Key],.string a] h ψ (.int .i64 r):=by
 refine zv annO Tryz.func90 ?_
 have C:=sZ hψ
 refine new_S C fun j g C=>?_
 refine bS C 0 0 ?_
 refine cm0 I C (fun s f=>ZAD s f) fun r8 i C I=>⟨_,rfl,?_⟩
 exact tZ
theorem ZHB {f c a r} (I:ZkD f a=some r) (j:sc h ZL c f.Items):zR 44 #[.agg #[c],.string a] h ψ (.tuple #[.int .i64 r.1,.bool r.2]):=by
 refine zv annO Tryz.func44 ?_
 have C:=sZ hψ
 refine new_S C fun u l C=>?_
 refine bV C 0 0 ?_
 refine cl0 I C (fun s _ _ k=>Zxs s.fle k slA κ (fun o=>fun e=>fun g i=>ZDy e g i)) fun v p C I=>⟨_,_,rfl,?_⟩
 exact tZ
theorem ZFJ {x0 a r} (I:Zke x0=some r) (c:sc h eL a x0.Object.Rows):CallsH P 34 #[.agg #[.string x0.Name,.int .i64 x0.Object.Kind,.int .i64 x0.Object.Size,a,.string x0.Key]] h (fun v w=>∃ w0,v=.agg #[.string r.Name,.int .i64 r.Object.Kind,.int .i64 r.Object.Size,w0,.string r.Key]/\S ψ h w [.it (El.ow oL) [w0] r.Object.Rows]):=by
 refine zv annO Tryz.func34 ?_
 have C:=sZ hψ
 refine new_S C fun l g C=>?_
 refine new_S C fun o i C=>?_
 refine lsA ?_
 refine cm1 I C (fun s e=>Zr0 s e slA) fun p u j C I=>⟨_,_,_,rfl,?_⟩
 (iterate 3 refine boxA fun k C=>?_)
 refine lsA ?_
 (iterate 5 refine boxA fun f C=>?_)
 refine lsA ?_
 exact endS
theorem ZwS {o e r} (I:ZjQ o=some r) (i:sc h ZL e o.Items):CallsH P 45 #[.agg #[e]] h (fun v h'=>∃ w0,v=.agg #[w0]/\S ψ h h' [.it (El.ow ZS) [w0] r.Items]):=by
 refine zv ⟨[(3,[(9,tkI)])],[],[],[(5,⟨kdL [0,2,1,3,3,4,0,4],.fin [2,3,4,0,1,5,6,7],true⟩)]⟩ Tryz.func45 ?_
 have C:=sZ hψ
 refine new_S C fun y aa C=>?_
 refine new_S C fun b2 ab C=>?_
 refine new_S C fun b3 ac C=>?_
 refine bV C 2 0 ?_
 refine vL i C.le ?_
 have C:=C.nilO (E:=ZS)
 refine ⟨fun n x l=>∃ xs j,S ψ h l [.box b3 [j],.box b2 [(.slice none 0 0)],.box y [e],.it (El.ow ZS) [j] xs]/\loopN (ZgQ o) n (x,xs)=some r,endI,?_⟩
 rintro n _ x l ⟨xs,j,C,hn⟩
 obtain ⟨m,a,rfl,I,O⟩:=Zh hn
 refine brQ I (fun I=>?_) fun I=>?_
 ·refine ixA slA I fun ae af ad hx I=>?_
  obtain ⟨cs,ck,hr⟩:=i.cells ad hx rfl
  obtain ⟨ag,rfl,f⟩:=Zam hr
  refine lsA ?_
  refine new_S C fun b5 ah C=>?_
  (iterate 5 refine boxA fun p C=>?_)
  refine ⟨fun _=>False,?_⟩
  have k:=C
  have c:=eX p
  refine lsA ?_
  obtain ⟨g,u,I⟩:=obind I
  refine ce1 C (fun s=>ZFJ s.fle u slA) fun ai a5 xE C=>⟨_,_,_,_,_,rfl,eZ (c.trans xE),?_⟩
  replace c:=c.trans xE
  refine ZbN C fun aj a6 xE C=>⟨eZ (c.trans xE),?_⟩
  replace c:=c.trans xE
  refine ZK ?_
  refine ldV_K (k.cells 1 rfl) 0 rfl rfl ?_
  have C:=C.pull 1 rfl
  dsimp only [List.eraseIdx] at C
  have C:=pko_T_impl_Item (x0:=g.Name) (x1:=g.Object.Kind) (x2:=g.Object.Size) (x4:=g.Key) C
  obtain ⟨ak,w,I⟩:=obind I
  refine Zao C 5 rfl 0 rfl rfl rfl w fun al a7 xE C=>?_
  refine boxA fun a8 C=>?_
  exact endL
 ·refine bV C 0 0 ?_
  refine boxA fun a9 C=>?_
  refine bV C 1 0 ?_
  obtain rfl:=oI I
  obtain rfl:=oI O
  exact endR
end
theorem ZxZ {ψ:CM} {c h:Heap} {os:List Ob} {o:El Zd} {x0:List Zd} {e:Zd} {v0 f:Value} {a:Int} {r:List Zd} (I:Zf3 x0 a e=some r) (C:S ψ c h (.it (El.ow o) [f] [e]::.it (El.ow o) [v0] x0::os)) (g:o.z=5:=by exact rfl) (i:([.string ⟨#[]⟩,.int .i64 0,.int .i64 0,.slice none 0 0,.string ⟨#[]⟩]:List Value)=o.zc:=by exact rfl):CallsH P 46 #[v0,.int .i64 a,f] h (fun v u=>∃ w0,v=w0/\S ψ c u (.it (El.ow o) [w0] r::os)):=by
 apply ZDd
 unfold Zf3 at I
 split at I
 case isFalse=>cases I
 rename_i j
 obtain ⟨c1,c2,k,l⟩:=j
 obtain rfl:=oI I
 exact ZEG (K:=fun v u=>∃ w0,v=w0/\S ψ c u (.it (El.ow o) [w0] (x0.take a.toNat++[e]++x0.drop a.toNat)::os)) C g i (by decide) c1 c2 k l fun w u C=>⟨w,rfl,C⟩
section
variable {ψ:CM} {h:Heap} (hψ:CLe ψ (hcell h))
include hψ
theorem Zme {k c g e f l r} (I:Zg9 k g e l=some r) (o:sc h ZL c k.Items) (x:sc h eL f e.Rows) (hL:TabH 0 h):CallsH P 19 #[.agg #[c],.string g,.agg #[.int .i64 e.Kind,.int .i64 e.Size,f],.int .i64 l] h (fun v h'=>∃ w0,v=.tuple #[.agg #[w0],.int .i64 r.2]/\S ψ h h' [.it (El.ow ZS) [w0] r.1.Items]):=by
 refine zv ⟨[],[(3,[])],[],[]⟩ Tryz.func19 ?_
 have C:=sZ hψ
 refine new_S C fun y al C=>?_
 refine new_S C fun b6 am C=>?_
 refine new_S C fun b8 an C=>?_
 refine ⟨fun i=>S ψ h i [.box b8 [(.slice none 0 0)],.box b6 [.int .i64 e.Kind,.int .i64 e.Size,f],.box y [c]]/\ZdO k g e l=some r,?_,?_⟩
 ·refine bV C 2 0 ?_
  refine cm0 I C (fun s a=>ZHu s a slA) fun ao a2 C I=>⟨_,rfl,?_⟩
  refine brQ I (fun I=>?_) fun I=>?_
  ·refine boxA fun a3 C=>?_
   refine bV C 0 0 ?_
   have C:=C.nilO (E:=ZS)
   exact endS
  ·refine lsA ?_
   refine cm0 I C (fun s a=>Zl6 s a slA) fun ap a4 C I=>⟨_,rfl,?_⟩
   refine brQ I (fun I=>?_) fun I=>?_
   ·refine boxA fun a5 C=>?_
    refine bV C 0 0 ?_
    have C:=C.nilO (E:=ZS)
    exact endS
   ·refine cm0 I C (fun s a=>ZtP s a) fun aq a6 C I=>⟨_,rfl,?_⟩
    refine brQ I (fun I=>?_) fun I=>?_
    ·refine boxA fun a7 C=>?_
     refine bV C 0 0 ?_
     have C:=C.nilO (E:=ZS)
     exact endS
    ·exact endC
 ·rintro _ i ⟨C,I⟩
  refine lsA ?_
  refine cl0 I C (fun s _ _ a=>Zya s.fle a slA (hL.ext s.ext)) fun w ar C I=>⟨_,_,rfl,?_⟩
  refine brQ I (fun I=>?_) fun I=>?_
  ·refine boxA fun au C=>?_
   refine bV C 0 0 ?_
   have C:=C.nilO (E:=ZS)
   exact endS
  ·refine lsA ?_
   refine cm1 I C (fun s a=>Zr0 s a slA) fun j av aw C I=>⟨_,_,_,rfl,?_⟩
   refine new_S C fun ax ay C=>?_
   (iterate 5 refine boxA fun a8 C=>?_)
   refine bV C 4 0 ?_
   refine cm0 I C (fun s a=>ZHB s a slA) fun az a9 C I=>⟨_,_,rfl,?_⟩
   refine brQ I (fun I=>?_) fun I=>?_
   ·refine boxA fun aa C=>?_
    refine bV C 2 0 ?_
    have C:=C.nilO (E:=ZS)
    exact endS
   ·refine lsA ?_
    refine cm0 I C (fun s a=>Zoy s a slA slA) fun b0 ab C I=>⟨_,rfl,?_⟩
    refine brQ I (fun I=>?_) fun I=>?_
    ·refine boxA fun ac C=>?_
     refine bV C 2 0 ?_
     have C:=C.nilO (E:=ZS)
     exact endS
    ·refine bV C 4 0 ?_
     refine vL o C.le ?_
     refine brQ I (fun I=>?_) fun I=>?_
     ·refine boxA fun ad C=>?_
      refine bV C 2 0 ?_
      have C:=C.nilO (E:=ZS)
      exact endS
     ·refine bV C 4 0 ?_
      refine cm1 I C (fun s a=>ZwS s a slA) fun b1 b2 ae C I=>⟨_,rfl,?_⟩
      refine new_S C fun b3 af C=>?_
      refine boxA fun ag C=>?_
      refine lsA ?_
      have C:=C.pull 3 rfl
      dsimp only [List.eraseIdx] at C
      have C:=pko_T_impl_Item (x0:=g) (x1:=j.Kind) (x2:=j.Size) (x4:=w.1) C
      refine one_S C fun b5 ah C=>?_
      have C:=C.pull 2 rfl
      dsimp only [List.eraseIdx] at C
      have C:=C.pull 1 rfl
      dsimp only [List.eraseIdx] at C
      obtain ⟨b7,p,I⟩:=obind I
      refine (ZxZ p C ).mono fun b9 ai ⟨ba,u,C⟩=>⟨_,u,?_⟩
      refine boxA fun aj C=>?_
      refine bV C 1 0 ?_
      refine boxA fun ak C=>?_
      refine bV C 3 0 ?_
      exact endS
theorem ZFN {c v0 k1 r} (I:Zlb c k1=some r) (e:sc h eI v0 c):zR 135 #[v0,.int .i64 k1] h ψ (.int .i64 r):=by
 refine zv ⟨[(2,[(1,tkI),(5,tkI)])],[],[],[]⟩ Tryz.func135 ?_
 have C:=sZ hψ
 refine lp2 I (nlS C) fun m f j g a C I O=>?_
 refine vL e C.le ?_
 refine brY fun I=>?_
 refine ixI slA I fun i I=>?_
 exact brQ I (fun I=>tZ) fun I=>tZ
theorem ZFe {e v0 k1 r} (I:ZlY e k1=some r) (g:sc h eL v0 e):zR 84 #[v0,.int .i64 k1] h ψ (.int .i64 r):=by
 refine zv ⟨[(2,[(1,tkI),(5,tkI)])],[],[],[]⟩ Tryz.func84 ?_
 have C:=sZ hψ
 refine lp2 I (nlS C) fun m i u j a C I O=>?_
 refine vL g C.le ?_
 refine brY fun I=>?_
 refine ixV g C.le I fun k l f I=>?_
 refine cl0 I C (fun s _ _ c=>(ZFN s.fle c slA).mono fun _ _ x=>x) fun o p C I=>⟨_,rfl,?_⟩
 exact brQ I (fun I=>tZ) fun I=>tZ
end
end Go.Proofs.YtepnljbkgjbbmaaGreatDoor
