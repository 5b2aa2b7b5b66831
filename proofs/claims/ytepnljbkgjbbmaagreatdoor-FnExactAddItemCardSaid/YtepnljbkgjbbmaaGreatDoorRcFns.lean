import Derived.Test.YtepnljbkgjbbmaaGreatDoorVcAu
import Derived.Test.YtepnljbkgjbbmaaGreatDoorVcDn
import Derived.Test.YtepnljbkgjbbmaaGreatDoorRcFnsP3
namespace Go.Proofs.YtepnljbkgjbbmaaGreatDoor
open Go Go.Vc
set_option linter.unusedVariables false
set_option linter.unusedSimpArgs false
set_option maxRecDepth 20000
set_option maxHeartbeats 4000000
attribute [local irreducible] CallsQ vLen vIdx IntKind.wrap hcell vNew vNewS vSliceS vStore1 vAppend vMake vCopy vB2S vS2B vNilS
section
variable {ψ:CM} {h:Heap} (hψ:CLe ψ (hcell h))
include hψ
theorem ZCA {a0 v0 k1 r} (I:Zm8 a0 k1=some r) (g:sc h ZL v0 a0):zR 47 #[v0,.int .i64 k1] h ψ (.int .i64 r):=by
 refine zv ⟨[(2,[(1,tkI),(5,tkI)])],[],[],[(4,⟨kdL [0,0,0,0,2,0,3,0],.fin [5,6,0,1,2,3,4,7],true⟩),(16,⟨kdL [0,0,0,0,2,0,3,0],.fin [5,6,0,1,2,3,4,7],true⟩)]⟩ Tryz.func47 ?_;have C:=sZ hψ;refine lp2 I (nlS C) fun m ah i5 ae a C I O=>?_;refine vL g C.le ?_;refine brY fun I=>?_;refine ⟨fun _=>False,?_⟩;have j:=C;have e:=eX ae;obtain ⟨ap,hx,I⟩:=obind I;refine ce0 C (fun s=>ZlI s.fle hx) fun aq xE C=>⟨_,rfl,eZ (e.trans xE),?_⟩;replace e:=e.trans xE;refine ixA slA I fun ar au ad k I=>?_;obtain ⟨cs,ck,hr⟩:=g.cells ad k rfl;obtain ⟨av,rfl,f⟩:=Zam hr;refine ZqX ?_;refine kS ck j.le 0 ?_;refine brZ fun I=>?_;refine ixA slA I fun aw ax l o I=>?_;obtain ⟨al,p,u⟩:=g.cells l o rfl;obtain ⟨ay,rfl,az⟩:=Zam u;refine kI p C.le 1 ?_;refine brZ fun I=>?_;refine ixA slA I fun b0 b1 v w I=>?_;obtain ⟨am,y,a1⟩:=g.cells v w rfl;obtain ⟨b2,rfl,b3⟩:=Zam a1;refine kI y C.le 2 ?_;refine brZ fun I=>?_;refine ixA slA I fun b4 b5 a2 a3 I=>?_;obtain ⟨an,a4,a5⟩:=g.cells a2 a3 rfl;obtain ⟨b6,rfl,b7⟩:=Zam a5;refine kV a4 C.le 3 ?_;refine cl0 I C (fun af _ _ a6=>(ZFe af.fle a6 slA).mono fun _ _ x=>x) fun b8 ag C I=>⟨_,rfl,?_⟩;refine brZ fun I=>?_;refine ⟨fun _=>False,?_⟩;have i:=C;have c:=eX ag;obtain ⟨b9,a7,I⟩:=obind I;refine ce0 C (fun s=>ZlI s.fle a7) fun ba xE C=>⟨_,rfl,eZ (c.trans xE),?_⟩;replace c:=c.trans xE;refine ixA slA I fun bb bc a8 a9 I=>?_;obtain ⟨ao,aa,ab⟩:=g.cells a8 a9 rfl;obtain ⟨bd,rfl,be⟩:=Zam ab;refine ZqX ?_;refine kS aa i.le 4 ?_;exact brQ I (fun I=>tZ) fun I=>tZ
theorem Zvh {c a k1 r} (I:Zf1 c k1=some r) (e:sc h ZL a c.Items):zR 20 #[.agg #[a],.int .i64 k1] h ψ (.int .i64 r):=by
 refine zv annO Tryz.func20 ?_;have C:=sZ hψ;refine new_S C fun j g C=>?_;refine bV C 0 0 ?_;refine cl0 I C (fun s _ _ f=>(ZCA s.fle f slA).mono fun _ _ x=>x) fun r8 i C I=>⟨_,rfl,?_⟩;exact brQ I (fun I=>tZ) fun I=>tZ
theorem ZHg {y0 v y1 p w y3 r} (I:ZnD y0 y1 p y3=some r) (an:sc h ZaO v y0.Items) (ao:sc h eL w p.Rows) (hL:TabH 0 h):zR 4 #[.agg #[v],.string y1,.agg #[.int .i64 p.Kind,.int .i64 p.Size,w],.int .i64 y3] h ψ (.bool r):=by
 refine zv ⟨[],[(11,[(10,.p),(11,tkI)]),(16,[]),(25,[]),(34,[(19,.p),(20,tkI)]),(36,[])],[],[(10,⟨kdL [2,3,0,2,3,0,3,0,0,0,3,4,0],.both (.sg [0,1] (.both (.sg [3,4] (.both (.fin [2,5,6,10,7,8,11,9,12]) (.fin [10,2,5,6,7,8,11,9,12]))) (.fin [10,3,4,2,5,6,7,8,11,9,12]))) (.fin [10,0,1,3,4,2,5,6,7,8,11,9,12]),true⟩),(16,⟨kdL [2,1,3,4,0],.fin [1,2,0,3,4],true⟩),(18,⟨kdL [2,1,3,4,0],.fin [1,2,0,3,4],true⟩),(33,⟨kdL [2,3,0,2,3,0,3,0,0,0,3,4,0],.both (.sg [0,1] (.both (.sg [3,4] (.both (.fin [2,5,6,10,7,8,11,9,12]) (.fin [10,2,5,6,7,8,11,9,12]))) (.fin [10,3,4,2,5,6,7,8,11,9,12]))) (.fin [10,0,1,3,4,2,5,6,7,8,11,9,12]),true⟩)]⟩ Tryz.func4 ?_;have C:=sZ hψ;refine new_S C fun b4 da C=>?_;refine new_S C fun b6 db C=>?_;refine brZ fun I=>?_;refine bV C 1 0 ?_;refine cm0 I C (fun s l=>ZDP s l slA) fun dc dd C I=>⟨_,rfl,?_⟩;refine brZ fun I=>?_;refine lsA ?_;refine cm0 I C (fun s l=>Zrm s l slA) fun de c9 C I=>⟨_,rfl,?_⟩;refine brZ fun I=>?_;obtain ⟨df,bz,I⟩:=obind I;obtain ⟨dg,c0,I⟩:=obind I;obtain ⟨a1,ad,I⟩:=obind I;refine ⟨fun bt bu ar=>∃ i f,bt=⟨i,0,none⟩/\bu=a1.2/\S ψ h ar [.box i [f],.it (El.ow ZL) [f] a1.1.Items,.box b6 [.int .i64 p.Kind,.int .i64 p.Size,w],.box b4 [v]],?_,?_⟩
 ·refine ⟨fun _=>False,?_⟩;have y:=C;have c:=eX c9;repeat' first
   | refine And.intro ?_ ?_
   | (refine ZK ?_;refine ldV_K (y.cells 1 rfl) 0 rfl rfl ?_)
   | (refine ZJ ?_;refine ldI_K (y.cells 0 rfl) 0 rfl rfl ?_)
   | (refine ZJ ?_;refine ldI_K (y.cells 0 rfl) 1 rfl rfl ?_)
   | (refine ZK ?_;refine ldV_K (y.cells 0 rfl) 2 rfl rfl ?_)
   | (refine Zdv C fun j z1 xE C=>⟨eZ (c.trans xE),?_⟩;replace c:=c.trans xE)
   | (refine ZaQ C 0 rfl rfl rfl (C.rdL 1 rfl frzf_T_impl_Item).one fun j C=>?_;dsimp at C)
   | (refine ZaQ C 1 rfl rfl rfl (C.rdL 0 rfl frzf_T_impl_Item).one fun j C=>?_;dsimp at C)
   | (refine ZaQ C 2 rfl rfl rfl (C.rdL 0 rfl frzf_T_impl_Item).one fun j C=>?_;dsimp at C)
   | (refine ZaQ C 3 rfl rfl rfl (C.rdL 0 rfl frzf_T_impl_Item).one fun j C=>?_;dsimp at C)
   | (exact ⟨_,_,rfl,rfl,pk C [0,1,4,5]⟩)
   | (exact ⟨_,_,rfl,rfl,pk C [1,0,4,5]⟩)
   | (exact ⟨_,_,rfl,rfl,pk C [2,0,4,5]⟩)
   | (exact ⟨_,_,rfl,rfl,pk C [3,0,4,5]⟩)
   | (obtain ⟨j,z1,z2,g⟩:=id C;refine (ZkE z2.fle bz (an.mono C.le)).mono fun z4 z5 ⟨z6,k,a⟩=>⟨_,k,eZ (c.trans a.ext),?_⟩;replace c:=c.trans a.ext;replace C:=join1 z2 g a;clear a z2 g;have C:=C.freeze 0 rfl (ZI frzo_T_impl_Item);dsimp at C)
   | (obtain ⟨j,z1,z2,g⟩:=id C;refine (ZgD z2.fle c0 (ao.mono C.le)).mono fun z4 z5 ⟨z6,k,a⟩=>⟨_,_,_,k,eZ (c.trans a.ext),?_⟩;replace c:=c.trans a.ext;replace C:=join1 z2 g a;clear a z2 g;have C:=C.freeze 0 rfl (ZI (ZI (Zk _)));dsimp at C)
   | (obtain ⟨j,z1,z2,g⟩:=id C;refine (Znw z2.fle ad (C.rdF 1 rfl) (C.rdF 0 rfl)).mono fun z4 z5 ⟨z6,k,a⟩=>⟨_,_,k,eZ (c.trans a.ext),?_⟩;replace c:=c.trans a.ext;replace C:=join1 z2 g a;clear a z2 g)
   | (obtain ⟨j,z1,z2,g⟩:=id C;refine (Znw z2.fle ad (C.rdF 2 rfl) (C.rdF 1 rfl)).mono fun z4 z5 ⟨z6,k,a⟩=>⟨_,_,k,eZ (c.trans a.ext),?_⟩;replace c:=c.trans a.ext;replace C:=join1 z2 g a;clear a z2 g)
   | (obtain ⟨j,z1,z2,g⟩:=id C;refine (Znw z2.fle ad (C.rdF 2 rfl) (C.rdF 0 rfl)).mono fun z4 z5 ⟨z6,k,a⟩=>⟨_,_,k,eZ (c.trans a.ext),?_⟩;replace c:=c.trans a.ext;replace C:=join1 z2 g a;clear a z2 g)
 ·rintro _ bt bu ar ⟨i,f,rfl,rfl,C⟩;refine bV C 3 0 ?_;refine cm1 I C (fun s l=>ZkE s l slA) fun bv a2 cd C I=>⟨_,rfl,?_⟩;refine new_S C fun aj ce C=>?_;refine boxA fun cf C=>?_;refine lsA ?_;refine cm1 I C (fun s l=>ZgD s l slA) fun u a3 cg C I=>⟨_,_,_,rfl,?_⟩;refine new_S C fun ak ch C=>?_;(iterate 3 refine boxA fun cj C=>?_);refine lsA ?_;refine cl1 I C (fun au _ _ c3=>Zme au.fle c3 slA slA (hL.ext au.ext)) fun al a4 ck C I=>⟨_,_,rfl,?_⟩;refine new_S C fun am cm C=>?_;refine boxA fun cn C=>?_;refine ⟨fun ae=>S ψ h ae [.box am [a4],.it (El.ow ZS) [a4] al.1.Items,.box ak [.int .i64 u.Kind,.int .i64 u.Size,a3],.it (El.ow oL) [a3] u.Rows,.box aj [a2],.it (El.ow ZS) [a2] bv.Items,.box i [f],.it (El.ow ZL) [f] a1.1.Items,.box b6 [.int .i64 p.Kind,.int .i64 p.Size,w],.box b4 [v]]/\ZkR y0 y1 p y3 a1 bv u al=some r,?_,?_⟩
  ·refine lsA ?_;refine cm0 I C (fun s l=>Zi3 s l slA slA) fun dh co C I=>⟨_,rfl,?_⟩;refine brZ fun I=>?_;refine brZ fun I=>?_;exact endC
  ·rintro _ ae ⟨C,I⟩;refine ⟨fun _=>False,?_⟩;have av:=C;have aa:=eX ae;refine bV C 9 0 ?_;obtain ⟨aw,c4,I⟩:=obind I;refine ce1 C (fun s=>ZkE s.fle c4 slA) fun ax cp xE C=>⟨_,rfl,eZ (aa.trans xE),?_⟩;replace aa:=aa.trans xE;have C:=frA 0;refine ZK ?_;refine ldV_K (av.cells 4 rfl) 0 rfl rfl ?_;refine cm0 I C (fun s l=>Zi3 s l slA slA) fun di c5 C I=>⟨_,rfl,?_⟩;refine brZ fun I=>?_;refine ⟨fun _=>False,?_⟩;have a6:=C;have ab:=eX c5;refine lsA ?_;obtain ⟨ay,bh,I⟩:=obind I;refine ce1 C (fun s=>ZgD s.fle bh slA) fun az cq xE C=>⟨_,_,_,rfl,eZ (ab.trans xE),?_⟩;replace ab:=ab.trans xE;have C:=frA 0;refine ZJ ?_;refine ldI_K (a6.cells 3 rfl) 0 rfl rfl ?_;refine ZJ ?_;refine ldI_K (a6.cells 3 rfl) 1 rfl rfl ?_;refine ZK ?_;refine ldV_K (a6.cells 3 rfl) 2 rfl rfl ?_;refine cm0 I C (fun s l=>Zua s l slA slA) fun dj cr C I=>⟨_,rfl,?_⟩;refine brZ fun I=>?_;refine bV C 6 0 ?_;have C:=C.pull 7 rfl;dsimp only [List.eraseIdx] at C;obtain ⟨b0,bi,I⟩:=obind I;obtain ⟨ca,ct,af,b1⟩:=id C;refine (ZsX bi (af.upS b1) ).mono fun cu cv ⟨bj,b2⟩=>⟨_,bj,?_⟩;replace C:=af.downS b2;clear b2 af b1;refine lsA ?_;have C:=C.pull 6 rfl;dsimp only [List.eraseIdx] at C;obtain ⟨b3,bk,I⟩:=obind I;obtain ⟨cb,cx,ag,b5⟩:=id C;refine (ZDx bk (ag.upS b5) ).mono fun cy cz ⟨bm,b7⟩=>⟨_,bm,?_⟩;replace C:=ag.downS b7;clear b7 ag b5;refine ⟨fun b8=>S ψ h b8 [.it (El.ow oL) [a3] b3.2.Rows,.it (El.ow ZS) [a2] b0.2.Items,.it (El.sl eL) [az] ay.Rows,.it (El.sl ZL) [ax] aw.Items,.box am [a4],.it (El.ow ZS) [a4] al.1.Items,.box ak [.int .i64 u.Kind,.int .i64 u.Size,a3],.box aj [a2],.box i [f],.it (El.ow ZL) [f] a1.1.Items,.box b6 [.int .i64 p.Kind,.int .i64 p.Size,w],.box b4 [v]]/\Zma y0 y1 p y3 a1 al=some r,?_,?_⟩
   ·refine brZ fun I=>?_;refine lsA ?_;refine cm0 I C (fun s l=>Zi3 s l slA slA) fun dk d0 C I=>⟨_,rfl,?_⟩;refine brZ fun I=>?_;refine brZ fun I=>?_;exact endC
   ·rintro _ b8 ⟨C,I⟩;refine bV C 4 0 ?_;have C:=C.pull 5 rfl;dsimp only [List.eraseIdx] at C;obtain ⟨b9,bn,I⟩:=obind I;obtain ⟨cc,d1,ah,ba⟩:=id C;refine (ZsX bn (ah.upS ba) ).mono fun d2 d3 ⟨bo,bb⟩=>⟨_,bo,?_⟩;replace C:=ah.downS bb;clear bb ah ba;refine bV C 5 0 ?_;refine cl0 I C (fun c6 _ _ bp=>(Zvh c6.fle bp slA).mono fun _ _ x=>x) fun dl c7 C I=>⟨_,rfl,?_⟩;refine brZ fun I=>?_;refine brZ fun I=>?_;obtain ⟨d4,bq,I⟩:=obind I;obtain ⟨d5,br,I⟩:=obind I;obtain ⟨ai,ac,I⟩:=obind I;refine ⟨fun bw bx bc=>∃ a5 o,bw=⟨a5,0,none⟩/\bx=ai.2/\S ψ h bc [.box a5 [o],.it (El.ow ZS) [o] ai.1.Items,.it (El.ow ZS) [a4] b9.2.Items,.it (El.ow oL) [a3] b3.2.Rows,.it (El.ow ZS) [a2] b0.2.Items,.it (El.sl eL) [az] ay.Rows,.it (El.sl ZL) [ax] aw.Items,.box am [a4],.box ak [.int .i64 u.Kind,.int .i64 u.Size,a3],.box aj [a2],.box i [f],.it (El.ow ZL) [f] a1.1.Items,.box b6 [.int .i64 p.Kind,.int .i64 p.Size,w],.box b4 [v]],?_,?_⟩
    ·refine ⟨fun _=>False,?_⟩;have a0:=C;have e:=eX c7;repeat' first
      | refine And.intro ?_ ?_
      | (refine ZK ?_;refine ldV_K (a0.cells 11 rfl) 0 rfl rfl ?_)
      | (refine ZJ ?_;refine ldI_K (a0.cells 10 rfl) 0 rfl rfl ?_)
      | (refine ZJ ?_;refine ldI_K (a0.cells 10 rfl) 1 rfl rfl ?_)
      | (refine ZK ?_;refine ldV_K (a0.cells 10 rfl) 2 rfl rfl ?_)
      | (refine Zdv C fun j z1 xE C=>⟨eZ (e.trans xE),?_⟩;replace e:=e.trans xE)
      | (refine ZaQ C 0 rfl rfl rfl (C.rdL 1 rfl frzo_T_impl_Item).one fun j C=>?_;dsimp at C)
      | (refine ZaQ C 1 rfl rfl rfl (C.rdL 0 rfl frzo_T_impl_Item).one fun j C=>?_;dsimp at C)
      | (refine ZaQ C 2 rfl rfl rfl (C.rdL 0 rfl frzo_T_impl_Item).one fun j C=>?_;dsimp at C)
      | (refine ZaQ C 3 rfl rfl rfl (C.rdL 0 rfl frzo_T_impl_Item).one fun j C=>?_;dsimp at C)
      | (exact ⟨_,_,rfl,rfl,pk C [0,1,4,5,6,7,8,9,10,11,12,13,14,15]⟩)
      | (exact ⟨_,_,rfl,rfl,pk C [1,0,4,5,6,7,8,9,10,11,12,13,14,15]⟩)
      | (exact ⟨_,_,rfl,rfl,pk C [2,0,4,5,6,7,8,9,10,11,12,13,14,15]⟩)
      | (exact ⟨_,_,rfl,rfl,pk C [3,0,4,5,6,7,8,9,10,11,12,13,14,15]⟩)
      | (obtain ⟨j,z1,z2,g⟩:=id C;refine (ZkE z2.fle bq (an.mono C.le)).mono fun z4 z5 ⟨z6,k,a⟩=>⟨_,k,eZ (e.trans a.ext),?_⟩;replace e:=e.trans a.ext;replace C:=join1 z2 g a;clear a z2 g;have C:=C.freeze 0 rfl (ZI frzo_T_impl_Item);dsimp at C)
      | (obtain ⟨j,z1,z2,g⟩:=id C;refine (ZgD z2.fle br (ao.mono C.le)).mono fun z4 z5 ⟨z6,k,a⟩=>⟨_,_,_,k,eZ (e.trans a.ext),?_⟩;replace e:=e.trans a.ext;replace C:=join1 z2 g a;clear a z2 g;have C:=C.freeze 0 rfl (ZI (ZI (Zk _)));dsimp at C)
      | (obtain ⟨j,z1,z2,g⟩:=id C;refine (Zme z2.fle ac (C.rdF 1 rfl) (C.rdF 0 rfl) (hL.ext z2.ext)).mono fun z4 z5 ⟨z6,k,a⟩=>⟨_,_,k,eZ (e.trans a.ext),?_⟩;replace e:=e.trans a.ext;replace C:=join1 z2 g a;clear a z2 g)
      | (obtain ⟨j,z1,z2,g⟩:=id C;refine (Zme z2.fle ac (C.rdF 2 rfl) (C.rdF 1 rfl) (hL.ext z2.ext)).mono fun z4 z5 ⟨z6,k,a⟩=>⟨_,_,k,eZ (e.trans a.ext),?_⟩;replace e:=e.trans a.ext;replace C:=join1 z2 g a;clear a z2 g)
      | (obtain ⟨j,z1,z2,g⟩:=id C;refine (Zme z2.fle ac (C.rdF 2 rfl) (C.rdF 0 rfl) (hL.ext z2.ext)).mono fun z4 z5 ⟨z6,k,a⟩=>⟨_,_,k,eZ (e.trans a.ext),?_⟩;replace e:=e.trans a.ext;replace C:=join1 z2 g a;clear a z2 g)
    ·rintro _ bw bx bc ⟨a5,o,rfl,rfl,C⟩;refine ⟨fun bd=>S ψ h bd [.box a5 [o],.it (El.ow ZS) [o] ai.1.Items,.it (El.ow ZS) [a4] b9.2.Items,.it (El.ow oL) [a3] b3.2.Rows,.it (El.ow ZS) [a2] b0.2.Items,.it (El.sl eL) [az] ay.Rows,.it (El.sl ZL) [ax] aw.Items,.box am [a4],.box ak [.int .i64 u.Kind,.int .i64 u.Size,a3],.box aj [a2],.box i [f],.it (El.ow ZL) [f] a1.1.Items,.box b6 [.int .i64 p.Kind,.int .i64 p.Size,w],.box b4 [v]]/\ZiQ b9=some r,?_,?_⟩
     ·refine lsA ?_;refine cm0 I C (fun s l=>Zi3 s l slA slA) fun d6 d7 C I=>⟨_,rfl,?_⟩;refine brZ fun I=>?_;refine brZ fun I=>?_;exact endC
     ·rintro _ bd ⟨C,I⟩;refine bV C 7 0 ?_;refine cl0 I C (fun c8 _ _ bs=>(Zvh c8.fle bs slA).mono fun _ _ x=>x) fun d8 d9 C I=>⟨_,rfl,?_⟩;refine brZ fun I=>?_;exact brQ I (fun I=>tZ) fun I=>tZ
end
end Go.Proofs.YtepnljbkgjbbmaaGreatDoor
