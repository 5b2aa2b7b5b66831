import Derived.Test.YtepnljbkgjbbmaaGreatDoorVcAu
import Derived.Test.YtepnljbkgjbbmaaGreatDoorVcDn
import Derived.Test.YtepnljbkgjbbmaaGreatDoorVcTxt
import Derived.Test.YtepnljbkgjbbmaaGreatDoorVcQ
import Derived.Test.YtepnljbkgjbbmaaGreatDoorPuFns
import Derived.Test.YtepnljbkgjbbmaaGreatDoorVcFns
import Derived.Test.YtepnljbkgjbbmaaGreatDoorVcFld
import Derived.Test.YtepnljbkgjbbmaaGreatDoorVcCl
import Derived.Test.YtepnljbkgjbbmaaGreatDoorVcCpt
import Derived.Test.YtepnljbkgjbbmaaGreatDoorVcGrow
import Derived.Test.YtepnljbkgjbbmaaGreatDoorVcSortI
import Derived.Test.YtepnljbkgjbbmaaGreatDoorVcSortK
import Derived.Test.YtepnljbkgjbbmaaGreatDoorVcLay
open Go.IntKind renaming i64->ε
namespace Go.Proofs.YtepnljbkgjbbmaaGreatDoor
open Go Go.Vc
set_option linter.unusedVariables false
set_option linter.unusedSimpArgs false
set_option maxRecDepth 20000
def Zu4:El Z4:=El.iso (El.pair eI (El.pair eI (El.ow oL))) (fun x=>(x.Kind,x.Size,x.Rows)) (Z4.mk (0:Int) (0:Int) ([]:List (List Int))) rfl
def Zfb:El Z4:=El.iso (El.pair eI (El.pair eI (El.sl eL))) (fun x=>(x.Kind,x.Size,x.Rows)) (Z4.mk (0:Int) (0:Int) ([]:List (List Int))) rfl
theorem frzo_T_laws_Object:Frz Zu4 Zfb:=ZU (Zp (Zh _) (Zp (Zh _) (Zk (Zk (Zh _)))))
theorem frzf_T_laws_Object:Frz Zfb Zfb:=ZU (Zp (Zh _) (Zp (Zh _) (ZZ _)))
theorem ZHa {k:CM} {L:Rws} {cs:List Value} {x:Z4} (h:Zfb.R k L cs x):∃ g:Value,cs=[.int .i64 x.Kind,.int .i64 x.Size,g]/\SlC k eL g x.Rows:=by
  obtain ⟨_,_,_,_,rfl,_,a,c⟩:=h;obtain ⟨_,rfl⟩:=a;obtain ⟨_,_,_,_,rfl,_,e,f⟩:=c;obtain ⟨_,rfl⟩:=e;obtain ⟨_,i,rfl,j⟩:=f;exact ⟨i,rfl,j⟩
def ZuP:El Zal:=El.iso (El.pair El.str (El.pair Zu4 El.str)) (fun x=>(x.Name,x.Object,x.Key)) (Zal.mk (⟨#[]⟩:ByteArray) (Z4.mk (0:Int) (0:Int) ([]:List (List Int))) (⟨#[]⟩:ByteArray)) rfl
def Za0:El Zal:=El.iso (El.pair El.str (El.pair Zfb El.str)) (fun x=>(x.Name,x.Object,x.Key)) (Zal.mk (⟨#[]⟩:ByteArray) (Z4.mk (0:Int) (0:Int) ([]:List (List Int))) (⟨#[]⟩:ByteArray)) rfl
theorem frzo_T_laws_Item:Frz ZuP Za0:=ZU (Zp Zcf (Zp frzo_T_laws_Object Zcf))
theorem frzf_T_laws_Item:Frz Za0 Za0:=ZU (Zp Zcf (Zp frzf_T_laws_Object Zcf))
theorem Zt8 {r:CM} {L:Rws} {cs:List Value} {x:Zal} (h:Za0.R r L cs x):∃ l:Value,cs=[.string x.Name,.int .i64 x.Object.Kind,.int .i64 x.Object.Size,l,.string x.Key]/\SlC r eL l x.Object.Rows:=by
  obtain ⟨_,_,_,_,rfl,_,a,c⟩:=h;obtain ⟨_,rfl⟩:=a;obtain ⟨_,_,_,_,rfl,_,e,f⟩:=c;obtain ⟨_,_,_,_,rfl,_,g,i⟩:=e;obtain ⟨_,rfl⟩:=g;obtain ⟨_,_,_,_,rfl,_,j,k⟩:=i;obtain ⟨_,rfl⟩:=j;obtain ⟨_,o,rfl,p⟩:=k;obtain ⟨_,rfl⟩:=f;exact ⟨o,rfl,p⟩
def ZGN:El Zag:=El.iso (El.ow ZuP) (fun x=>(x.Items)) (Zag.mk ([]:List Zal)) rfl
def Zkj:El Zag:=El.iso (El.sl Za0) (fun x=>(x.Items)) (Zag.mk ([]:List Zal)) rfl
theorem frzo_T_laws_Catalog:Frz ZGN Zkj:=ZU (Zk frzo_T_laws_Item)
theorem frzf_T_laws_Catalog:Frz Zkj Zkj:=ZU (ZZ _)
theorem ZwB {e:CM} {L:Rws} {cs:List Value} {x:Zag} (h:Zkj.R e L cs x):∃ v0:Value,cs=[v0]/\SlC e Za0 v0 x.Items:=by
  obtain ⟨_,w2,rfl,a⟩:=h;exact ⟨w2,rfl,a⟩
def ZpR:El Zg:=El.iso (El.pair eI (El.pair eI (El.ow oL))) (fun x=>(x.Kind,x.Size,x.Rows)) (Zg.mk (0:Int) (0:Int) ([]:List (List Int))) rfl
def Zlf:El Zg:=El.iso (El.pair eI (El.pair eI (El.sl eL))) (fun x=>(x.Kind,x.Size,x.Rows)) (Zg.mk (0:Int) (0:Int) ([]:List (List Int))) rfl
theorem frzo_T_impl_Object:Frz ZpR Zlf:=ZU (Zp (Zh _) (Zp (Zh _) (Zk (Zk (Zh _)))))
theorem frzf_T_impl_Object:Frz Zlf Zlf:=ZU (Zp (Zh _) (Zp (Zh _) (ZZ _)))
def Zaq:El Ze:=El.iso (El.pair El.str (El.pair ZpR El.str)) (fun x=>(x.Name,x.Object,x.Key)) (Ze.mk (⟨#[]⟩:ByteArray) (Zg.mk (0:Int) (0:Int) ([]:List (List Int))) (⟨#[]⟩:ByteArray)) rfl
def Zap:El Ze:=El.iso (El.pair El.str (El.pair Zlf El.str)) (fun x=>(x.Name,x.Object,x.Key)) (Ze.mk (⟨#[]⟩:ByteArray) (Zg.mk (0:Int) (0:Int) ([]:List (List Int))) (⟨#[]⟩:ByteArray)) rfl
theorem frzo_T_impl_Item:Frz Zaq Zap:=ZU (Zp Zcf (Zp frzo_T_impl_Object Zcf))
theorem frzf_T_impl_Item:Frz Zap Zap:=ZU (Zp Zcf (Zp frzf_T_impl_Object Zcf))
theorem pko_T_impl_Item {ψ:CM} {a h:Heap} {os:List Ob} {x0:ByteArray} {x1 x2:Int} {c:List (List Int)} {e:Value} {x4:ByteArray} (C:S ψ a h (.it (El.ow oL) [e] c::os)):S ψ a h (.it Zaq [.string x0,.int .i64 x1,.int .i64 x2,e,.string x4] (Ze.mk x0 (Zg.mk x1 x2 c) x4)::os):=by
  obtain ⟨j,l,s,k,g,rfl,f,r⟩:=C;exact ⟨j,_,s,([]++(([]++([]++k))++[])),g,by simp,(Zlr Zsv (Zlr (Zlr Zt3 (Zlr Zt3 f)) Zsv)),r⟩
theorem ZaX {r:CM} {L:Rws} {cs:List Value} {x:Ze} (h:Zap.R r L cs x):∃ l:Value,cs=[.string x.Name,.int .i64 x.Object.Kind,.int .i64 x.Object.Size,l,.string x.Key]/\SlC r eL l x.Object.Rows:=by
  obtain ⟨_,_,_,_,rfl,_,a,c⟩:=h;obtain ⟨_,rfl⟩:=a;obtain ⟨_,_,_,_,rfl,_,e,f⟩:=c;obtain ⟨_,_,_,_,rfl,_,g,i⟩:=e;obtain ⟨_,rfl⟩:=g;obtain ⟨_,_,_,_,rfl,_,j,k⟩:=i;obtain ⟨_,rfl⟩:=j;obtain ⟨_,o,rfl,p⟩:=k;obtain ⟨_,rfl⟩:=f;exact ⟨o,rfl,p⟩
def ZEu:El Zaf:=El.iso (El.pair eI (El.ow oL)) (fun x=>(x.Points,x.Blocks)) (Zaf.mk (0:Int) ([]:List (List Int))) rfl
def Zm1:El Zaf:=El.iso (El.pair eI (El.sl eL)) (fun x=>(x.Points,x.Blocks)) (Zaf.mk (0:Int) ([]:List (List Int))) rfl
theorem frzo_T_impl_Design:Frz ZEu Zm1:=ZU (Zp (Zh _) (Zk (Zk (Zh _))))
theorem frzf_T_impl_Design:Frz Zm1 Zm1:=ZU (Zp (Zh _) (ZZ _))
def ZyM:El Zak:=El.iso (El.pair eI (El.pair eI (El.ow oL))) (fun x=>(x.Levels,x.Columns,x.Rows)) (Zak.mk (0:Int) (0:Int) ([]:List (List Int))) rfl
def Zph:El Zak:=El.iso (El.pair eI (El.pair eI (El.sl eL))) (fun x=>(x.Levels,x.Columns,x.Rows)) (Zak.mk (0:Int) (0:Int) ([]:List (List Int))) rfl
theorem frzo_T_impl_Array:Frz ZyM Zph:=ZU (Zp (Zh _) (Zp (Zh _) (Zk (Zk (Zh _)))))
theorem frzf_T_impl_Array:Frz Zph Zph:=ZU (Zp (Zh _) (Zp (Zh _) (ZZ _)))
def ZtN:El Zd:=El.iso (El.pair eI (El.pair eI oL)) (fun x=>(x.Prime,x.Degree,x.Poly)) (Zd.mk (0:Int) (0:Int) ([]:List Int)) rfl
def ZlG:El Zd:=El.iso (El.pair eI (El.pair eI eL)) (fun x=>(x.Prime,x.Degree,x.Poly)) (Zd.mk (0:Int) (0:Int) ([]:List Int)) rfl
theorem frzo_T_impl_Field:Frz ZtN ZlG:=ZU (Zp (Zh _) (Zp (Zh _) (Zk (Zh _))))
theorem frzf_T_impl_Field:Frz ZlG ZlG:=ZU (Zp (Zh _) (Zp (Zh _) (ZZ _)))
def ZyX:El Z1:=El.iso (El.pair ZtN (El.ow oL)) (fun x=>(x.Field,x.Rows)) (Z1.mk (Zd.mk (0:Int) (0:Int) ([]:List Int)) ([]:List (List Int))) rfl
def ZoA:El Z1:=El.iso (El.pair ZlG (El.sl eL)) (fun x=>(x.Field,x.Rows)) (Z1.mk (Zd.mk (0:Int) (0:Int) ([]:List Int)) ([]:List (List Int))) rfl
theorem frzo_T_impl_Code:Frz ZyX ZoA:=ZU (Zp frzo_T_impl_Field (Zk (Zk (Zh _))))
theorem frzf_T_impl_Code:Frz ZoA ZoA:=ZU (Zp frzf_T_impl_Field (ZZ _))
def Zu9:El Zb:=El.iso (El.pair eI eI) (fun x=>(x.A,x.B)) (Zb.mk (0:Int) (0:Int)) rfl
def Zf:El Zb:=El.iso (El.pair eI eI) (fun x=>(x.A,x.B)) (Zb.mk (0:Int) (0:Int)) rfl
theorem frzo_T_impl_Edge:Frz Zu9 Zf:=ZU (Zp (Zh _) (Zh _))
theorem frzf_T_impl_Edge:Frz Zf Zf:=ZU (Zp (Zh _) (Zh _))
theorem Zno:Plain Zf:=Zy7 (ZB3 (Zbf _) (Zbf _))
theorem ZaA {e:CM} {L:Rws} {cs:List Value} {x:Zb} (h:Zf.R e L cs x):cs=[.int .i64 x.A,.int .i64 x.B]:=by
  obtain ⟨_,_,_,_,rfl,_,a,c⟩:=h;obtain ⟨_,rfl⟩:=a;obtain ⟨_,rfl⟩:=c;rfl
def Zim:El Za:=El.iso (El.pair oL (El.ow Zu9)) (fun x=>(x.Colors,x.Edges)) (Za.mk ([]:List Int) ([]:List Zb)) rfl
def Zd1:El Za:=El.iso (El.pair eL (El.sl Zf)) (fun x=>(x.Colors,x.Edges)) (Za.mk ([]:List Int) ([]:List Zb)) rfl
theorem frzo_T_impl_Graph:Frz Zim Zd1:=ZU (Zp (Zk (Zh _)) (Zk frzo_T_impl_Edge))
theorem frzf_T_impl_Graph:Frz Zd1 Zd1:=ZU (Zp (ZZ _) (ZZ _))
def Zv9:El ZaJ:=El.iso (El.pair eI (El.ow oL)) (fun x=>(x.Degree,x.Elements)) (ZaJ.mk (0:Int) ([]:List (List Int))) rfl
def ZnM:El ZaJ:=El.iso (El.pair eI (El.sl eL)) (fun x=>(x.Degree,x.Elements)) (ZaJ.mk (0:Int) ([]:List (List Int))) rfl
theorem frzo_T_impl_Group:Frz Zv9 ZnM:=ZU (Zp (Zh _) (Zk (Zk (Zh _))))
theorem frzf_T_impl_Group:Frz ZnM ZnM:=ZU (Zp (Zh _) (ZZ _))
def ZGR:El ZL:=El.iso (El.ow Zaq) (fun x=>(x.Items)) (ZL.mk ([]:List Ze)) rfl
def Zoq:El ZL:=El.iso (El.sl Zap) (fun x=>(x.Items)) (ZL.mk ([]:List Ze)) rfl
theorem frzo_T_impl_Catalog:Frz ZGR Zoq:=ZU (Zk frzo_T_impl_Item)
theorem frzf_T_impl_Catalog:Frz Zoq Zoq:=ZU (ZZ _)
def ZEk:El ZE:=El.iso (El.pair Zim (El.pair (El.ow oL) (El.pair Zim (El.pair (El.ow oL) (El.pair eI (El.pair eI (El.pair eI El.bool))))))) (fun x=>(x.qg,x.qnear,x.qbest,x.qperms,x.qnodes,x.qleaves,x.qbudget,x.qfull)) (ZE.mk (Za.mk ([]:List Int) ([]:List Zb)) ([]:List (List Int)) (Za.mk ([]:List Int) ([]:List Zb)) ([]:List (List Int)) (0:Int) (0:Int) (0:Int) false) rfl
def Znl:El ZE:=El.iso (El.pair Zd1 (El.pair (El.sl eL) (El.pair Zd1 (El.pair (El.sl eL) (El.pair eI (El.pair eI (El.pair eI El.bool))))))) (fun x=>(x.qg,x.qnear,x.qbest,x.qperms,x.qnodes,x.qleaves,x.qbudget,x.qfull)) (ZE.mk (Za.mk ([]:List Int) ([]:List Zb)) ([]:List (List Int)) (Za.mk ([]:List Int) ([]:List Zb)) ([]:List (List Int)) (0:Int) (0:Int) (0:Int) false) rfl
theorem frzo_T_spec_l22Find:Frz ZEk Znl:=ZU (Zp frzo_T_impl_Graph (Zp (Zk (Zk (Zh _))) (Zp frzo_T_impl_Graph (Zp (Zk (Zk (Zh _))) (Zp (Zh _) (Zp (Zh _) (Zp (Zh _) ZbQ)))))))
theorem frzf_T_spec_l22Find:Frz Znl Znl:=ZU (Zp frzf_T_impl_Graph (Zp (ZZ _) (Zp frzf_T_impl_Graph (Zp (ZZ _) (Zp (Zh _) (Zp (Zh _) (Zp (Zh _) ZbQ)))))))
def ZBJ:El Z5:=El.iso (El.pair eI (El.pair (El.ow oL) (El.pair (El.ow oL) (El.pair (El.ow oL) oL)))) (fun x=>(x.qq,x.qadd,x.qsub,x.qmul,x.qinv)) (Z5.mk (0:Int) ([]:List (List Int)) ([]:List (List Int)) ([]:List (List Int)) ([]:List Int)) rfl
def Zm0:El Z5:=El.iso (El.pair eI (El.pair (El.sl eL) (El.pair (El.sl eL) (El.pair (El.sl eL) eL)))) (fun x=>(x.qq,x.qadd,x.qsub,x.qmul,x.qinv)) (Z5.mk (0:Int) ([]:List (List Int)) ([]:List (List Int)) ([]:List (List Int)) ([]:List Int)) rfl
theorem frzo_T_impl_arithmetic:Frz ZBJ Zm0:=ZU (Zp (Zh _) (Zp (Zk (Zk (Zh _))) (Zp (Zk (Zk (Zh _))) (Zp (Zk (Zk (Zh _))) (Zk (Zh _))))))
theorem frzf_T_impl_arithmetic:Frz Zm0 Zm0:=ZU (Zp (Zh _) (Zp (ZZ _) (Zp (ZZ _) (Zp (ZZ _) (ZZ _)))))
def Zuo:El Zae:=El.iso (El.pair eI El.bool) (fun x=>(x.qleft,x.qspent)) (Zae.mk (0:Int) false) rfl
def ZkT:El Zae:=El.iso (El.pair eI El.bool) (fun x=>(x.qleft,x.qspent)) (Zae.mk (0:Int) false) rfl
theorem frzo_T_impl_counter:Frz Zuo ZkT:=ZU (Zp (Zh _) ZbQ)
theorem frzf_T_impl_counter:Frz ZkT ZkT:=ZU (Zp (Zh _) ZbQ)
def Zxw:El Zv:=El.iso (El.pair Zuo (El.pair Zim (El.pair (El.ow oL) (El.pair eI (El.pair eI (El.pair Zim (El.ow oL))))))) (fun x=>(x.qcounter,x.qgraph,x.qlists,x.qnodes,x.qleaves,x.qform,x.qbest)) (Zv.mk (Zae.mk (0:Int) false) (Za.mk ([]:List Int) ([]:List Zb)) ([]:List (List Int)) (0:Int) (0:Int) (Za.mk ([]:List Int) ([]:List Zb)) ([]:List (List Int))) rfl
def Znd:El Zv:=El.iso (El.pair ZkT (El.pair Zd1 (El.pair (El.sl eL) (El.pair eI (El.pair eI (El.pair Zd1 (El.sl eL))))))) (fun x=>(x.qcounter,x.qgraph,x.qlists,x.qnodes,x.qleaves,x.qform,x.qbest)) (Zv.mk (Zae.mk (0:Int) false) (Za.mk ([]:List Int) ([]:List Zb)) ([]:List (List Int)) (0:Int) (0:Int) (Za.mk ([]:List Int) ([]:List Zb)) ([]:List (List Int))) rfl
theorem frzo_T_impl_explorer:Frz Zxw Znd:=ZU (Zp frzo_T_impl_counter (Zp frzo_T_impl_Graph (Zp (Zk (Zk (Zh _))) (Zp (Zh _) (Zp (Zh _) (Zp frzo_T_impl_Graph (Zk (Zk (Zh _)))))))))
theorem frzf_T_impl_explorer:Frz Znd Znd:=ZU (Zp frzf_T_impl_counter (Zp frzf_T_impl_Graph (Zp (ZZ _) (Zp (Zh _) (Zp (Zh _) (Zp frzf_T_impl_Graph (ZZ _)))))))
theorem frzA {α:Type} {E a:El α} (h:Frz E a:=by first|exact Zh _|exact ZbQ|exact Zcf|exact ZZ _|exact Zk frzA|exact frzo_T_laws_Object|exact frzf_T_laws_Object|exact frzo_T_laws_Item|exact frzf_T_laws_Item|exact frzo_T_laws_Catalog|exact frzf_T_laws_Catalog|exact frzo_T_impl_Object|exact frzf_T_impl_Object|exact frzo_T_impl_Item|exact frzf_T_impl_Item|exact frzo_T_impl_Design|exact frzf_T_impl_Design|exact frzo_T_impl_Array|exact frzf_T_impl_Array|exact frzo_T_impl_Field|exact frzf_T_impl_Field|exact frzo_T_impl_Code|exact frzf_T_impl_Code|exact frzo_T_impl_Edge|exact frzf_T_impl_Edge|exact frzo_T_impl_Graph|exact frzf_T_impl_Graph|exact frzo_T_impl_Group|exact frzf_T_impl_Group|exact frzo_T_impl_Catalog|exact frzf_T_impl_Catalog|exact frzo_T_spec_l22Find|exact frzf_T_spec_l22Find|exact frzo_T_impl_arithmetic|exact frzf_T_impl_arithmetic|exact frzo_T_impl_counter|exact frzf_T_impl_counter|exact frzo_T_impl_explorer|exact frzf_T_impl_explorer):Frz E a:=h
abbrev zR (f:FuncId) (a:Array Value) (h:Heap) (ψ:CM) (u:Value):Prop:=CallsH P f a h fun v h'=>v=u/\S ψ h h' []
abbrev zL {α:Type} (f:FuncId) (a:Array Value) (h:Heap) (ψ:CM) (E:El α) (r:List α):Prop:=CallsH P f a h fun v h'=>∃ w0:Value,v=w0/\S ψ h h' [.it (El.ow E) [w0] r]
set_option maxHeartbeats 4000000
attribute [local irreducible] CallsQ vLen vIdx IntKind.wrap hcell vNew vNewS vSliceS vStore1 vAppend vMake vCopy vB2S vS2B vNilS
section
variable {ψ:CM} {h:Heap} (hψ:CLe ψ (hcell h))
include hψ
theorem ZFB {c v0 a r} (D:ZdR c a=some r) (e:SlC (hcell h) eI v0 c):zR 49 #[v0,.int .i64 a] h ψ (.int .i64 r):=by
 refine zv ⟨[],[],[],[]⟩ Tryz.func49 ?_;rw [ZdR] at D;have C:=sZ hψ;refine vL e C.le ?_;exact brQ D (fun D=>tZ) fun D=>tZ
theorem ZDS {j v0 c r} (D:ZhQ j c=some r) (e:SlC (hcell h) eL v0 j):zR 22 #[v0,.int .i64 c] h ψ (.int .i64 r):=by
 refine zv ⟨[(5,[(1,.i .i64),(5,.i .i64)])],[],[],[]⟩ Tryz.func22 ?_;rw [ZhQ] at D;have C:=sZ hψ;refine vL e C.le ?_;refine brQ D (fun D=>tZ) fun D=>?_;refine lp2 D (nlS C) fun m i v k a C D I=>?_;rw [ZjT] at D;refine vL e C.le ?_;refine brR D (fun D=>tZ) fun D=>?_;refine ixV e C.le D fun l o f D=>?_;refine cl0 D C (fun s _ _ g=>ZFB s.fle g slA) fun p u C D=>⟨_,rfl,?_⟩;exact brQ D (fun D=>tZ) fun D=>tZ
theorem ZtO {e c a r} (D:Zep e a=some r) (f:SlC (hcell h) eL c e.Rows):zR 6 #[.agg #[.int .i64 e.Kind,.int .i64 e.Size,c],.int .i64 a] h ψ (.int .i64 r):=by
 refine zv ⟨[],[],[],[]⟩ Tryz.func6 ?_;rw [Zep] at D;have C:=sZ hψ;refine new_S C fun k i C=>?_;refine bV C 0 2 ?_;refine cl0 D C (fun s _ _ g=>ZDS s.fle g slA) fun r8 j C D=>⟨_,rfl,?_⟩;exact brQ D (fun D=>tZ) fun D=>tZ
theorem Zwd {c e a r} (D:Zd2 c a=some r) (f:SlC (hcell h) eL e c.Object.Rows):zR 48 #[.agg #[.string c.Name,.int .i64 c.Object.Kind,.int .i64 c.Object.Size,e,.string c.Key],.int .i64 a] h ψ (.int .i64 r):=by
 refine zv ⟨[],[],[],[]⟩ Tryz.func48 ?_;rw [Zd2] at D;have C:=sZ hψ;refine new_S C fun l i C=>?_;refine bS C 0 0 ?_;refine brQ D (fun D=>tZ) fun D=>?_;refine bI C 0 1 ?_;refine bI C 0 2 ?_;refine bV C 0 3 ?_;refine cl0 D C (fun s _ _ g=>ZtO s.fle g slA) fun j k C D=>⟨_,rfl,?_⟩;refine brQ D (fun D=>tZ) fun D=>?_;refine bS C 0 4 ?_;exact brQ D (fun D=>tZ) fun D=>tZ
theorem Zzv {k v0 c r} (D:ZiR k c=some r) (g:SlC (hcell h) Za0 v0 k):zR 21 #[v0,.int .i64 c] h ψ (.int .i64 r):=by
 refine zv ⟨[(5,[(1,.i .i64),(5,.i .i64)])],[],[],[]⟩ Tryz.func21 ?_;rw [ZiR] at D;have C:=sZ hψ;refine vL g C.le ?_;refine brQ D (fun D=>tZ) fun D=>?_;refine lp2 D (nlS C) fun m j i5 p a C D I=>?_;rw [Zia] at D;refine vL g C.le ?_;refine brR D (fun D=>tZ) fun D=>?_;refine ixA slA D fun u v l o D=>?_;obtain ⟨cs,e,hr⟩:=g.cells l o rfl;obtain ⟨w,rfl,f⟩:=Zt8 hr;refine kS e C.le 0 ?_;refine kI e C.le 1 ?_;refine kI e C.le 2 ?_;refine kV e C.le 3 ?_;refine kS e C.le 4 ?_;refine cl0 D C (fun s _ _ i=>Zwd s.fle i slA) fun x y C D=>⟨_,rfl,?_⟩;exact brQ D (fun D=>tZ) fun D=>tZ
theorem ZBi {e c a r} (D:Zi0 e a=some r) (f:SlC (hcell h) Za0 c e.Items):zR 5 #[.agg #[c],.int .i64 a] h ψ (.int .i64 r):=by
 refine zv ⟨[],[],[],[]⟩ Tryz.func5 ?_;rw [Zi0] at D;have C:=sZ hψ;refine new_S C fun k i C=>?_;refine bV C 0 0 ?_;refine cl0 D C (fun s _ _ g=>Zzv s.fle g slA) fun r8 j C D=>⟨_,rfl,?_⟩;exact brQ D (fun D=>tZ) fun D=>tZ
theorem Zrm {a j e c p1 f r} (D:Zfk a c=some r) (g:CellsC (hcell h) j [.string a.Name,.int .i64 a.Object.Kind,.int .i64 a.Object.Size,e,.string a.Key]) (k:SlC (hcell h) eL e a.Object.Rows) (i:CellsC (hcell h) p1 [.string c.Name,.int .i64 c.Object.Kind,.int .i64 c.Object.Size,f,.string c.Key]) (l:SlC (hcell h) eL f c.Object.Rows):zR 26 #[.pointer (some j),.pointer (some p1)] h ψ (.bool r):=by
 refine zv ⟨[],[],[],[]⟩ Tryz.func26 ?_;rw [Zfk] at D;have C:=sZ hψ;refine kI g C.le 1 ?_;refine kI i C.le 1 ?_;refine brR D (fun D=>tZ) fun D=>?_;refine kS g C.le 4 ?_;refine kS i C.le 4 ?_;exact tZ
theorem Zau {n0 c a r} (D:Z3 n0 c a=some r)  :zR 95 #[.int .i64 n0,.int .i64 c,.int .i64 a] h ψ (.bool r):=by
 refine zv ⟨[],[],[],[]⟩ Tryz.func95 ?_;rw [Z3] at D;have C:=sZ hψ;exact brQ D (fun D=>tZ) fun D=>tZ
theorem ZrQ {c v0 n1 r} (D:ZfD c n1=some r) (e:SlC (hcell h) eI v0 c):zR 139 #[v0,.int .i64 n1] h ψ (.bool r):=by
 refine zv ⟨[(2,[(5,.i .i64)])],[],[],[]⟩ Tryz.func139 ?_;rw [ZfD] at D;have C:=sZ hψ;refine lp1 D (nlS C) fun m i f a C D I=>?_;rw [ZfZ] at D;refine vL e C.le ?_;refine brR D (fun D=>tZ) fun D=>?_;refine ixI slA D fun g D=>?_;exact brQ D (fun D=>tZ) fun D=>tZ
theorem ZpA {j v0 r} (D:Zeo j=some r) (c:SlC (hcell h) eI v0 j):zR 94 #[v0] h ψ (.bool r):=by
 refine zv ⟨[(4,[(3,.i .i64)])],[],[],[]⟩ Tryz.func94 ?_;rw [Zeo] at D;have C:=sZ hψ;refine vL c C.le ?_;refine brQ D (fun D=>tZ) fun D=>?_;refine lp1 D (nlS C) fun m l o a C D I=>?_;rw [Zfz] at D;refine vL c C.le ?_;refine brR D (fun D=>tZ) fun D=>?_;refine ixI slA D fun p D=>?_;refine vL c C.le ?_;refine cl0 D C (fun s _ _ e=>Zau s.fle e) fun u v C D=>⟨_,rfl,?_⟩;refine brQ D (fun D=>tZ) fun D=>?_;obtain ⟨w,g,D⟩:=obind D;refine ZdS none (some l) c g rfl fun x f=>?_;refine ixI slA D fun y D=>?_;refine cl0 D C (fun k _ _ i=>ZrQ k.fle i slA) fun a0 a1 C D=>⟨_,rfl,?_⟩;exact brQ D (fun D=>tZ) fun D=>tZ
theorem ZpY {j v0 r} (D:Zfq j=some r) (k:SlC (hcell h) eL v0 j):zR 51 #[v0] h ψ (.bool r):=by
 refine zv ⟨[(5,[(4,.i .i64)]),(10,[(5,.i .i64)]),(14,[(6,.v),(7,.i .i64)])],[(4,[])],[],[]⟩ Tryz.func51 ?_;rw [Zfq] at D;have C:=sZ hψ;refine vL k C.le ?_;refine ⟨fun l=>S ψ h l []/\ZkV j=some r,?_,?_⟩
 ·refine brQ D (fun D=>tZ) fun D=>?_;exact brQ D (fun D=>tZ) fun D=>tZ
 ·rintro _ l ⟨C,D⟩;rw [ZkV] at D;refine lp1 D (nlS C) fun m x4 a7 a C D I=>?_;rw [ZfU] at D;refine brQ D (fun D=>?_) fun D=>?_
  ·refine ixV k C.le D fun a8 a9 f D=>?_;refine vL f C.le ?_;refine brQ D (fun D=>tZ) fun D=>?_;refine ixV k C.le D fun aa ab ac D=>?_;refine cl0 D C (fun s _ _ u=>ZpA s.fle u slA) fun ad ae C D=>⟨_,rfl,?_⟩;exact brQ D (fun D=>tZ) fun D=>tZ
  ·refine lp1 D (nlS C) fun x y5 af y C D c=>?_;rw [Zef] at D;refine brQ D (fun D=>?_) fun D=>?_
   ·refine ZP (E:=eI) (css:=[]) (xs:=([]:List Int)) C (fun _=>rfl) rfl rfl fun ag ah C=>?_;obtain ⟨a1,e⟩:=Zj D;refine ⟨fun o v6 x7 p=>∃ g:List Int,S ψ h p [.it oL [v6] g]/\loopN (ZeL j y5) o (g,x7)=some y,⟨a1,_,pk C [0],e⟩,?_⟩;rintro o _ v6 x7 p ⟨g,C,e⟩;obtain ⟨a4,ai,rfl,D,i⟩:=Zi e;rw [ZeL] at D;refine brQ D (fun D=>?_) fun D=>?_
    ·refine ixV k C.le D fun aj ak al D=>?_;refine ixI slA D fun am D=>?_;obtain ⟨an,v,D⟩:=obind D;refine ZO C 0 rfl (fun _=>⟨rfl,rfl⟩) rfl rfl v fun ao ap C=>?_;dsimp at C;obtain rfl:=oI D;exact ⟨a4,ltS,_,pk C [0],i⟩
    ·refine cl0 D C (fun a5 _ _ w=>ZpA a5.fle w slA) fun aq ar C D=>⟨_,rfl,?_⟩;refine brQ D (fun D=>?_) fun D=>?_
     ·obtain rfl:=oI D;obtain rfl:=oI i;obtain rfl:=oI c;obtain rfl:=oI I;exact ⟨rfl,nlS C⟩
     ·obtain rfl:=oI D;obtain rfl:=oI i;exact ⟨x,ltS,nlS C,c⟩
   ·obtain rfl:=oI D;obtain rfl:=oI c;obtain rfl:=oI I;exact ⟨rfl,nlS C⟩
theorem ZAj {c v0 f e r} (D:ZjL c f e=some r) (i:SlC (hcell h) eI v0 c):zR 140 #[v0,.int .i64 f,.int .i64 e] h ψ (.bool r):=by
 refine zv ⟨[(2,[(7,.i .i64)])],[],[],[]⟩ Tryz.func140 ?_;rw [ZjL] at D;have C:=sZ hψ;refine lp1 D (nlS C) fun m v j a C D I=>?_;rw [ZeP] at D;refine vL i C.le ?_;refine brR D (fun D=>tZ) fun D=>?_;refine ixI slA D fun k D=>?_;refine cl0 D C (fun s _ _ g=>Zau s.fle g) fun l o C D=>⟨_,rfl,?_⟩;refine brQ D (fun D=>tZ) fun D=>?_;refine brR D (fun D=>tZ) fun D=>?_;refine ixI slA D fun p D=>?_;refine ixI slA D fun u D=>?_;exact brQ D (fun D=>tZ) fun D=>tZ
theorem ZwY {a v0 points1 r} (D:Zju a points1=some r) (c:SlC (hcell h) eI v0 a):zR 96 #[v0,.int .i64 points1] h ψ (.bool r):=by
 refine zv ⟨[],[],[],[]⟩ Tryz.func96 ?_;rw [Zju] at D;have C:=sZ hψ;refine vL c C.le ?_;refine brR D (fun D=>tZ) fun D=>?_;refine cl0 D C (fun s _ _ e=>ZAj s.fle e slA) fun f g C D=>⟨_,rfl,?_⟩;exact tZ
theorem ZeR {c v0 e v1 r} (D:Zbw c e=some r) (i:SlC (hcell h) eI v0 c) (j:SlC (hcell h) eI v1 e):zR 97 #[v0,v1] h ψ (.int .i64 r):=by
 refine zv ⟨[(2,[(5,.i .i64)])],[(4,[]),(8,[])],[],[]⟩ Tryz.func97 ?_;rw [Zbw] at D;have C:=sZ hψ;refine ⟨fun f=>S ψ h f []/\ZeA c e=some r,?_,?_⟩
 ·refine lp1 D (nlS C) fun m l p a C D I=>?_;rw [ZcI] at D;refine ⟨fun g=>S ψ h g []/\ZfB c e l=some a,?_,?_⟩
  ·refine vL i C.le ?_;refine brQ D (fun D=>?_) fun D=>?_
   ·refine vL j C.le ?_;refine brQ D (fun D=>tZ) fun D=>?_;obtain ⟨o,k,rfl⟩:=omap D;obtain rfl:=oI I;exact ⟨nlS C,k⟩
   ·obtain ⟨o,k,rfl⟩:=omap D;obtain rfl:=oI I;exact ⟨nlS C,k⟩
  ·rintro _ g ⟨C,D⟩;rw [ZfB] at D;refine ixI slA D fun s D=>?_;refine ixI slA D fun u D=>?_;refine brQ D (fun D=>tZ) fun D=>?_;refine ixI slA D fun v D=>?_;refine ixI slA D fun w D=>?_;exact brQ D (fun D=>tZ) fun D=>tZ
 ·rintro _ f ⟨C,D⟩;rw [ZeA] at D;refine vL i C.le ?_;refine vL j C.le ?_;refine brQ D (fun D=>tZ) fun D=>?_;refine vL i C.le ?_;refine vL j C.le ?_;exact brQ D (fun D=>tZ) fun D=>tZ
theorem ZHJ {i p g r} (D:ZjY i=some r) (c:CellsC (hcell h) p [.int .i64 i.Points,g]) (e:SlC (hcell h) eL g i.Blocks):zR 52 #[.pointer (some p)] h ψ (.bool r):=by
 refine zv ⟨[(4,[(3,.i .i64)])],[(3,[])],[],[]⟩ Tryz.func52 ?_;rw [ZjY] at D;have C:=sZ hψ;refine ⟨fun j=>S ψ h j []/\Zlg i=some r,?_,?_⟩
 ·refine kI c C.le 0 ?_;refine cl0 D C (fun u _ _ k=>Zau u.fle k) fun r8 w C D=>⟨_,rfl,?_⟩;refine brQ D (fun D=>tZ) fun D=>?_;refine kV c C.le 1 ?_;refine vL e C.le ?_;exact brQ D (fun D=>tZ) fun D=>tZ
 ·rintro _ j ⟨C,D⟩;rw [Zlg] at D;refine lp1 D (nlS C) fun m i3 x a C D I=>?_;rw [ZeJ] at D;refine kV c C.le 1 ?_;refine vL e C.le ?_;refine brR D (fun D=>tZ) fun D=>?_;refine kV c C.le 1 ?_;refine ixV e C.le D fun y a0 f D=>?_;refine kI c C.le 0 ?_;refine cl0 D C (fun s _ _ l=>ZwY s.fle l slA) fun a1 a2 C D=>⟨_,rfl,?_⟩;refine brQ D (fun D=>tZ) fun D=>?_;refine brR D (fun D=>tZ) fun D=>?_;refine kV c C.le 1 ?_;refine ixV e C.le D fun a3 a4 a5 D=>?_;refine kV c C.le 1 ?_;refine ixV e C.le D fun a6 a7 a8 D=>?_;refine cl0 D C (fun v _ _ o=>ZeR v.fle o slA slA) fun a9 aa C D=>⟨_,rfl,?_⟩;exact brQ D (fun D=>tZ) fun D=>tZ
theorem ZAo {c v0 e v1 r} (D:Zgu c e=some r) (f:SlC (hcell h) eI v0 c) (l:SlC (hcell h) eI v1 e):zR 98 #[v0,v1] h ψ (.int .i64 r):=by
 refine zv ⟨[(3,[(5,.i .i64),(6,.i .i64)])],[],[],[]⟩ Tryz.func98 ?_;rw [Zgu] at D;have C:=sZ hψ;refine lp2 D (nlS C) fun m g o i a C D I=>?_;rw [ZjW] at D;refine vL f C.le ?_;refine brR D (fun D=>tZ) fun D=>?_;refine ixI slA D fun j D=>?_;refine ixI slA D fun k D=>?_;exact tZ
theorem ZwW {l v0 r} (D:ZhU l=some r) (i:SlC (hcell h) eL v0 l):zR 53 #[v0] h ψ (.bool r):=by
 refine zv ⟨[(5,[(4,.i .i64)]),(10,[(5,.i .i64)]),(15,[(6,.i .i64)]),(18,[(7,.i .i64)])],[(4,[])],[],[]⟩ Tryz.func53 ?_;rw [ZhU] at D;have C:=sZ hψ;refine vL i C.le ?_;refine ⟨fun j=>S ψ h j []/\Zkt l=some r,?_,?_⟩
 ·refine brQ D (fun D=>tZ) fun D=>?_;exact brQ D (fun D=>tZ) fun D=>tZ
 ·rintro _ j ⟨C,D⟩;rw [Zkt] at D;refine lp1 D (nlS C) fun m y4 v a C D I=>?_;rw [Zgg] at D;refine brQ D (fun D=>?_) fun D=>?_
  ·refine ixV i C.le D fun w x f D=>?_;refine vL f C.le ?_;refine brQ D (fun D=>tZ) fun D=>?_;refine lp1 D (nlS C) fun k y5 y a0 C D c=>?_;rw [Za8] at D;refine brQ D (fun D=>?_) fun D=>?_
   ·refine ixV i C.le D fun a1 a2 a3 D=>?_;refine ixI slA D fun a4 D=>?_;refine brQ D (fun D=>?_) fun D=>?_
    ·refine ixV i C.le D fun a5 a6 a7 D=>?_;refine ixI slA D fun a8 D=>?_;refine brQ D (fun D=>?_) fun D=>?_
     ·obtain rfl:=oI D;obtain rfl:=oI c;obtain rfl:=oI I;exact ⟨rfl,nlS C⟩
     ·obtain rfl:=oI D;exact ⟨k,ltS,nlS C,c⟩
    ·obtain rfl:=oI D;exact ⟨k,ltS,nlS C,c⟩
   ·obtain rfl:=oI D;obtain rfl:=oI c;exact ⟨m,ltS,nlS C,I⟩
  ·refine lp1 D (nlS C) fun p y6 a9 aa C D e=>?_;rw [Zfh] at D;refine brQ D (fun D=>?_) fun D=>?_
   ·refine lp1 D (nlS C) fun u y7 ab ac C D g=>?_;rw [Ze5] at D;refine brQ D (fun D=>?_) fun D=>?_
    ·refine ixV i C.le D fun ad ae af D=>?_;refine ixV i C.le D fun ag ah ai D=>?_;refine cl0 D C (fun s _ _ o=>ZAo s.fle o slA slA) fun aj ak C D=>⟨_,rfl,?_⟩;refine brQ D (fun D=>?_) fun D=>?_
     ·obtain rfl:=oI D;obtain rfl:=oI g;obtain rfl:=oI e;obtain rfl:=oI I;exact ⟨rfl,nlS C⟩
     ·obtain rfl:=oI D;exact ⟨u,ltS,nlS C,g⟩
    ·obtain rfl:=oI D;obtain rfl:=oI g;exact ⟨p,ltS,nlS C,e⟩
   ·obtain rfl:=oI D;obtain rfl:=oI e;obtain rfl:=oI I;exact ⟨rfl,nlS C⟩
theorem ZFc {j k c r} (D:Zj9 j=some r) (g:CellsC (hcell h) k [.int .i64 j.Kind,.int .i64 j.Size,c]) (a:SlC ψ eL c j.Rows):CallsH P 54 #[.pointer (some k)] h (fun v h'=>∃ w0:Value,v=.agg #[.int .i64 r.Levels,.int .i64 r.Columns,w0]/\S ψ h h' [.it (El.sl eL) [w0] r.Rows]):=by
 refine zv ⟨[],[],[],[(1,⟨kdL [0,0,0,2,0,0,0,2,0,3,4],.fin [9,0,1,2,3,4,5,6,7,8,10],true⟩)]⟩ Tryz.func54 ?_;rw [Zj9] at D;have C:=sZ hψ;refine new_S C fun b2 l C=>?_;refine ⟨fun _=>False,?_⟩;have i:=C;have e:=eX l;refine Zdz C fun b3 w xE C=>⟨eZ (e.trans xE),?_⟩;replace e:=e.trans xE;refine ZJ ?_;refine kI g i.le 1 ?_;refine ZN ?_;refine kV g i.le 2 ?_;refine ZH (a.mono C.leF).one ?_;refine boxA fun x C=>?_;refine boxA fun y C=>?_;refine boxA fun a0 C=>?_;refine kV g C.le 2 ?_;refine vL a C.leF ?_;refine brQ D (fun D=>?_) fun D=>?_
 ·refine kV g C.le 2 ?_;refine ixV a C.leF D fun a1 a2 f D=>?_;refine vL f C.leF ?_;refine boxA fun a3 C=>?_;refine bI C 0 0 ?_;refine bI C 0 1 ?_;refine bV C 0 2 ?_;refine boxA fun a4 C=>?_;refine boxA fun a5 C=>?_;refine boxA fun o C=>?_;refine bI C 1 0 ?_;refine bI C 1 1 ?_;refine bV C 1 2 ?_;have C:=C.arg a;obtain rfl:=oI D;exact ⟨c,rfl,pk C [0]⟩
 ·refine bI C 0 0 ?_;refine bI C 0 1 ?_;refine bV C 0 2 ?_;refine boxA fun p C=>?_;refine boxA fun s C=>?_;refine boxA fun u C=>?_;refine bI C 1 0 ?_;refine bI C 1 1 ?_;refine bV C 1 2 ?_;have C:=C.arg a;obtain rfl:=oI D;exact ⟨c,rfl,pk C [0]⟩
theorem ZvI {levels0 column1 r} (D:ZmI levels0 column1=some r)  :zR 99 #[.int .i64 levels0,.int .i64 column1] h ψ (.bool r):=by
 refine zv ⟨[],[],[],[]⟩ Tryz.func99 ?_;rw [ZmI] at D;have C:=sZ hψ;refine cl0 D C (fun s _ _ e=>Zau s.fle e) fun i f C D=>⟨_,rfl,?_⟩;refine brR D (fun D=>tZ) fun D=>?_;refine cl0 D C (fun c _ _ a=>Zau c.fle a) fun j g C D=>⟨_,rfl,?_⟩;exact tZ
theorem Zv1 {i p j r} (D:Zj4 i=some r) (c:CellsC (hcell h) p [.int .i64 i.Levels,.int .i64 i.Columns,j]) (e:SlC (hcell h) eL j i.Rows):zR 55 #[.pointer (some p)] h ψ (.bool r):=by
 refine zv ⟨[(4,[(3,.i .i64)]),(9,[(4,.i .i64)])],[(3,[])],[],[]⟩ Tryz.func55 ?_;rw [Zj4] at D;have C:=sZ hψ;refine ⟨fun k=>S ψ h k []/\ZkJ i=some r,?_,?_⟩
 ·refine kI c C.le 0 ?_;refine kI c C.le 1 ?_;refine cl0 D C (fun u _ _ l=>ZvI u.fle l) fun x y C D=>⟨_,rfl,?_⟩;refine brQ D (fun D=>tZ) fun D=>?_;refine kV c C.le 2 ?_;refine vL e C.le ?_;exact brQ D (fun D=>tZ) fun D=>tZ
 ·rintro _ k ⟨C,D⟩;rw [ZkJ] at D;refine lp1 D (nlS C) fun m y3 a0 a C D I=>?_;rw [Zhd] at D;refine kV c C.le 2 ?_;refine vL e C.le ?_;refine brR D (fun D=>tZ) fun D=>?_;refine kV c C.le 2 ?_;refine ixV e C.le D fun a1 a2 f D=>?_;refine vL f C.le ?_;refine kI c C.le 1 ?_;refine brQ D (fun D=>tZ) fun D=>?_;refine lp1 D (nlS C) fun v y4 a3 a4 C D g=>?_;rw [Zed] at D;refine kV c C.le 2 ?_;refine ixV e C.le D fun a5 a6 w D=>?_;refine vL w C.le ?_;refine brQ D (fun D=>?_) fun D=>?_
  ·refine kV c C.le 2 ?_;refine ixV e C.le D fun a7 a8 a9 D=>?_;refine ixI slA D fun aa D=>?_;refine kI c C.le 0 ?_;refine cl0 D C (fun s _ _ o=>Zau s.fle o) fun ab ac C D=>⟨_,rfl,?_⟩;refine brQ D (fun D=>?_) fun D=>?_
   ·obtain rfl:=oI D;obtain rfl:=oI g;obtain rfl:=oI I;exact ⟨rfl,nlS C⟩
   ·obtain rfl:=oI D;exact ⟨v,ltS,nlS C,g⟩
  ·obtain rfl:=oI D;obtain rfl:=oI g;exact ⟨m,ltS,nlS C,I⟩
theorem Znw {i r} (D:ZbN i=some r)  :zR 100 #[.int .i64 i] h ψ (.tuple #[.int .i64 r.1,.int .i64 r.2]):=by
 refine zv ⟨[(4,[(4,.i .i64)]),(8,[(5,.i .i64),(6,.i .i64)])],[],[],[]⟩ Tryz.func100 ?_;rw [ZbN] at D;have C:=sZ hψ;refine cl0 D C (fun s _ _ k=>Zau s.fle k) fun r8 l C D=>⟨_,rfl,?_⟩;refine brQ D (fun D=>tZ) fun D=>?_;refine lp1 D (nlS C) fun m v o a C D I=>?_;rw [Zk9] at D;obtain ⟨_,e,D⟩:=obind D;refine ⟨Zan e,?_⟩;refine brQ D (fun D=>tZ) fun D=>?_;refine lp2 D (nlS C) fun j w x p u C D c=>?_;rw [ZkS] at D;refine brQ D (fun D=>?_) fun D=>?_
 ·obtain ⟨_,f,D⟩:=obind D;refine ⟨Zan f,?_⟩;refine brQ D (fun D=>?_) fun D=>?_
  ·obtain rfl:=oI D;obtain rfl:=oI c;obtain rfl:=oI I;exact ⟨rfl,nlS C⟩
  ·obtain ⟨_,g,D⟩:=obind D;refine ⟨Zan g,?_⟩;obtain rfl:=oI D;exact ⟨j,ltS,nlS C,c⟩
 ·obtain rfl:=oI D;obtain rfl:=oI c;obtain rfl:=oI I;exact ⟨rfl,nlS C⟩
theorem Zg6 {o p1 n2 r} (D:Za3 o p1 n2=some r)  :zL 141 #[.int .i64 o,.int .i64 p1,.int .i64 n2] h ψ eI r:=by
 refine zv ⟨[(2,[(0,.i .i64),(2,.i .i64),(7,.v)])],[],[],[]⟩ Tryz.func141 ?_;rw [Za3] at D;have C:=sZ hψ;refine ZP (E:=eI) (css:=[]) (xs:=([]:List Int)) C (fun _=>rfl) rfl rfl fun y u C=>?_;obtain ⟨p,i⟩:=Zj D;refine ⟨fun n e f j g=>∃ c:List Int,S ψ h g [.it oL [j] c]/\loopN (Zda p1) n (e,f,c)=some r,⟨p,_,pk C [0],i⟩,?_⟩;rintro n _ e f j g ⟨c,C,i⟩;obtain ⟨m,a,rfl,D,I⟩:=Zi i;rw [Zda] at D;refine brQ D (fun D=>?_) fun D=>?_
 ·obtain ⟨_,s,D⟩:=obind D;refine ⟨Zan s,?_⟩;obtain ⟨v,k,D⟩:=obind D;refine ZO C 0 rfl (fun _=>⟨rfl,rfl⟩) rfl rfl k fun w x C=>?_;dsimp at C;obtain ⟨_,l,D⟩:=obind D;refine ⟨Zan l,?_⟩;obtain rfl:=oI D;exact ⟨m,ltS,_,pk C [0],I⟩
 ·obtain rfl:=oI D;obtain rfl:=oI I;exact ⟨j,rfl,pk C [0]⟩
theorem ZoR {c k1 r} (D:ZeT c k1=some r)  :zR 145 #[.int .i64 c,.int .i64 k1] h ψ (.int .i64 r):=by
 refine zv ⟨[(2,[(1,.i .i64),(5,.i .i64)])],[],[],[]⟩ Tryz.func145 ?_;rw [ZeT] at D;have C:=sZ hψ;refine lp2 D (nlS C) fun m e f g a C D I=>?_;rw [Zmq] at D;exact brQ D (fun D=>tZ) fun D=>tZ
theorem ZiD {a v0 r} (D:ZaZ a=some r) (i:SlC (hcell h) eI v0 a):zL 111 #[v0] h ψ eI r:=by
 refine zv ⟨[],[],[],[]⟩ Tryz.func111 ?_;rw [ZaZ] at D;have C:=sZ hψ;refine ZP (E:=eI) (css:=[]) (xs:=([]:List Int)) C (fun _=>rfl) rfl rfl fun j f C=>?_;obtain ⟨k,c,D⟩:=obind D;refine app_S C 0 rfl (ZcF (Zbf _) slA) rfl rfl c fun e g C=>?_;dsimp at C;obtain rfl:=oI D;exact ⟨e,rfl,pk C [0]⟩
theorem Zsd {y0 v0 g v1 k r} (D:ZdE y0 g k=some r) (f0:SlC (hcell h) eI v0 y0) (f1:SlC (hcell h) eI v1 g):zL 188 #[v0,v1,.int .i64 k] h ψ eI r:=by
 refine zv ⟨[(4,[(9,.i .i64)]),(8,[(11,.i .i64)]),(12,[(7,.v)])],[],[],[]⟩ Tryz.func188 ?_;rw [ZdE] at D;have C:=sZ hψ;refine cl1 D C (fun s _ _ hx=>ZiD s.fle hx slA) fun ag o ah C D=>⟨_,rfl,?_⟩;refine vL f1 C.le ?_;refine Zn slA ?_;obtain ⟨a8,hn⟩:=Zj D;refine ⟨fun n y9 p=>∃ xs:List Int,S ψ h p [.it oL [o] xs]/\loopN (Zbo g k) n (y9,xs)=some r,⟨a8,_,pk C [0],hn⟩,?_⟩;rintro n _ y9 p ⟨xs,C,hn⟩;obtain ⟨m,a,rfl,D,I⟩:=Zi hn;rw [Zbo] at D;refine brQ D (fun D=>?_) fun D=>?_
 ·refine ixI slA D fun a9 D=>?_;obtain ⟨aa,c⟩:=Zj D;refine ⟨fun u v w=>∃ e:List Int,S ψ h w [.it oL [o] e]/\loopN (Zer g k y9 a9) u (v,e)=some a,⟨aa,_,pk C [0],c⟩,?_⟩;rintro u _ v w ⟨e,C,c⟩;obtain ⟨ab,ai,rfl,D,i⟩:=Zi c;rw [Zer] at D;refine brQ D (fun D=>?_) fun D=>?_
  ·refine ixI slA D fun aj D=>?_;refine ixI slA D fun ak D=>?_;obtain ⟨_,a2,D⟩:=obind D;refine ⟨Zan a2,?_⟩;refine ixA slA D fun al am a3 a4 D=>?_;refine st1_S C 0 rfl a3 a4 rfl (fun _=>⟨rfl,rfl⟩) fun an C=>?_;dsimp at C;obtain rfl:=oI D;exact ⟨ab,ltS,_,pk C [0],i⟩
  ·obtain rfl:=oI D;obtain rfl:=oI i;exact ⟨m,ltS,_,pk C [0],I⟩
 ·obtain ⟨ac,f⟩:=Zj D;refine ⟨fun x v7 y=>∃ l:List Int,S ψ h y [.it oL [v7] l]/\loopN (Zch g) x l=some a,⟨ac,_,pk C [0],f⟩,?_⟩;rintro x _ v7 y ⟨l,C,f⟩;obtain ⟨ad,ao,rfl,D,j⟩:=Zi f;rw [Zch] at D;refine Zn slA ?_;refine brQ D (fun D=>?_) fun D=>?_
  ·refine Zn slA ?_;obtain ⟨ap,a6,D⟩:=obind D;refine cut_S none (some (ε.wrap ((l.length:Int)-1))) C 0 rfl a6 rfl fun aq C=>?_;dsimp at C;obtain rfl:=oI D;exact ⟨ad,ltS,_,pk C [0],j⟩
  ·obtain rfl:=oI D;obtain rfl:=oI j;obtain rfl:=oI I;exact ⟨v7,rfl,pk C [0]⟩
theorem Zm4 {c v0 p1 r} (D:Za2 c p1=some r) (e:SlC (hcell h) eI v0 c):zR 189 #[v0,.int .i64 p1] h ψ (.int .i64 r):=by
 refine zv ⟨[(3,[(5,.i .i64),(6,.i .i64)])],[],[],[]⟩ Tryz.func189 ?_;rw [Za2] at D;have C:=sZ hψ;refine vL e C.le ?_;refine lp2 D (nlS C) fun m f j g a C D I=>?_;rw [Zes] at D;refine brR D (fun D=>tZ) fun D=>?_;refine ixI slA D fun i D=>?_;exact tZ
theorem Zs9 {e v0 p1 r} (D:ZgC e p1=some r) (u:SlC (hcell h) eI v0 e):zR 142 #[v0,.int .i64 p1] h ψ (.bool r):=by
 refine zv ⟨[(3,[(6,.i .i64)]),(6,[(7,.i .i64)])],[],[],[]⟩ Tryz.func142 ?_;rw [ZgC] at D;have C:=sZ hψ;refine vL u C.le ?_;refine lp1 D (nlS C) fun m d6 w a C D I=>?_;rw [Zml] at D;refine brR D (fun D=>tZ) fun D=>?_;refine lp1 D (nlS C) fun k n7 x y C D c=>?_;rw [Zln] at D;refine cl0 D C (fun s _ _ v=>ZoR s.fle v) fun a0 a1 C D=>⟨_,rfl,?_⟩;refine brQ D (fun D=>?_) fun D=>?_
 ·refine cl1 D C (fun l _ _ f=>Zg6 l.fle f) fun a2 a3 a4 C D=>⟨_,rfl,?_⟩;obtain ⟨a5,g,D⟩:=obind D;refine ZO C 0 rfl (fun _=>⟨rfl,rfl⟩) rfl rfl g fun a6 a7 C=>?_;dsimp at C;refine cl1 D C (fun o _ _ i=>Zsd o.fle i slA slA) fun a8 a9 aa C D=>⟨_,rfl,?_⟩;refine cl0 D C (fun p _ _ j=>Zm4 p.fle j slA) fun ab ac C D=>⟨_,rfl,?_⟩;refine brQ D (fun D=>?_) fun D=>?_
  ·obtain rfl:=oI D;obtain rfl:=oI c;obtain rfl:=oI I;exact ⟨rfl,nlS C⟩
  ·obtain rfl:=oI D;exact ⟨k,ltS,nlS C,c⟩
 ·obtain rfl:=oI D;obtain rfl:=oI c;exact ⟨m,ltS,nlS C,I⟩
theorem ZEg {g r} (D:Zhj g=some r)  :CallsH P 101 #[.int .i64 g] h (fun v h'=>∃ w0:Value,v=.agg #[.int .i64 r.Prime,.int .i64 r.Degree,w0]/\S ψ h h' [.it oL [w0] r.Poly]):=by
 refine zv ⟨[(4,[(5,.i .i64)])],[],[],[]⟩ Tryz.func101 ?_;rw [Zhj] at D;have C:=sZ hψ;refine new_S C fun l u C=>?_;refine cl0 D C (fun s _ _ o=>Znw s.fle o) fun r9 w C D=>⟨_,_,rfl,?_⟩;refine lp1 (os:=[.box l [.int .i64 0,.int .i64 0,(.slice none 0 0)]]) D (pk C [0]) fun m n5 x a C D I=>?_;rw [Zlc] at D;refine cl1 D C (fun i _ _ c=>Zg6 i.fle c) fun y a0 a1 C D=>⟨_,rfl,?_⟩;obtain ⟨a2,e,D⟩:=obind D;refine ZO C 0 rfl (fun _=>⟨rfl,rfl⟩) rfl rfl e fun j a3 C=>?_;dsimp at C;refine cl0 D C (fun k _ _ f=>Zs9 k.fle f slA) fun a4 a5 C D=>⟨_,rfl,?_⟩;refine brQ D (fun D=>?_) fun D=>?_
 ·refine ZH oneA ?_;refine boxA fun a6 C=>?_;refine boxA fun a7 C=>?_;refine boxA fun p C=>?_;refine bI C 1 0 ?_;refine bI C 1 1 ?_;refine bV C 1 2 ?_;obtain rfl:=oI D;obtain rfl:=oI I;exact ⟨j,rfl,pk C [0]⟩
 ·obtain rfl:=oI D;exact ⟨m,ltS,pk C [1],I⟩
theorem Zr5 {j u a r} (D:Zbi j=some r) (f:CellsC (hcell h) u [.int .i64 j.Kind,.int .i64 j.Size,a]) (g:SlC ψ eL a j.Rows):CallsH P 56 #[.pointer (some u)] h (fun v h'=>∃ w0:Value,∃ w1:Value,v=.agg #[.int .i64 r.Field.Prime,.int .i64 r.Field.Degree,w0,w1]/\S ψ h h' [.it oL [w0] r.Field.Poly,.it (El.sl eL) [w1] r.Rows]):=by
 refine zv ⟨[],[],[],[(4,⟨kdL [0,0,0,1,3,0,0,0,2,0,4],.fin [0,1,2,3,4,5,6,7,8,9,10],true⟩)]⟩ Tryz.func56 ?_;rw [Zbi] at D;have C:=sZ hψ;refine new_S C fun b2 a4 C=>?_;refine kI f C.le 1 ?_;refine cl0 D C (fun s _ _ y=>Znw s.fle y) fun a5 w C D=>⟨_,_,rfl,?_⟩;refine brQ D (fun D=>?_) fun D=>?_
 ·refine boxA fun a6 C=>?_;refine boxA fun a7 C=>?_;refine boxA fun a8 C=>?_;refine boxA fun a9 C=>?_;refine bI C 0 0 ?_;refine bI C 0 1 ?_;refine bV C 0 2 ?_;refine bV C 0 3 ?_;have C:=C.nilO (E:=eI);have C:=C.nilF (E:=eL);obtain rfl:=oI D;exact ⟨(.slice none 0 0),(.slice none 0 0),rfl,pk C [1,0]⟩
 ·refine ⟨fun _=>False,?_⟩;have k:=C;have c:=eX w;refine kI f C.le 1 ?_;obtain ⟨aa,o,D⟩:=obind D;obtain ⟨a0,ab,i,l⟩:=id C;refine (ZEg i.fle o).mono fun ac ad ⟨x,p,e⟩=>⟨_,_,_,p,eZ (c.trans e.ext),?_⟩;replace c:=c.trans e.ext;replace C:=join1 i l e;clear e i l;refine ZN ?_;refine kV f k.le 2 ?_;refine ZH (g.mono C.leF).one ?_;refine boxA fun ae C=>?_;refine boxA fun a1 C=>?_;refine boxA fun a2 C=>?_;refine boxA fun a3 C=>?_;refine bI C 1 0 ?_;refine bI C 1 1 ?_;refine bV C 1 2 ?_;refine bV C 1 3 ?_;have C:=C.arg g;obtain rfl:=oI D;exact ⟨x,a,rfl,pk C [1,0]⟩
theorem ZFI {e u f r} (D:ZfG e=some r) (c:CellsC (hcell h) u [.int .i64 e.Prime,.int .i64 e.Degree,f]) (g:SlC (hcell h) eI f e.Poly):zR 143 #[.pointer (some u)] h ψ (.bool r):=by
 refine zv ⟨[(8,[(6,.i .i64)])],[(3,[])],[],[]⟩ Tryz.func143 ?_;rw [ZfG] at D;have C:=sZ hψ;refine ⟨fun i=>S ψ h i []/\Zhy e=some r,?_,?_⟩
 ·refine kI c C.le 0 ?_;refine cl0 D C (fun v _ _ j=>Zau v.fle j) fun a2 a3 C D=>⟨_,rfl,?_⟩;refine brQ D (fun D=>tZ) fun D=>?_;refine kI c C.le 1 ?_;refine cl0 D C (fun w _ _ k=>Zau w.fle k) fun a4 a5 C D=>⟨_,rfl,?_⟩;refine brQ D (fun D=>tZ) fun D=>?_;refine kV c C.le 2 ?_;refine vL g C.le ?_;refine kI c C.le 1 ?_;refine brQ D (fun D=>tZ) fun D=>?_;refine kV c C.le 2 ?_;refine kI c C.le 1 ?_;refine ixI slA D fun a6 D=>?_;exact brQ D (fun D=>tZ) fun D=>tZ
 ·rintro _ i ⟨C,D⟩;rw [Zhy] at D;refine kI c C.le 0 ?_;refine kI c C.le 1 ?_;refine cl0 D C (fun s _ _ hx=>ZoR s.fle hx) fun a7 a8 C D=>⟨_,rfl,?_⟩;refine cl0 D C (fun x _ _ l=>Znw x.fle l) fun a9 aa C D=>⟨_,_,rfl,?_⟩;refine kI c C.le 0 ?_;refine brQ D (fun D=>tZ) fun D=>?_;refine lp1 D (nlS C) fun m y6 ab a C D I=>?_;rw [Zmv] at D;refine kV c C.le 2 ?_;refine vL g C.le ?_;refine brQ D (fun D=>?_) fun D=>?_
  ·refine kV c C.le 2 ?_;refine ixI slA D fun ac D=>?_;refine cl0 D C (fun y _ _ o=>Zau y.fle o) fun ad ae C D=>⟨_,rfl,?_⟩;exact brQ D (fun D=>tZ) fun D=>tZ
  ·refine kV c C.le 2 ?_;refine cl0 D C (fun a0 _ _ p=>Zs9 a0.fle p slA) fun af ag C D=>⟨_,rfl,?_⟩;exact tZ
theorem Zli {c f a r} (D:Zbc c=some r) (e:CellsC (hcell h) f [.int .i64 c.Prime,.int .i64 c.Degree,a]) (g:SlC (hcell h) eI a c.Poly):zR 104 #[.pointer (some f)] h ψ (.int .i64 r):=by
 refine zv ⟨[],[],[],[]⟩ Tryz.func104 ?_;rw [Zbc] at D;have C:=sZ hψ;refine kI e C.le 0 ?_;refine kI e C.le 1 ?_;refine cl0 D C (fun s _ _ i=>ZoR s.fle i) fun j k C D=>⟨_,rfl,?_⟩;exact tZ
theorem ZwH {f i c v1 e r} (D:ZhD f v1=some r) (p:CellsC (hcell h) i [.int .i64 f.Prime,.int .i64 f.Degree,c]) (k:SlC (hcell h) eI c f.Poly) (l:SlC (hcell h) eI e v1):zR 144 #[.pointer (some i),e] h ψ (.bool r):=by
 refine zv ⟨[(3,[(6,.i .i64)])],[],[],[]⟩ Tryz.func144 ?_;rw [ZhD] at D;have C:=sZ hψ;refine cl0 D C (fun s _ _ o=>Zli s.fle o slA slA) fun r8 u C D=>⟨_,rfl,?_⟩;refine lp1 D (nlS C) fun m i6 v a C D I=>?_;rw [Zd4] at D;refine vL l C.le ?_;refine brR D (fun D=>tZ) fun D=>?_;refine ixI slA D fun w D=>?_;refine cl0 D C (fun j _ _ g=>Zau j.fle g) fun x y C D=>⟨_,rfl,?_⟩;exact brQ D (fun D=>tZ) fun D=>tZ
theorem Zvi {e o g j v1 r} (D:Zkq e j=some r) (y:CellsC (hcell h) o [.int .i64 e.Prime,.int .i64 e.Degree,g]) (x:SlC (hcell h) eI g e.Poly) (c:SlC (hcell h) eL v1 j):zR 102 #[.pointer (some o),v1] h ψ (.bool r):=by
 refine zv ⟨[(4,[(5,.i .i64)])],[(3,[])],[],[]⟩ Tryz.func102 ?_;rw [Zkq] at D;have C:=sZ hψ;refine ⟨fun i=>S ψ h i []/\ZmS e j=some r,?_,?_⟩
 ·refine cl0 D C (fun p _ _ k=>ZFI p.fle k slA slA) fun r7 a0 C D=>⟨_,rfl,?_⟩;refine brQ D (fun D=>tZ) fun D=>?_;refine vL c C.le ?_;refine brQ D (fun D=>tZ) fun D=>?_;refine vL c C.le ?_;refine brQ D (fun D=>tZ) fun D=>?_;refine ixV c C.le D fun a1 a2 u D=>?_;refine vL u C.le ?_;refine brQ D (fun D=>tZ) fun D=>?_;refine ixV c C.le D fun a3 a4 v D=>?_;refine vL v C.le ?_;exact brQ D (fun D=>tZ) fun D=>tZ
 ·rintro _ i ⟨C,D⟩;rw [ZmS] at D;refine lp1 D (nlS C) fun m i5 a5 a C D I=>?_;rw [ZgV] at D;refine vL c C.le ?_;refine brR D (fun D=>tZ) fun D=>?_;refine ixV c C.le D fun a6 a7 f D=>?_;refine vL f C.le ?_;refine ixV c C.le D fun a8 a9 w D=>?_;refine vL w C.le ?_;refine brQ D (fun D=>tZ) fun D=>?_;refine ixV c C.le D fun aa ab ac D=>?_;refine cl0 D C (fun s _ _ l=>ZwH s.fle l slA slA slA) fun ad ae C D=>⟨_,rfl,?_⟩;exact brQ D (fun D=>tZ) fun D=>tZ
theorem Zw6 {c k1 r} (D:Zi5 c k1=some r)  :zR 103 #[.int .i64 c,.int .i64 k1] h ψ (.int .i64 r):=by
 refine zv ⟨[(2,[(1,.i .i64),(5,.i .i64)])],[],[],[]⟩ Tryz.func103 ?_;rw [Zi5] at D;have C:=sZ hψ;refine lp2 D (nlS C) fun m e g f a C D I=>?_;rw [Zbg] at D;refine brR D (fun D=>tZ) fun D=>?_;exact brQ D (fun D=>tZ) fun D=>tZ
theorem ZvG {c v0 e v1 r} (D:Zjy c e=some r) (f:SlC (hcell h) eI v0 c) (g:SlC (hcell h) eI v1 e):zR 146 #[v0,v1] h ψ (.bool r):=by
 refine zv ⟨[(4,[(5,.i .i64)])],[],[],[]⟩ Tryz.func146 ?_;rw [Zjy] at D;have C:=sZ hψ;refine vL f C.le ?_;refine vL g C.le ?_;refine brQ D (fun D=>tZ) fun D=>?_;refine lp1 D (nlS C) fun m l i a C D I=>?_;rw [Zi6] at D;refine vL f C.le ?_;refine brR D (fun D=>tZ) fun D=>?_;refine ixI slA D fun j D=>?_;refine ixI slA D fun k D=>?_;exact brQ D (fun D=>tZ) fun D=>tZ
theorem Zp0 {g v0 i v1 r} (D:Zgs g i=some r) (c:SlC (hcell h) eL v0 g) (j:SlC (hcell h) eL v1 i):zR 105 #[v0,v1] h ψ (.bool r):=by
 refine zv ⟨[(4,[(5,.i .i64)])],[],[],[]⟩ Tryz.func105 ?_;rw [Zgs] at D;have C:=sZ hψ;refine vL c C.le ?_;refine vL j C.le ?_;refine brQ D (fun D=>tZ) fun D=>?_;refine lp1 D (nlS C) fun m y k a C D I=>?_;rw [ZiK] at D;refine vL c C.le ?_;refine brR D (fun D=>tZ) fun D=>?_;refine ixV c C.le D fun l o f D=>?_;refine ixV j C.le D fun p u v D=>?_;refine cl0 D C (fun s _ _ e=>ZvG s.fle e slA slA) fun w x C D=>⟨_,rfl,?_⟩;exact brQ D (fun D=>tZ) fun D=>tZ
theorem Zoh {g v0 r} (D:Zhr g=some r) (o:SlC (hcell h) eL v0 g):zL 61 #[v0] h ψ eL r:=by
 refine zv ⟨[(3,[(3,.v),(4,.i .i64)])],[],[],[]⟩ Tryz.func61 ?_;rw [Zhr] at D;have C:=sZ hψ;refine ZP (E:=eL) (css:=[]) (xs:=([]:List (List Int))) C (fun _=>rfl) rfl rfl fun v5 v C=>?_;obtain ⟨p,i⟩:=Zj D;refine ⟨fun n j u e=>∃ c:List (List Int),S ψ h e [.it (El.ow eL) [j] c]/\loopN (ZfV g) n (c,u)=some r,⟨p,_,pk C [0],i⟩,?_⟩;rintro n _ j u e ⟨c,C,i⟩;obtain ⟨m,a,rfl,D,I⟩:=Zi i;rw [ZfV] at D;refine vL o C.le ?_;refine brQ D (fun D=>?_) fun D=>?_
 ·refine ixV o C.le D fun w x f D=>?_;refine cl1 D C (fun s _ _ k=>ZiD s.fle k slA) fun y a0 a1 C D=>⟨_,rfl,?_⟩;refine ZH oneA ?_;have C:=C.freeze 0 rfl (Zk (Zh _));dsimp at C;have C:=C.copyF 0 rfl;obtain ⟨a2,l,D⟩:=obind D;refine Zar C 1 rfl rfl rfl l fun a3 a4 C=>?_;dsimp at C;obtain rfl:=oI D;exact ⟨m,ltS,_,pk C [1],I⟩
 ·obtain rfl:=oI D;obtain rfl:=oI I;exact ⟨j,rfl,pk C [0]⟩
theorem Zpu {l p0 o y1 y2 r} (D:Ze0 l y1 y2=some r) (c:CellsC (hcell h) p0 [.int .i64 l.Prime,.int .i64 l.Degree,o]) (an:SlC (hcell h) eI o l.Poly):zR 229 #[.pointer (some p0),.int .i64 y1,.int .i64 y2] h ψ (.int .i64 r):=by
 refine zv ⟨[(5,[(10,.i .i64)]),(8,[(11,.i .i64)])],[],[],[(11,⟨kdL [0,0,0,0,1,0,0,0,1,3,0,0,0,2,4,0],.fin [0,1,2,3,4,5,6,7,8,9,10,11,12,13,14,15],true⟩)]⟩ Tryz.func229 ?_;rw [Ze0] at D;have C:=sZ hψ;refine kI c C.le 0 ?_;refine kI c C.le 1 ?_;refine cl1 D C (fun s _ _ hx=>Zg6 s.fle hx) fun i a0 aq C D=>⟨_,rfl,?_⟩;refine kI c C.le 0 ?_;refine kI c C.le 1 ?_;refine cl1 D C (fun ai _ _ a7=>Zg6 ai.fle a7) fun j a1 ar C D=>⟨_,rfl,?_⟩;refine kI c C.le 1 ?_;obtain ⟨au,a8,D⟩:=obind D;refine Zaj (E:=eI) C rfl a8 fun a2 av C=>?_;obtain ⟨aj,hn⟩:=Zj D;refine ⟨fun n p u=>∃ xs:List Int,S ψ h u [.it oL [a2] xs,.it oL [a1] j,.it oL [a0] i]/\loopN (Zc8 l i j) n (p,xs)=some r,⟨aj,_,pk C [0,1,2],hn⟩,?_⟩;rintro n _ p u ⟨xs,C,hn⟩;obtain ⟨m,a,rfl,D,I⟩:=Zi hn;rw [Zc8] at D;refine Zn slA ?_;refine brQ D (fun D=>?_) fun D=>?_
 ·obtain ⟨ak,f⟩:=Zj D;refine ⟨fun a3 a4 a5=>∃ g:List Int,S ψ h a5 [.it oL [a2] g,.it oL [a1] j,.it oL [a0] i]/\loopN (ZjH l i j p) a3 (a4,g)=some a,⟨ak,_,pk C [0,1,2],f⟩,?_⟩;rintro a3 _ a4 a5 ⟨g,C,f⟩;obtain ⟨al,aw,rfl,D,v⟩:=Zi f;rw [ZjH] at D;refine Zn slA ?_;refine brQ D (fun D=>?_) fun D=>?_
  ·refine ixI slA D fun ax D=>?_;refine ixI slA D fun ay D=>?_;refine ixI slA D fun az D=>?_;refine kI c C.le 0 ?_;obtain ⟨_,aa,D⟩:=obind D;refine ⟨Zan aa,?_⟩;refine ixA slA D fun b0 b1 ab ac D=>?_;refine st1_S C 0 rfl ab ac rfl (fun _=>⟨rfl,rfl⟩) fun b2 C=>?_;dsimp at C;obtain rfl:=oI D;exact ⟨al,ltS,_,pk C [0,1,2],v⟩
  ·obtain rfl:=oI D;obtain rfl:=oI v;exact ⟨m,ltS,_,pk C [0,1,2],I⟩
 ·refine ⟨fun _=>False,?_⟩;have w:=C;have e:=eX u;refine kV c C.le 2 ?_;refine kI c C.le 0 ?_;obtain ⟨b3,ad,D⟩:=obind D;obtain ⟨ap,b4,x,a6⟩:=id C;refine (Zsd x.fle ad slA slA).mono fun b5 b6 ⟨b7,ae,k⟩=>⟨_,ae,eZ (e.trans k.ext),?_⟩;replace e:=e.trans k.ext;replace C:=join1 x a6 k;clear k x a6;refine ZJ ?_;refine kI c w.le 0 ?_;refine cl0 D C (fun am _ _ y=>Zm4 am.fle y slA) fun b8 b9 C D=>⟨_,rfl,?_⟩;exact tZ
theorem Zvc {e p f v1 g c2 r} (D:ZfN e v1 c2=some r) (y:CellsC (hcell h) p [.int .i64 e.Prime,.int .i64 e.Degree,f]) (w:SlC (hcell h) eI f e.Poly) (x:SlC (hcell h) eI g v1):zL 190 #[.pointer (some p),g,.int .i64 c2] h ψ eI r:=by
 refine zv ⟨[(3,[(7,.v),(8,.i .i64)])],[],[],[]⟩ Tryz.func190 ?_;rw [ZfN] at D;have C:=sZ hψ;refine ZP (E:=eI) (css:=[]) (xs:=([]:List Int)) C (fun _=>rfl) rfl rfl fun v9 a0 C=>?_;obtain ⟨u,j⟩:=Zj D;refine ⟨fun n k v i=>∃ c:List Int,S ψ h i [.it oL [k] c]/\loopN (Zht e v1 c2) n (c,v)=some r,⟨u,_,pk C [0],j⟩,?_⟩;rintro n _ k v i ⟨c,C,j⟩;obtain ⟨m,a,rfl,D,I⟩:=Zi j;rw [Zht] at D;refine vL x C.le ?_;refine brQ D (fun D=>?_) fun D=>?_
 ·refine ixI slA D fun a1 D=>?_;refine cl0 D C (fun s _ _ l=>Zpu s.fle l slA slA) fun a2 a3 C D=>⟨_,rfl,?_⟩;obtain ⟨a4,o,D⟩:=obind D;refine ZO C 0 rfl (fun _=>⟨rfl,rfl⟩) rfl rfl o fun a5 a6 C=>?_;dsimp at C;obtain rfl:=oI D;exact ⟨m,ltS,_,pk C [0],I⟩
 ·obtain rfl:=oI D;obtain rfl:=oI I;exact ⟨k,rfl,pk C [0]⟩
theorem ZvR {e f c g r} (D:Zkn e g=some r) (k:CellsC (hcell h) f [.int .i64 e.Prime,.int .i64 e.Degree,c]) (i:SlC (hcell h) eI c e.Poly):zR 191 #[.pointer (some f),.int .i64 g] h ψ (.int .i64 r):=by
 refine zv ⟨[(2,[(5,.i .i64)])],[],[],[]⟩ Tryz.func191 ?_;rw [Zkn] at D;have C:=sZ hψ;refine lp1 D (nlS C) fun m p l a C D I=>?_;rw [Zj3] at D;refine cl0 D C (fun s _ _ j=>Zpu s.fle j slA slA) fun u o C D=>⟨_,rfl,?_⟩;exact brQ D (fun D=>tZ) fun D=>tZ
theorem Zt0 {e w f x y k3 r} (D:Zg7 e x y k3=some r) (c:CellsC (hcell h) w [.int .i64 e.Prime,.int .i64 e.Degree,f]) (a6:SlC (hcell h) eI f e.Poly):zR 230 #[.pointer (some w),.int .i64 x,.int .i64 y,.int .i64 k3] h ψ (.int .i64 r):=by
 refine zv ⟨[(4,[(11,.i .i64)])],[],[],[]⟩ Tryz.func230 ?_;rw [Zg7] at D;have C:=sZ hψ;refine kI c C.le 0 ?_;refine kI c C.le 1 ?_;refine cl1 D C (fun s _ _ hx=>Zg6 s.fle hx) fun a8 a0 a9 C D=>⟨_,rfl,?_⟩;refine kI c C.le 0 ?_;refine kI c C.le 1 ?_;refine cl1 D C (fun a2 _ _ k=>Zg6 a2.fle k) fun g a3 aa C D=>⟨_,rfl,?_⟩;obtain ⟨a4,l⟩:=Zj D;refine ⟨fun n i j=>∃ xs:List Int,S ψ h j [.it oL [a3] g,.it oL [a0] xs]/\loopN (Zf3 e k3 g) n (i,xs)=some r,⟨a4,_,pk C [0,1],l⟩,?_⟩;rintro n _ i j ⟨xs,C,l⟩;obtain ⟨m,a,rfl,D,I⟩:=Zi l;rw [Zf3] at D;refine Zn slA ?_;refine brQ D (fun D=>?_) fun D=>?_
 ·refine ixI slA D fun ab D=>?_;refine ixI slA D fun ac D=>?_;refine kI c C.le 0 ?_;obtain ⟨_,o,D⟩:=obind D;refine ⟨Zan o,?_⟩;refine ixA slA D fun ad ae p u D=>?_;refine st1_S C 1 rfl p u rfl (fun _=>⟨rfl,rfl⟩) fun af C=>?_;dsimp at C;obtain rfl:=oI D;exact ⟨m,ltS,_,pk C [0,1],I⟩
 ·refine kI c C.le 0 ?_;refine cl0 D C (fun a5 _ _ v=>Zm4 a5.fle v slA) fun ag ah C D=>⟨_,rfl,?_⟩;exact tZ
theorem ZF9 {g p0 i v1 j w2 v2 p r} (D:ZjJ g v1 w2 p=some r) (a4:CellsC (hcell h) p0 [.int .i64 g.Prime,.int .i64 g.Degree,i]) (a8:SlC (hcell h) eI i g.Poly) (f1:SlC (hcell h) eI j v1) (f2:SlC (hcell h) eI v2 w2):zL 192 #[.pointer (some p0),j,v2,.int .i64 p] h ψ eI r:=by
 refine zv ⟨[(3,[(9,.v),(10,.i .i64)])],[],[],[(5,⟨kdL [0,0,0,0,0,2,0,0,0,0,1,0,3,0,0,0,2,0,4,4,4,0],.fin [6,7,8,9,10,11,12,1,2,3,4,5,13,14,15,16,17,18,19,0,20,21],true⟩)]⟩ Tryz.func192 ?_;rw [ZjJ] at D;have C:=sZ hψ;refine ZP (E:=eI) (css:=[]) (xs:=([]:List Int)) C (fun _=>rfl) rfl rfl fun a9 aa C=>?_;obtain ⟨a6,u⟩:=Zj D;refine ⟨fun n v l k=>∃ c:List Int,S ψ h k [.it oL [v] c]/\loopN (Zhk g v1 w2 p) n (c,l)=some r,⟨a6,_,pk C [0],u⟩,?_⟩;rintro n _ v l k ⟨c,C,u⟩;obtain ⟨m,a,rfl,D,I⟩:=Zi u;rw [Zhk] at D;refine vL f1 C.le ?_;refine brQ D (fun D=>?_) fun D=>?_
 ·refine ⟨fun _=>False,?_⟩;have f:=C;have e:=eX k;refine ixI slA D fun ab D=>?_;obtain ⟨ac,w,D⟩:=obind D;obtain ⟨φ,L,s,o⟩:=id C;refine (Zpu s.fle w slA slA).mono fun ad ae ⟨eq,t⟩=>⟨_,eq,eZ (e.trans t.ext),?_⟩;replace e:=e.trans t.ext;replace C:=join0 s o t;clear t s o;refine ixA slA D fun af ag x y D=>?_;refine ZJ ?_;refine ldI_C (f1.mono f.le) x y ?_;refine ZJ ?_;refine kI a4 f.le 0 ?_;refine cl0 D C (fun a7 _ _ a0=>Zt0 a7.fle a0 slA slA) fun ah ai C D=>⟨_,rfl,?_⟩;obtain ⟨aj,a1,D⟩:=obind D;refine ZO C 0 rfl (fun _=>⟨rfl,rfl⟩) rfl rfl a1 fun ak al C=>?_;dsimp at C;obtain rfl:=oI D;exact ⟨m,ltS,_,pk C [0],I⟩
 ·obtain rfl:=oI D;obtain rfl:=oI I;exact ⟨v,rfl,pk C [0]⟩
theorem Zyn {i p0 x y1 v1 y2 r} (D:Zku i y1 y2=some r) (bz:CellsC (hcell h) p0 [.int .i64 i.Prime,.int .i64 i.Degree,x]) (bg:SlC (hcell h) eI x i.Poly) (f1:SlC (hcell h) eL v1 y1):CallsH P 147 #[.pointer (some p0),v1,.int .i64 y2] h (fun v h'=>∃ w0:Value,∃ w1:Value,v=.tuple #[w0,w1]/\S ψ h h' [.it (El.ow eL) [w0] r.1,.it oL [w1] r.2]):=by
 refine zv ⟨[(4,[(9,.v),(10,.i .i64)]),(8,[(12,.i .i64)]),(15,[(14,.i .i64)])],[(6,[]),(10,[(12,.i .i64)])],[],[(11,⟨kdL [0,0,0,0,2,0,0,0,0,1,0,0,1,3,4,0],.fin [5,6,7,8,9,10,11,12,13,0,1,2,3,4,14,15],true⟩),(18,⟨[],.fin [2,3,4,5,6,7,8,9,10,11,12,13,14,15,0,1,16,17],false⟩)]⟩ Tryz.func147 ?_;rw [Zku] at D;have C:=sZ hψ;refine cl1 D C (fun s _ _ hx=>Zoh s.fle hx slA) fun c0 c c3 C D=>⟨_,rfl,?_⟩;refine ZP (E:=eI) (css:=[]) (xs:=([]:List Int)) C (fun _=>rfl) rfl rfl fun c4 c5 C=>?_;obtain ⟨b5,hn⟩:=Zj D;refine ⟨fun n j k ab=>∃ e:List Int,∃ xs:List (List Int),S ψ h ab [.it oL [j] e,.it (El.ow eL) [c] xs]/\loopN (ZcM i y2) n (e,k,xs)=some r,⟨b5,_,_,pk C [0,1],hn⟩,?_⟩;rintro n _ j k ab ⟨e,xs,C,hn⟩;obtain ⟨m,a,rfl,D,I⟩:=Zi hn;rw [ZcM] at D;refine ⟨fun ac=>S ψ h ac [.it oL [j] e,.it (El.ow eL) [c] xs]/\Zhw i e k xs=some a,?_,?_⟩
 ·refine brQ D (fun D=>?_) fun D=>?_
  ·refine Zn slA ?_;refine Zn slA ?_;refine brQ D (fun D=>?_) fun D=>?_
   ·exact ⟨pk C [0,1],D⟩
   ·obtain rfl:=oI D;obtain rfl:=oI I;exact ⟨c,j,rfl,pk C [1,0]⟩
  ·obtain rfl:=oI D;obtain rfl:=oI I;exact ⟨c,j,rfl,pk C [1,0]⟩
 ·rintro _ ac ⟨C,D⟩;rw [Zhw] at D;refine Zn slA ?_;refine ⟨fun ae y=>S ψ h y [.it oL [j] e,.it (El.ow eL) [c] xs]/\ZaG i e k xs ae=some a,?_,?_⟩
  ·refine lp1 (os:=[.it oL [j] e,.it (El.ow eL) [c] xs]) D (pk C [0,1]) fun b6 bf bi c6 C D l=>?_;rw [Zcr] at D;refine Zn slA ?_;refine brQ D (fun D=>?_) fun D=>?_
   ·refine ixA slA D fun c7 c8 a2 a3 D=>?_;refine ZaT C 1 rfl a2 a3 fun c9 C=>?_;refine ixI slA D fun ca D=>?_;refine brQ D (fun D=>?_) fun D=>?_
    ·obtain rfl:=oI D;exact ⟨b6,ltS,pk C [1,2],l⟩
    ·obtain ⟨xm,hq,rfl⟩:=omap D;obtain rfl:=oI l;exact ⟨pk C [1,2],hq⟩
   ·obtain ⟨xm,hq,rfl⟩:=omap D;obtain rfl:=oI l;exact ⟨pk C [0,1],hq⟩
  ·rintro _ ae y ⟨C,D⟩;rw [ZaG] at D;refine Zn slA ?_;refine brQ D (fun D=>?_) fun D=>?_
   ·obtain rfl:=oI D;exact ⟨m,ltS,_,_,pk C [0,1],I⟩
   ·refine ⟨fun _=>False,?_⟩;have a4:=C;have g:=eX y;refine ixA slA D fun b7 cb ad an D=>?_;refine ZaT C 1 rfl ad an fun b8 C=>?_;refine ixI slA D fun cc D=>?_;obtain ⟨cd,ao,D⟩:=obind D;obtain ⟨bm,ce,a0,af⟩:=id C;refine (ZvR a0.fle ao slA slA).mono fun cf cg ⟨ap,w⟩=>⟨_,ap,eZ (g.trans w.ext),?_⟩;replace g:=g.trans w.ext;replace C:=join0 a0 af w;clear w a0 af;refine ixA slA D fun ch cj aq ar D=>?_;refine ZN ?_;refine ldV_C (a4.rdL 1 rfl (ZZ _)) (CLe.refl _) aq ar fun ck f=>?_;refine cl1 D C (fun b9 _ _ au=>Zvc b9.fle au slA slA (f.mono (CLe.ext g))) fun ag ba cm C D=>⟨_,rfl,?_⟩;refine ixA slA D fun bb cn av aw D=>?_;refine ZaT C 3 rfl av aw fun bc C=>?_;refine ixA slA D fun co cp ax ay D=>?_;have C:=C.copyF 0 rfl;refine Zgy C 4 rfl ax ay rfl fun cq C=>?_;dsimp at C;refine ixA slA D fun cr ct az b0 D=>?_;have C:=C.freeze 1 rfl (Zk (Zh _));dsimp at C;have C:=C.copyF 1 rfl;refine Zgy C 4 rfl az b0 rfl fun bn C=>?_;dsimp at C;obtain ⟨bd,o⟩:=Zj D;refine ⟨fun ah ai a1=>∃ p:List (List Int),S ψ h a1 [.it eL [bc] bb,.it eL [ba] ag,.it eL [b8] b7,.it oL [j] e,.it (El.ow eL) [c] p]/\loopN (Ze4 i e k ag) ah (ai,p)=some a,⟨bd,_,pk C [0,1,2,3,4],o⟩,?_⟩;rintro ah _ ai a1 ⟨p,C,o⟩;obtain ⟨aj,cu,rfl,D,u⟩:=Zi o;rw [Ze4] at D;refine Zn slA ?_;refine brQ D (fun D=>?_) fun D=>?_
    ·refine brQ D (fun D=>?_) fun D=>?_
     ·refine ixA slA D fun cv cx b1 a5 D=>?_;refine ZaT C 4 rfl b1 a5 fun cy C=>?_;refine ixA slA D fun cz d0 b2 a6 D=>?_;refine ZaT C 5 rfl b2 a6 fun d1 C=>?_;refine ixI slA D fun bo D=>?_;refine cl1 D C (fun be _ _ a7=>ZF9 be.fle a7 slA slA slA slA) fun bp bq br C D=>⟨_,rfl,?_⟩;refine ixA slA D fun bs bt a8 a9 D=>?_;have C:=C.freeze 0 rfl (Zk (Zh _));dsimp at C;have C:=C.copyF 0 rfl;refine Zgy C 7 rfl a8 a9 rfl fun bu C=>?_;dsimp at C;obtain rfl:=oI D;exact ⟨aj,ltS,_,pk C [3,4,5,6,7],u⟩
     ·obtain rfl:=oI D;exact ⟨aj,ltS,_,pk C [0,1,2,3,4],u⟩
    ·obtain ⟨bv,aa,D⟩:=obind D;refine ZO C 3 rfl (fun _=>⟨rfl,rfl⟩) rfl rfl aa fun bw bx C=>?_;dsimp at C;obtain rfl:=oI D;obtain rfl:=oI u;exact ⟨m,ltS,_,_,pk C [3,4],I⟩
theorem ZA4 {c i a j v1 r} (D:Zgx c j=some r) (v:CellsC (hcell h) i [.int .i64 c.Prime,.int .i64 c.Degree,a]) (p:SlC (hcell h) eI a c.Poly) (u:SlC (hcell h) eL v1 j):zL 106 #[.pointer (some i),v1] h ψ eL r:=by
 refine zv ⟨[],[],[],[]⟩ Tryz.func106 ?_;rw [Zgx] at D;have C:=sZ hψ;refine ixV u C.le D fun w x f D=>?_;refine vL f C.le ?_;refine cl2 D C (fun s _ _ e=>Zyn s.fle e slA slA slA) fun k y o a0 C D=>⟨_,_,rfl,?_⟩;refine Zn slA ?_;obtain ⟨a1,g,D⟩:=obind D;refine cut_S none (some (k.2.length:Int)) C 0 rfl g rfl fun l C=>?_;dsimp at C;obtain rfl:=oI D;exact ⟨l,rfl,pk C [0]⟩
theorem Zv8 {j p0 k l r} (D:ZaH j=some r) (a:CellsC (hcell h) p0 [.int .i64 j.Field.Prime,.int .i64 j.Field.Degree,k,l]) (a9:SlC (hcell h) eI k j.Field.Poly) (c:SlC (hcell h) eL l j.Rows):zR 57 #[.pointer (some p0)] h ψ (.bool r):=by
 refine zv ⟨[],[(3,[])],[],[(3,⟨kdL [0,0,0,3,0,0,0,2,0,4,0],.fin [0,1,2,3,4,5,6,7,8,9,10],true⟩),(5,⟨kdL [0,0,0,0,0,0,1,3,0,0,0,2,4,0],.fin [0,1,2,3,4,5,6,7,8,9,10,11,12,13],true⟩)]⟩ Tryz.func57 ?_;rw [ZaH] at D;have C:=sZ hψ;refine ⟨fun o=>S ψ h o []/\Zdm j=some r,?_,?_⟩
 ·refine kV a C.le 3 ?_;refine cl0 D C (fun a5 _ _ y=>Zvi a5.fle y (CellsC.part 0 3 slA) slA slA) fun ac ad C D=>⟨_,rfl,?_⟩;refine brQ D (fun D=>tZ) fun D=>?_;refine kV a C.le 3 ?_;refine ixV c C.le D fun ae af f D=>?_;refine vL f C.le ?_;refine brQ D (fun D=>tZ) fun D=>?_;refine kV a C.le 3 ?_;refine vL c C.le ?_;exact brQ D (fun D=>tZ) fun D=>tZ
 ·rintro _ o ⟨C,D⟩;rw [Zdm] at D;refine ⟨fun _=>False,?_⟩;have u:=C;have e:=eX o;obtain ⟨ag,hx,D⟩:=obind D;obtain ⟨φ,L,s,w⟩:=id C;refine (Zli s.fle hx (CellsC.part 0 3 slA) slA).mono fun ah ai ⟨eq,t⟩=>⟨_,eq,eZ (e.trans t.ext),?_⟩;replace e:=e.trans t.ext;replace C:=join0 s w t;clear t s w;refine ZN ?_;refine kV a u.le 3 ?_;refine vL c C.le ?_;refine cl0 D C (fun a6 _ _ a0=>Zw6 a6.fle a0) fun aj a7 C D=>⟨_,rfl,?_⟩;refine brQ D (fun D=>tZ) fun D=>?_;refine ⟨fun _=>False,?_⟩;have v:=C;have g:=eX a7;refine kV a C.le 3 ?_;obtain ⟨ak,a1,D⟩:=obind D;obtain ⟨ab,al,p,x⟩:=id C;refine (ZA4 p.fle a1 (CellsC.part 0 3 slA) slA slA).mono fun am an ⟨ao,a2,i⟩=>⟨_,a2,eZ (g.trans i.ext),?_⟩;replace g:=g.trans i.ext;replace C:=join1 p x i;clear i p x;refine ZN ?_;refine kV a v.le 3 ?_;refine cl0 D C (fun a8 _ _ a3=>Zp0 a8.fle a3 slA slA) fun ap aq C D=>⟨_,rfl,?_⟩;exact tZ
theorem ZGQ {c v0 r} (D:Zjc c=some r) (f:SlC (hcell h) eI v0 c):zR 148 #[v0] h ψ (.bool r):=by
 refine zv ⟨[(4,[(3,.i .i64)])],[],[],[]⟩ Tryz.func148 ?_;rw [Zjc] at D;have C:=sZ hψ;refine vL f C.le ?_;refine brQ D (fun D=>tZ) fun D=>?_;refine lp1 D (nlS C) fun m l g a C D I=>?_;rw [Zja] at D;refine vL f C.le ?_;refine brR D (fun D=>tZ) fun D=>?_;refine ixI slA D fun i D=>?_;refine cl0 D C (fun s _ _ e=>Zau s.fle e) fun j k C D=>⟨_,rfl,?_⟩;exact brQ D (fun D=>tZ) fun D=>tZ
theorem ZxO {a c r} (D:ZiE a c=some r)  :zR 149 #[.agg #[.int .i64 a.A,.int .i64 a.B],.agg #[.int .i64 c.A,.int .i64 c.B]] h ψ (.bool r):=by
 refine zv ⟨[],[],[],[]⟩ Tryz.func149 ?_;rw [ZiE] at D;have C:=sZ hψ;refine new_S C fun g e C=>?_;refine new_S C fun i f C=>?_;refine bI C 1 0 ?_;refine bI C 0 0 ?_;refine brQ D (fun D=>tZ) fun D=>?_;refine bI C 1 0 ?_;refine bI C 0 0 ?_;refine brR D (fun D=>tZ) fun D=>?_;refine bI C 1 1 ?_;refine bI C 0 1 ?_;exact tZ
theorem ZqU {i c e r} (D:Zgd i=some r) (k:SlC (hcell h) eI c i.Colors) (f:SlC (hcell h) Zf e i.Edges):zR 107 #[.agg #[c,e]] h ψ (.bool r):=by
 refine zv ⟨[(5,[(4,.i .i64)])],[(3,[])],[],[]⟩ Tryz.func107 ?_;rw [Zgd] at D;have C:=sZ hψ;refine new_S C fun y a9 C=>?_;refine ⟨fun j=>S ψ h j [.box y [c,e]]/\ZlU i=some r,?_,?_⟩
 ·refine bV C 0 0 ?_;refine cl0 D C (fun a0 _ _ l=>ZGQ a0.fle l slA) fun r8 a4 C D=>⟨_,rfl,?_⟩;refine brQ D (fun D=>tZ) fun D=>?_;refine bV C 0 1 ?_;refine vL f C.le ?_;refine brQ D (fun D=>tZ) fun D=>?_;exact ⟨pk C [0],D⟩
 ·rintro _ j ⟨C,D⟩;rw [ZlU] at D;refine bV C 0 0 ?_;refine vL k C.le ?_;refine lp1 (os:=[.box y [c,e]]) D (pk C [0]) fun m i4 aa a C D I=>?_;rw [Zdg] at D;refine bV C 0 1 ?_;refine vL f C.le ?_;refine brR D (fun D=>tZ) fun D=>?_;refine bV C 0 1 ?_;refine ixA slA D fun ab ac ad hx D=>?_;obtain ⟨cs,ck,hr⟩:=f.cells ad hx rfl;obtain rfl:=ZaA hr;refine kI ck C.le 0 ?_;refine kI ck C.le 1 ?_;refine new_S C fun b5 ae C=>?_;refine boxA fun af C=>?_;refine boxA fun ag C=>?_;refine bI C 0 0 ?_;refine cl0 D C (fun s _ _ o=>Zau s.fle o) fun ah ai C D=>⟨_,rfl,?_⟩;refine brQ D (fun D=>tZ) fun D=>?_;refine bI C 0 1 ?_;refine bI C 0 0 ?_;refine cl0 D C (fun a2 _ _ p=>Zau a2.fle p) fun aj ak C D=>⟨_,rfl,?_⟩;refine brQ D (fun D=>tZ) fun D=>?_;refine brQ D (fun D=>?_) fun D=>?_
  ·refine bV C 1 1 ?_;refine ixA slA D fun al am u v D=>?_;obtain ⟨a7,g,w⟩:=f.cells u v rfl;obtain rfl:=ZaA w;refine kI g C.le 0 ?_;refine kI g C.le 1 ?_;refine bI C 0 0 ?_;refine bI C 0 1 ?_;refine cl0 D C (fun a3 _ _ x=>ZxO a3.fle x) fun an a8 C D=>⟨_,rfl,?_⟩;refine brQ D (fun D=>tZ) fun D=>?_;obtain rfl:=oI D;exact ⟨m,ltS,pk C [1],I⟩
  ·obtain rfl:=oI D;exact ⟨m,ltS,pk C [1],I⟩
theorem Zum {p p0 u r} (D:ZgO p=some r) (c:CellsC (hcell h) p0 [.int .i64 p.Kind,.int .i64 p.Size,u]) (e:SlC (hcell h) eL u p.Rows):CallsH P 58 #[.pointer (some p0)] h (fun v h'=>∃ w0:Value,∃ w1:Value,v=.tuple #[.agg #[w0,w1],.bool r.2]/\S ψ h h' [.it oL [w0] r.1.Colors,.it (El.ow Zf) [w1] r.1.Edges]):=by
 refine zv ⟨[(5,[(5,.i .i64)])],[],[],[(9,⟨kdL [0,2,0,0,0,1,0,0,1,0,1,0,0,0,1,0,0,1,0,1,0,3,4,0,4],.fin [2,3,4,5,6,7,8,9,10,11,12,13,14,15,16,17,18,19,20,21,0,1,22,23,24],true⟩),(10,⟨kdL [2,1,3,4,0],.fin [1,2,0,3,4],true⟩)]⟩ Tryz.func58 ?_;rw [ZgO] at D;have C:=sZ hψ;refine new_S C fun b2 ao C=>?_;refine kI c C.le 1 ?_;refine cl0 D C (fun s _ _ hx=>Zau s.fle hx) fun ap aq C D=>⟨_,rfl,?_⟩;refine brQ D (fun D=>?_) fun D=>?_
 ·refine boxA fun ar C=>?_;refine boxA fun au C=>?_;refine bV C 0 0 ?_;refine bV C 0 1 ?_;have C:=C.nilO (E:=eI);have C:=C.nilO (E:=Zf);obtain rfl:=oI D;exact ⟨(.slice none 0 0),(.slice none 0 0),rfl,pk C [1,0]⟩
 ·refine kI c C.le 1 ?_;obtain ⟨a0,a2,D⟩:=obind D;refine Zaj (E:=eI) C rfl a2 fun w av C=>?_;refine ZH oneA ?_;refine new_S C fun b4 aw C=>?_;refine boxA fun ax C=>?_;refine boxA fun ay C=>?_;have C:=C.nilO (E:=Zf);obtain ⟨a8,hn⟩:=Zj D;refine ⟨fun n y5 g=>∃ xs:List Zb,∃ l:Value,S ψ h g [.box b4 [w,l],.it oL [w] a0,.box b2 [(.slice none 0 0),(.slice none 0 0)],.it (El.ow Zf) [l] xs]/\loopN (Zfd p a0) n (y5,xs)=some r,⟨a8,_,_,pk C [1,2,3,0],hn⟩,?_⟩;rintro n _ y5 g ⟨xs,l,C,hn⟩;obtain ⟨m,a,rfl,D,I⟩:=Zi hn;rw [Zfd] at D;refine kV c C.le 2 ?_;refine vL e C.le ?_;refine brQ D (fun D=>?_) fun D=>?_
  ·refine kV c C.le 2 ?_;refine ixV e C.le D fun az b0 f D=>?_;refine vL f C.le ?_;refine brQ D (fun D=>?_) fun D=>?_
   ·refine boxA fun af C=>?_;refine boxA fun ag C=>?_;refine bV C 2 0 ?_;refine bV C 2 1 ?_;have C:=C.nilO (E:=eI);have C:=C.nilO (E:=Zf);obtain rfl:=oI D;obtain rfl:=oI I;exact ⟨(.slice none 0 0),(.slice none 0 0),rfl,pk C [1,0]⟩
   ·refine ⟨fun _=>False,?_⟩;have y:=C;have k:=eX g;refine kV c C.le 2 ?_;refine ixV e C.le D fun b1 b3 b5 D=>?_;refine ixI slA D fun aa D=>?_;refine kV c C.le 2 ?_;refine ixV e C.le D fun b6 b7 b8 D=>?_;refine ixI slA D fun ab D=>?_;refine ZgM C fun b9 ah xE C=>⟨eZ (k.trans xE),?_⟩;replace k:=k.trans xE;refine ZN ?_;refine ldV_K (y.cells 0 rfl) 1 rfl rfl ?_;obtain ⟨ba,a4,D⟩:=obind D;refine Zmi C 4 rfl 0 rfl (fun _=>⟨[.int .i64 aa],[.int .i64 ab],[],[],rfl,rfl,⟨rfl,rfl⟩,⟨rfl,rfl⟩⟩) rfl rfl a4 fun bb ai xE C=>?_;refine boxA fun aj C=>?_;obtain rfl:=oI D;exact ⟨m,ltS,_,_,pk C [1,2,3,4],I⟩
  ·refine ⟨fun _=>False,?_⟩;have j:=C;have i:=eX g;refine bV C 0 0 ?_;refine bV C 0 1 ?_;obtain ⟨bc,a5,D⟩:=obind D;obtain ⟨ak,bd,x,a1⟩:=id C;refine (ZqU x.fle a5 slA slA).mono fun be al ⟨a6,o⟩=>⟨_,a6,eZ (i.trans o.ext),?_⟩;replace i:=i.trans o.ext;replace C:=join0 x a1 o;clear o x a1;refine ZN ?_;refine ldV_K (j.cells 0 rfl) 0 rfl rfl ?_;refine ZN ?_;refine ldV_K (j.cells 0 rfl) 1 rfl rfl ?_;refine boxA fun am C=>?_;refine boxA fun an C=>?_;refine bV C 2 0 ?_;refine bV C 2 1 ?_;obtain rfl:=oI D;obtain rfl:=oI I;exact ⟨w,l,rfl,pk C [1,3]⟩
theorem ZtI {c v0 p1 v1 r} (D:ZeN c p1=some r) (g:SlC (hcell h) eL v0 c) (w:SlC (hcell h) eI v1 p1):zR 151 #[v0,v1] h ψ (.tuple #[.int .i64 r.1,.bool r.2]):=by
 refine zv ⟨[(3,[(6,.i .i64),(7,.i .i64)])],[],[],[]⟩ Tryz.func151 ?_;rw [ZeN] at D;have C:=sZ hψ;refine vL g C.le ?_;refine lp2 D (nlS C) fun m j i l a C D I=>?_;rw [Zbj] at D;refine brR D (fun D=>tZ) fun D=>?_;obtain ⟨_,k,D⟩:=obind D;refine ⟨Zan k,?_⟩;refine ixV g C.le D fun o p f D=>?_;refine cl0 D C (fun s _ _ e=>ZeR s.fle e slA slA) fun u v C D=>⟨_,rfl,?_⟩;refine brQ D (fun D=>tZ) fun D=>?_;exact brQ D (fun D=>tZ) fun D=>tZ
theorem Zzd {n0 r} (D:Zki n0=some r)  :zL 193 #[.int .i64 n0] h ψ eI r:=by
 refine zv ⟨[(3,[(3,.v),(4,.i .i64)])],[],[],[]⟩ Tryz.func193 ?_;rw [Zki] at D;have C:=sZ hψ;refine ZP (E:=eI) (css:=[]) (xs:=([]:List Int)) C (fun _=>rfl) rfl rfl fun u l C=>?_;obtain ⟨i,f⟩:=Zj D;refine ⟨fun n g j e=>∃ c:List Int,S ψ h e [.it oL [g] c]/\loopN (ZgE n0) n (c,j)=some r,⟨i,_,pk C [0],f⟩,?_⟩;rintro n _ g j e ⟨c,C,f⟩;obtain ⟨m,a,rfl,D,I⟩:=Zi f;rw [ZgE] at D;refine brQ D (fun D=>?_) fun D=>?_
 ·obtain ⟨o,k,D⟩:=obind D;refine ZO C 0 rfl (fun _=>⟨rfl,rfl⟩) rfl rfl k fun p s C=>?_;dsimp at C;obtain rfl:=oI D;exact ⟨m,ltS,_,pk C [0],I⟩
 ·obtain rfl:=oI D;obtain rfl:=oI I;exact ⟨g,rfl,pk C [0]⟩
theorem ZFg {f v0 g v1 r} (D:Zjg f g=some r) (p:SlC (hcell h) eI v0 f) (f1:SlC (hcell h) eI v1 g):zL 194 #[v0,v1] h ψ eI r:=by
 refine zv ⟨[(3,[(5,.v),(6,.i .i64)])],[],[],[]⟩ Tryz.func194 ?_;rw [Zjg] at D;have C:=sZ hψ;refine ZP (E:=eI) (css:=[]) (xs:=([]:List Int)) C (fun _=>rfl) rfl rfl fun v7 s C=>?_;obtain ⟨l,i⟩:=Zj D;refine ⟨fun n j o e=>∃ c:List Int,S ψ h e [.it oL [j] c]/\loopN (ZgK f g) n (c,o)=some r,⟨l,_,pk C [0],i⟩,?_⟩;rintro n _ j o e ⟨c,C,i⟩;obtain ⟨m,a,rfl,D,I⟩:=Zi i;rw [ZgK] at D;refine vL p C.le ?_;refine brQ D (fun D=>?_) fun D=>?_
 ·refine ixI slA D fun u D=>?_;refine ixI slA D fun v D=>?_;obtain ⟨w,k,D⟩:=obind D;refine ZO C 0 rfl (fun _=>⟨rfl,rfl⟩) rfl rfl k fun x y C=>?_;dsimp at C;obtain rfl:=oI D;exact ⟨m,ltS,_,pk C [0],I⟩
 ·obtain rfl:=oI D;obtain rfl:=oI I;exact ⟨j,rfl,pk C [0]⟩
theorem ZE4 {a v0 c p2 k r} (D:ZjK a c p2=some r) (l:SlC ψ eL v0 a) (o:SlC ψ eI k p2):zL 195 #[v0,.int .i64 c,k] h ψ eL r:=by
 refine zv ⟨[],[],[],[]⟩ Tryz.func195 ?_;rw [ZjK] at D;have C:=sZ hψ;refine ZP (E:=eL) (css:=[]) (xs:=([]:List (List Int))) C (fun _=>rfl) rfl rfl fun v8 v C=>?_;obtain ⟨w,u,D⟩:=obind D;refine ZdS none (some c) l u rfl fun x f=>?_;have C:=C.arg f;obtain ⟨y,e,D⟩:=obind D;refine app_S C 1 rfl (Zm3 0 rfl) rfl rfl e fun a0 a1 C=>?_;dsimp at C;refine ZH (o.mono C.leF).one ?_;have C:=C.arg o;obtain ⟨a2,g,D⟩:=obind D;refine Zar C 1 rfl rfl rfl g fun a3 a4 C=>?_;dsimp at C;obtain ⟨a5,i,D⟩:=obind D;refine ZdS (some c) none l i rfl fun a6 p=>?_;have C:=C.arg p;obtain ⟨a7,j,D⟩:=obind D;refine app_S C 2 rfl (Zm3 0 rfl) rfl rfl j fun s a8 C=>?_;dsimp at C;obtain rfl:=oI D;exact ⟨s,rfl,pk C [2]⟩
theorem ZsC {degree0 genera1 v1 g r} (D:Zdt degree0 genera1 g=some r) (f1:SlC (hcell h) eL v1 genera1):CallsH P 150 #[.int .i64 degree0,v1,.int .i64 g] h (fun v h'=>∃ w0:Value,v=.tuple #[w0,.bool r.2]/\S ψ h h' [.it (El.ow eL) [w0] r.1]):=by
 refine zv ⟨[(5,[(9,.v),(10,.v),(11,.i .i64)]),(8,[(9,.v),(10,.v),(12,.i .i64)])],[],[],[]⟩ Tryz.func150 ?_;rw [Zdt] at D;have C:=sZ hψ;refine cl1 D C (fun s _ _ hx=>Zzd s.fle hx) fun u w am C D=>⟨_,rfl,?_⟩;refine ZH oneA ?_;have C:=C.freeze 0 rfl (Zk (Zh _));dsimp at C;have C:=C.copyF 0 rfl;refine Zla C fun an ao C=>?_;refine ZH oneA ?_;have C:=C.copyF 1 rfl;refine Zla C fun ap aq C=>?_;obtain ⟨ae,hn⟩:=Zj D;refine ⟨fun n v9 x o y=>∃ i:List (List Int),∃ a5:List (List Int),S ψ h y [.it (El.ow eL) [x] a5,.it (El.ow eL) [v9] i,.it eL [w] u]/\loopN (Zct genera1 g) n (i,a5,o)=some r,⟨ae,_,_,pk C [0,1,2],hn⟩,?_⟩;rintro n _ v9 x o y ⟨i,a5,C,hn⟩;obtain ⟨m,a,rfl,D,I⟩:=Zi hn;rw [Zct] at D;refine Zn slA ?_;refine brQ D (fun D=>?_) fun D=>?_
 ·obtain ⟨af,k⟩:=Zj D;refine ⟨fun a0 p l a1 a2=>∃ e:List (List Int),∃ c:List (List Int),S ψ h a2 [.it (El.ow eL) [l] c,.it (El.ow eL) [p] e,.it eL [w] u]/\loopN (ZaY genera1 g o) a0 (e,c,a1)=some a,⟨af,_,_,pk C [0,1,2],k⟩,?_⟩;rintro a0 _ p l a1 a2 ⟨e,c,C,k⟩;obtain ⟨a3,ar,rfl,D,j⟩:=Zi k;rw [ZaY] at D;refine vL f1 C.le ?_;refine brQ D (fun D=>?_) fun D=>?_
  ·refine ixA slA D fun au av ad a7 D=>?_;refine ZaT C 0 rfl ad a7 fun aw C=>?_;refine ixV f1 C.le D fun ax ay f D=>?_;refine cl1 D C (fun ag _ _ a8=>ZFg ag.fle a8 slA slA) fun az b0 b1 C D=>⟨_,rfl,?_⟩;refine cl0 D C (fun ah _ _ a9=>ZtI ah.fle a9 slA slA) fun b2 b3 C D=>⟨_,_,rfl,?_⟩;refine brQ D (fun D=>?_) fun D=>?_
   ·obtain rfl:=oI D;exact ⟨a3,ltS,_,_,pk C [2,3,4],j⟩
   ·refine Zn slA ?_;refine brQ D (fun D=>?_) fun D=>?_
    ·have C:=C.nilO (E:=eL);obtain rfl:=oI D;obtain rfl:=oI j;obtain rfl:=oI I;exact ⟨(.slice none 0 0),rfl,pk C [0]⟩
    ·have C:=C.freeze 3 rfl (Zk (ZZ _));dsimp at C;have C:=C.freeze 0 rfl (Zk (Zh _));dsimp at C;refine cl1 D C (fun ai a4 _ aa=>ZE4 ai.fle aa (frF a4 3 rfl) (frF a4 0 rfl)) fun b4 b5 b6 C D=>⟨_,rfl,?_⟩;refine ZH oneA ?_;have C:=C.copyF 1 rfl;obtain ⟨b7,ab,D⟩:=obind D;refine Zar C 3 rfl rfl rfl ab fun b8 al C=>?_;dsimp at C;obtain rfl:=oI D;exact ⟨a3,ltS,_,_,pk C [3,0,5],j⟩
  ·obtain rfl:=oI D;obtain rfl:=oI j;exact ⟨m,ltS,_,_,pk C [0,1,2],I⟩
 ·obtain rfl:=oI D;obtain rfl:=oI I;exact ⟨v9,rfl,pk C [1]⟩
theorem ZvC {degree0 c v1 r} (D:ZjM degree0 c=some r) (i:SlC (hcell h) eL v1 c):CallsH P 108 #[.int .i64 degree0,v1] h (fun v h'=>∃ w0:Value,v=.tuple #[w0,.bool r.2]/\S ψ h h' [.it (El.ow eL) [w0] r.1]):=by
 refine zv ⟨[(4,[(6,.v),(7,.v),(9,.i .i64)])],[],[],[]⟩ Tryz.func108 ?_;rw [ZjM] at D;have C:=sZ hψ;refine ZP (E:=eL) (css:=[]) (xs:=([]:List (List Int))) C (fun _=>rfl) rfl rfl fun a7 a8 C=>?_;refine cl1 D C (fun s _ _ hx=>ZsC s.fle hx slA) fun a9 aa ab C D=>⟨_,_,rfl,?_⟩;obtain ⟨y,k⟩:=Zj D;refine ⟨fun n l v7 i9 j=>∃ g:List (List Int),∃ e:List (List Int),S ψ h j [.it (El.ow eL) [v7] e,.it (El.ow eL) [l] g]/\loopN (ZbZ degree0 c) n (g,e,i9)=some r,⟨y,_,_,pk C [0,1],k⟩,?_⟩;rintro n _ l v7 i9 j ⟨g,e,C,k⟩;obtain ⟨m,a,rfl,D,I⟩:=Zi k;rw [ZbZ] at D;refine vL i C.le ?_;refine brQ D (fun D=>?_) fun D=>?_
 ·refine ixV i C.le D fun ac ad f D=>?_;refine cl0 D C (fun a2 _ _ o=>ZtI a2.fle o slA slA) fun ae af C D=>⟨_,_,rfl,?_⟩;refine brQ D (fun D=>?_) fun D=>?_
  ·obtain rfl:=oI D;exact ⟨m,ltS,_,_,pk C [0,1],I⟩
  ·refine ixV i C.le D fun ag ah ai D=>?_;refine cl1 D C (fun a3 _ _ p=>ZiD a3.fle p slA) fun aj ak al C D=>⟨_,rfl,?_⟩;refine ZH oneA ?_;have C:=C.freeze 0 rfl (Zk (Zh _));dsimp at C;have C:=C.copyF 0 rfl;obtain ⟨am,u,D⟩:=obind D;refine Zar C 2 rfl rfl rfl u fun an ao C=>?_;dsimp at C;refine vL i C.le ?_;refine cl1 D C (fun a4 _ _ w=>ZsC a4.fle w slA) fun ap aq ar C D=>⟨_,_,rfl,?_⟩;refine brQ D (fun D=>?_) fun D=>?_
   ·have C:=C.nilO (E:=eL);obtain rfl:=oI D;obtain rfl:=oI I;exact ⟨(.slice none 0 0),rfl,pk C [0]⟩
   ·obtain rfl:=oI D;exact ⟨m,ltS,_,_,pk C [0,3],I⟩
 ·refine cl0 D C (fun a5 _ _ x=>Zp0 a5.fle x slA slA) fun au av C D=>⟨_,rfl,?_⟩;obtain rfl:=oI D;obtain rfl:=oI I;exact ⟨l,rfl,pk C [1]⟩
theorem ZDf {i u g r} (D:Ziq i=some r) (c:CellsC (hcell h) u [.int .i64 i.Degree,g]) (e:SlC (hcell h) eL g i.Elements):zR 59 #[.pointer (some u)] h ψ (.bool r):=by
 refine zv ⟨[(4,[(3,.i .i64)])],[(3,[])],[],[]⟩ Tryz.func59 ?_;rw [Ziq] at D;have C:=sZ hψ;refine ⟨fun j=>S ψ h j []/\Zl5 i=some r,?_,?_⟩
 ·refine kI c C.le 0 ?_;refine cl0 D C (fun v _ _ k=>Zau v.fle k) fun a0 a1 C D=>⟨_,rfl,?_⟩;refine brQ D (fun D=>tZ) fun D=>?_;refine kV c C.le 1 ?_;refine vL e C.le ?_;refine brQ D (fun D=>tZ) fun D=>?_;refine kV c C.le 1 ?_;refine vL e C.le ?_;exact brQ D (fun D=>tZ) fun D=>tZ
 ·rintro _ j ⟨C,D⟩;rw [Zl5] at D;refine lp1 D (nlS C) fun m y3 a2 a C D I=>?_;rw [ZcN] at D;refine kV c C.le 1 ?_;refine vL e C.le ?_;refine brQ D (fun D=>?_) fun D=>?_
  ·refine kV c C.le 1 ?_;refine ixV e C.le D fun a3 a4 f D=>?_;refine cl0 D C (fun s _ _ l=>ZpA s.fle l slA) fun a5 a6 C D=>⟨_,rfl,?_⟩;refine brQ D (fun D=>tZ) fun D=>?_;refine kV c C.le 1 ?_;refine ixV e C.le D fun a7 a8 w D=>?_;refine vL w C.le ?_;refine kI c C.le 0 ?_;refine brQ D (fun D=>tZ) fun D=>?_;refine brR D (fun D=>tZ) fun D=>?_;refine kV c C.le 1 ?_;refine ixV e C.le D fun a9 aa ab D=>?_;refine kV c C.le 1 ?_;refine ixV e C.le D fun ac ad ae D=>?_;refine cl0 D C (fun x _ _ o=>ZeR x.fle o slA slA) fun af ag C D=>⟨_,rfl,?_⟩;exact brQ D (fun D=>tZ) fun D=>tZ
  ·refine kI c C.le 0 ?_;refine kV c C.le 1 ?_;refine cl1 D C (fun y _ _ p=>ZvC y.fle p slA) fun ah ai aj C D=>⟨_,_,rfl,?_⟩;exact tZ
theorem ZoB {f x e r} (D:Zas f=some r) (c:CellsC (hcell h) x [.int .i64 f.Kind,.int .i64 f.Size,e]) (a:SlC ψ eL e f.Rows):zR 24 #[.pointer (some x)] h ψ (.bool r):=by
 refine zv ⟨[],[],[],[]⟩ Tryz.func24 ?_;rw [Zas] at D;have C:=sZ hψ;refine kI c C.le 0 ?_;refine brQ D (fun D=>?_) fun D=>?_
 ·refine kV c C.le 2 ?_;refine cl0 D C (fun s _ _ hx=>ZpY s.fle hx (a.mono C.leF)) fun ao ap C D=>⟨_,rfl,?_⟩;refine brR D (fun D=>tZ) fun D=>?_;refine kV c C.le 2 ?_;refine vL a C.leF ?_;refine kI c C.le 1 ?_;exact tZ
 ·refine brQ D (fun D=>?_) fun D=>?_
  ·refine kI c C.le 1 ?_;refine kV c C.le 2 ?_;refine ZH (a.mono C.leF).one ?_;refine new_S C fun aq ar C=>?_;refine cl0 D C (fun y _ _ j=>ZHJ y.fle j (C.cells 0 rfl) (a.mono C.leF)) fun au av C D=>⟨_,rfl,?_⟩;exact tZ
  ·refine brQ D (fun D=>?_) fun D=>?_
   ·refine kV c C.le 2 ?_;refine cl0 D C (fun a0 _ _ k=>ZwW a0.fle k (a.mono C.leF)) fun aw ax C D=>⟨_,rfl,?_⟩;refine brR D (fun D=>tZ) fun D=>?_;refine kV c C.le 2 ?_;refine vL a C.leF ?_;refine kI c C.le 1 ?_;exact tZ
   ·refine brQ D (fun D=>?_) fun D=>?_
    ·refine cl1 D C (fun g _ _ l=>ZFc g.fle l slA (a.mono g.bas)) fun ay az b0 C D=>⟨_,_,_,rfl,?_⟩;refine new_S C fun b3 b1 C=>?_;refine boxA fun b2 C=>?_;refine boxA fun b6 C=>?_;refine boxA fun a8 C=>?_;refine kV c C.le 2 ?_;refine vL a C.leF ?_;refine brR D (fun D=>tZ) fun D=>?_;refine cl0 D C (fun a1 _ _ o=>Zv1 a1.fle o (C.cells 0 rfl) slA) fun b7 a9 C D=>⟨_,rfl,?_⟩;exact tZ
    ·refine brQ D (fun D=>?_) fun D=>?_
     ·refine cl2 D C (fun i _ _ p=>Zr5 i.fle p slA (a.mono i.bas)) fun b8 b9 a5 aa C D=>⟨_,_,_,_,rfl,?_⟩;refine new_S C fun b4 ab C=>?_;refine boxA fun ac C=>?_;refine boxA fun ad C=>?_;refine boxA fun ae C=>?_;refine boxA fun af C=>?_;refine cl0 D C (fun a2 _ _ u=>Zv8 a2.fle u (C.cells 0 rfl) slA slA) fun ba ag C D=>⟨_,rfl,?_⟩;exact tZ
     ·refine brQ D (fun D=>?_) fun D=>?_
      ·refine cl2 D C (fun a3 _ _ v=>Zum a3.fle v slA (a.mono C.leF)) fun bb bc a6 ah C D=>⟨_,_,_,rfl,?_⟩;refine new_S C fun b5 ai C=>?_;refine boxA fun aj C=>?_;refine boxA fun ak C=>?_;exact tZ
      ·refine brR D (fun D=>tZ) fun D=>?_;refine kI c C.le 1 ?_;refine kV c C.le 2 ?_;refine ZH (a.mono C.leF).one ?_;refine new_S C fun bd al C=>?_;refine cl0 D C (fun a4 _ _ w=>ZDf a4.fle w (C.cells 0 rfl) (a.mono C.leF)) fun am an C D=>⟨_,rfl,?_⟩;exact tZ
theorem ZqH {a r} (D:Za7 a=some r)  :zR 85 #[.int .u8 a] h ψ (.bool r):=by
 refine zv ⟨[],[],[],[]⟩ Tryz.func85 ?_;rw [Za7] at D;have C:=sZ hψ;exact brQ D (fun D=>tZ) fun D=>tZ
theorem Zy5 {a r} (D:Zds a=some r)  :zR 86 #[.int .u8 a] h ψ (.bool r):=by
 refine zv ⟨[],[],[],[]⟩ Tryz.func86 ?_;rw [Zds] at D;have C:=sZ hψ;exact brQ D (fun D=>tZ) fun D=>tZ
theorem ZCa {e r} (D:Zip e=some r)  :zR 40 #[.string e] h ψ (.bool r):=by
 refine zv ⟨[(4,[(3,.i .i64)])],[(3,[])],[],[]⟩ Tryz.func40 ?_;rw [Zip] at D;have C:=sZ hψ;refine ⟨fun c=>S ψ h c []/\Zms e=some r,?_,?_⟩
 ·refine brQ D (fun D=>tZ) fun D=>?_;refine brQ D (fun D=>tZ) fun D=>?_;obtain ⟨u,f,D⟩:=obind D;refine Zo2 f ?_;refine cl0 D C (fun l _ _ g=>ZqH l.fle g) fun v w C D=>⟨_,rfl,?_⟩;exact brQ D (fun D=>tZ) fun D=>tZ
 ·rintro _ c ⟨C,D⟩;rw [Zms] at D;refine lp1 D (nlS C) fun m i3 x a C D I=>?_;rw [ZcV] at D;refine brR D (fun D=>tZ) fun D=>?_;obtain ⟨y,p,D⟩:=obind D;refine Zo2 p ?_;refine cl0 D C (fun s _ _ i=>ZqH s.fle i) fun a0 a1 C D=>⟨_,rfl,?_⟩;refine brR D (fun D=>tZ) fun D=>?_;obtain ⟨a2,j,D⟩:=obind D;refine Zo2 j ?_;refine cl0 D C (fun o _ _ k=>Zy5 o.fle k) fun a3 a4 C D=>⟨_,rfl,?_⟩;exact brQ D (fun D=>tZ) fun D=>tZ
theorem ZDo {x0 k a r} (D:Zj5 x0=some r) (c:CellsC (hcell h) k [.string x0.Name,.int .i64 x0.Object.Kind,.int .i64 x0.Object.Size,a,.string x0.Key]) (l:SlC (hcell h) eL a x0.Object.Rows):zR 50 #[.pointer (some k)] h ψ (.bool r):=by
 refine zv ⟨[],[],[],[]⟩ Tryz.func50 ?_;rw [Zj5] at D;have C:=sZ hψ;refine kS c C.le 0 ?_;refine cl0 D C (fun s _ _ o=>ZCa s.fle o) fun r7 u C D=>⟨_,rfl,?_⟩;refine brR D (fun D=>tZ) fun D=>?_;obtain ⟨v,i,D⟩:=obind D;obtain ⟨p,w,e,f⟩:=id C;refine (ZoB (CLe.refl _) i (CellsC.part 1 3 slA) slA).mono fun x y ⟨j,g⟩=>⟨_,j,?_⟩;replace C:=join0 e f (g.weak e.fle);clear g e f;refine brR D (fun D=>tZ) fun D=>?_;refine kS c C.le 4 ?_;refine brR D (fun D=>tZ) fun D=>?_;refine kS c C.le 4 ?_;exact tZ
theorem ZBM {k p0 i r} (D:ZhN k=some r) (e:CellsC (hcell h) p0 [i]) (c:SlC (hcell h) Zap i k.Items):zR 23 #[.pointer (some p0)] h ψ (.bool r):=by
 refine zv ⟨[(2,[(3,.i .i64)]),(7,[(4,.i .i64)])],[(6,[])],[],[]⟩ Tryz.func23 ?_;rw [ZhN] at D;have C:=sZ hψ;refine lp1 D (nlS C) fun m y3 al a C D I=>?_;rw [ZbV] at D;refine kV e C.le 0 ?_;refine vL c C.le ?_;refine brQ D (fun D=>?_) fun D=>?_
 ·refine ⟨fun j=>S ψ h j []/\Zhu k y3=some a,?_,?_⟩
  ·refine kV e C.le 0 ?_;refine ixA slA D fun am an l o D=>?_;obtain ⟨ac,ae,p⟩:=c.cells l o rfl;obtain ⟨ao,rfl,ap⟩:=ZaX p;refine cl0 D C (fun a9 _ _ u=>ZDo a9.fle u slA slA) fun aq ar C D=>⟨_,rfl,?_⟩;refine brQ D (fun D=>tZ) fun D=>?_;refine brR D (fun D=>tZ) fun D=>?_;refine kV e C.le 0 ?_;refine ixA slA D fun au av v w D=>?_;obtain ⟨af,x,y⟩:=c.cells v w rfl;obtain ⟨aw,rfl,ax⟩:=ZaX y;refine kS x C.le 0 ?_;refine kV e C.le 0 ?_;refine ixA slA D fun ay az a0 a1 D=>?_;obtain ⟨ag,a2,a3⟩:=c.cells a0 a1 rfl;obtain ⟨b0,rfl,b1⟩:=ZaX a3;refine kS a2 C.le 0 ?_;exact brQ D (fun D=>tZ) fun D=>tZ
  ·rintro _ j ⟨C,D⟩;rw [Zhu] at D;refine lp1 D (nlS C) fun aa y4 b2 b3 C D g=>?_;rw [Zfy] at D;refine brQ D (fun D=>?_) fun D=>?_
   ·refine kV e C.le 0 ?_;refine ixA slA D fun b4 b5 ad hx D=>?_;obtain ⟨cs,ck,hr⟩:=c.cells ad hx rfl;obtain ⟨b6,rfl,f⟩:=ZaX hr;refine kV e C.le 0 ?_;refine ixA slA D fun b7 b8 a4 a5 D=>?_;obtain ⟨aj,ak,a6⟩:=c.cells a4 a5 rfl;obtain ⟨b9,rfl,ba⟩:=ZaX a6;refine cl0 D C (fun s _ _ a7=>Zrm s.fle a7 slA slA slA slA) fun bb bc C D=>⟨_,rfl,?_⟩;refine brQ D (fun D=>?_) fun D=>?_
    ·obtain rfl:=oI D;obtain rfl:=oI g;obtain rfl:=oI I;exact ⟨rfl,nlS C⟩
    ·obtain rfl:=oI D;exact ⟨aa,ltS,nlS C,g⟩
   ·obtain rfl:=oI D;obtain rfl:=oI g;exact ⟨m,ltS,nlS C,I⟩
 ·refine kV e C.le 0 ?_;refine vL c C.le ?_;exact tZ
theorem ZEG {i v0 y1 r} (D:Zj1 i y1=some r) (f0:SlC (hcell h) eL v0 i):CallsH P 196 #[v0,.bool y1] h (fun v h'=>∃ w0:Value,∃ w1:Value,v=.agg #[w0,w1]/\S ψ h h' [.it oL [w0] r.Colors,.it (El.ow Zf) [w1] r.Edges]):=by
 refine zv ⟨[(4,[(7,.i .i64)]),(11,[(9,.i .i64)]),(15,[(10,.i .i64)]),(18,[(11,.i .i64)]),(21,[(12,.i .i64)])],[(9,[(8,.i .i64)]),(24,[(84,.b)])],[],[]⟩ Tryz.func196 ?_;rw [Zj1] at D;have C:=sZ hψ;refine new_S C fun p bi C=>?_;refine vL f0 C.le ?_;refine new_S C fun s bj C=>?_;refine boxA fun bk C=>?_;refine boxA fun bm C=>?_;have C:=C.nilO (E:=eI);obtain ⟨an,hn⟩:=Zj D;refine ⟨fun n y7 ae=>∃ xs:List Int,∃ k:Value,S ψ h ae [.box s [k,(.slice none 0 0)],.box p [(.slice none 0 0),(.slice none 0 0)],.it oL [k] xs]/\loopN (ZfH i y1) n (y7,xs)=some r,⟨an,_,_,pk C [1,2,0],hn⟩,?_⟩;rintro n _ y7 ae ⟨xs,k,C,hn⟩;obtain ⟨m,a,rfl,D,I⟩:=Zi hn;rw [ZfH] at D;refine brQ D (fun D=>?_) fun D=>?_
 ·refine ⟨fun y8 af=>S ψ h af [.box s [k,(.slice none 0 0)],.box p [(.slice none 0 0),(.slice none 0 0)],.it oL [k] xs]/\ZiQ y7 xs y8=some a,?_,?_⟩
  ·refine brQ D (fun D=>?_) fun D=>?_
   ·obtain ⟨_,aq,D⟩:=obind D;refine ⟨Zan aq,?_⟩;exact ⟨pk C [0,1,2],D⟩
   ·exact ⟨pk C [0,1,2],D⟩
  ·rintro _ y8 af ⟨C,D⟩;rw [ZiQ] at D;refine bV C 0 0 ?_;obtain ⟨bn,hx,D⟩:=obind D;refine ZO C 2 rfl (fun _=>⟨rfl,rfl⟩) rfl rfl hx fun bo bp C=>?_;refine boxA fun bq C=>?_;obtain rfl:=oI D;exact ⟨m,ltS,_,_,pk C [0,1,2],I⟩
 ·obtain ⟨ax,u⟩:=Zj D;refine ⟨fun ag y9 a5=>∃ e:List Int,∃ c:Value,S ψ h a5 [.box s [c,(.slice none 0 0)],.box p [(.slice none 0 0),(.slice none 0 0)],.it oL [c] e]/\loopN (Zdn i) ag (y9,e)=some a,⟨ax,_,_,pk C [0,1,2],u⟩,?_⟩;rintro ag _ y9 a5 ⟨e,c,C,u⟩;obtain ⟨az,b0,rfl,D,a6⟩:=Zi u;rw [Zdn] at D;refine brQ D (fun D=>?_) fun D=>?_
  ·refine bV C 0 0 ?_;obtain ⟨br,ar,D⟩:=obind D;refine ZO C 2 rfl (fun _=>⟨rfl,rfl⟩) rfl rfl ar fun bs bc C=>?_;refine boxA fun bd C=>?_;obtain rfl:=oI D;exact ⟨az,ltS,_,_,pk C [0,1,2],a6⟩
  ·have C:=C.nilO (E:=Zf);obtain ⟨b1,w⟩:=Zj D;refine ⟨fun ah j a7=>∃ x:List Zb,∃ a3:Value,S ψ h a7 [.box s [c,a3],.box p [(.slice none 0 0),(.slice none 0 0)],.it oL [c] e,.it (El.ow Zf) [a3] x]/\loopN (Ze3 i e) ah (j,x)=some b0,⟨b1,_,_,pk C [1,2,3,0],w⟩,?_⟩;rintro ah _ j a7 ⟨x,a3,C,w⟩;obtain ⟨b2,b3,rfl,D,a8⟩:=Zi w;rw [Ze3] at D;refine brQ D (fun D=>?_) fun D=>?_
   ·obtain ⟨b5,y⟩:=Zj D;refine ⟨fun ai l a9=>∃ a0:List Zb,∃ aa:Value,S ψ h a9 [.box s [c,aa],.box p [(.slice none 0 0),(.slice none 0 0)],.it oL [c] e,.it (El.ow Zf) [aa] a0]/\loopN (Zen i j) ai (l,a0)=some b3,⟨b5,_,_,pk C [0,1,2,3],y⟩,?_⟩;rintro ai _ l a9 ⟨a0,aa,C,y⟩;obtain ⟨b7,b8,rfl,D,ab⟩:=Zi y;rw [Zen] at D;refine brQ D (fun D=>?_) fun D=>?_
    ·obtain ⟨b9,a1⟩:=Zj D;refine ⟨fun aj a4 ac=>∃ g:List Zb,∃ o:Value,S ψ h ac [.box s [c,o],.box p [(.slice none 0 0),(.slice none 0 0)],.it oL [c] e,.it (El.ow Zf) [o] g]/\loopN (ZbM i j l) aj (a4,g)=some b8,⟨b9,_,_,pk C [0,1,2,3],a1⟩,?_⟩;rintro aj _ a4 ac ⟨g,o,C,a1⟩;obtain ⟨ak,ba,rfl,D,a2⟩:=Zi a1;rw [ZbM] at D;refine brQ D (fun D=>?_) fun D=>?_
     ·refine ⟨fun al ad=>S ψ h ad [.box s [c,o],.box p [(.slice none 0 0),(.slice none 0 0)],.it oL [c] e,.it (El.ow Zf) [o] g]/\Zcq i j l a4 g al=some ba,?_,?_⟩
      ·refine brQ D (fun D=>?_) fun D=>?_
       ·exact ⟨pk C [0,1,2,3],D⟩
       ·refine brQ D (fun D=>?_) fun D=>?_
        ·exact ⟨pk C [0,1,2,3],D⟩
        ·refine ixV f0 C.le D fun bt bu f D=>?_;refine ixI slA D fun bv D=>?_;exact ⟨pk C [0,1,2,3],D⟩
      ·rintro _ al ad ⟨C,D⟩;rw [Zcq] at D;refine brQ D (fun D=>?_) fun D=>?_
       ·refine bV C 0 1 ?_;obtain ⟨bw,au,D⟩:=obind D;refine ZO C 3 rfl (fun _=>⟨[.int .i64 j],[.int .i64 (ε.wrap ((ε.wrap ((ε.wrap (3*(i.length:Int)))+(ε.wrap (l*(i.length:Int)))))+a4))],[],[],rfl,rfl,⟨rfl,rfl⟩,⟨rfl,rfl⟩⟩) rfl rfl au fun bx be C=>?_;refine boxA fun bf C=>?_;obtain rfl:=oI D;exact ⟨ak,ltS,_,_,pk C [0,1,2,3],a2⟩
       ·obtain rfl:=oI D;exact ⟨ak,ltS,_,_,pk C [0,1,2,3],a2⟩
     ·obtain rfl:=oI D;obtain rfl:=oI a2;exact ⟨b7,ltS,_,_,pk C [0,1,2,3],ab⟩
    ·obtain rfl:=oI D;obtain rfl:=oI ab;exact ⟨b2,ltS,_,_,pk C [0,1,2,3],a8⟩
   ·refine bV C 0 0 ?_;refine bV C 0 1 ?_;refine boxA fun bg C=>?_;refine boxA fun bh C=>?_;refine bV C 1 0 ?_;refine bV C 1 1 ?_;obtain rfl:=oI D;obtain rfl:=oI a8;obtain rfl:=oI a6;obtain rfl:=oI I;exact ⟨c,a3,rfl,pk C [2,3]⟩
theorem ZHu {e v0 classe1 r} (D:Zfw e classe1=some r) (i:SlC (hcell h) eL v0 e):CallsH P 152 #[v0,.bool classe1] h (fun v h'=>∃ w0:Value,∃ w1:Value,v=.tuple #[.agg #[w0,w1],.int .i64 r.2]/\S ψ h h' [.it oL [w0] r.1.Colors,.it (El.ow Zf) [w1] r.1.Edges]):=by
 refine zv ⟨[],[],[],[]⟩ Tryz.func152 ?_;rw [Zfw] at D;have C:=sZ hψ;refine new_S C fun b4 l C=>?_;refine cl0 D C (fun s _ _ j=>ZpY s.fle j slA) fun r7 o C D=>⟨_,rfl,?_⟩;refine brQ D (fun D=>?_) fun D=>?_
 ·refine boxA fun p C=>?_;refine boxA fun u C=>?_;refine bV C 0 0 ?_;refine bV C 0 1 ?_;have C:=C.nilO (E:=eI);have C:=C.nilO (E:=Zf);obtain rfl:=oI D;exact ⟨(.slice none 0 0),(.slice none 0 0),rfl,pk C [1,0]⟩
 ·refine vL i C.le ?_;refine brQ D (fun D=>?_) fun D=>?_
  ·refine boxA fun w C=>?_;refine boxA fun x C=>?_;refine bV C 0 0 ?_;refine bV C 0 1 ?_;have C:=C.nilO (E:=eI);have C:=C.nilO (E:=Zf);obtain rfl:=oI D;exact ⟨(.slice none 0 0),(.slice none 0 0),rfl,pk C [1,0]⟩
  ·refine cl2 D C (fun f _ _ c=>ZEG f.fle c slA) fun y g a a1 C D=>⟨_,_,rfl,?_⟩;refine boxA fun a2 C=>?_;refine boxA fun k C=>?_;refine bV C 2 0 ?_;refine bV C 2 1 ?_;obtain rfl:=oI D;exact ⟨g,a,rfl,pk C [0,1]⟩
theorem ZzR {i p0 a1 r} (D:Ziw i=some r) (j:CellsC (hcell h) p0 [.int .i64 i.Points,a1]) (g:SlC (hcell h) eL a1 i.Blocks):CallsH P 153 #[.pointer (some p0)] h (fun v h'=>∃ w0:Value,∃ w1:Value,v=.tuple #[.agg #[w0,w1],.int .i64 r.2]/\S ψ h h' [.it oL [w0] r.1.Colors,.it (El.ow Zf) [w1] r.1.Edges]):=by
 refine zv ⟨[(6,[(6,.i .i64)]),(10,[(7,.i .i64)]),(14,[(8,.i .i64)]),(17,[(9,.i .i64)])],[],[],[]⟩ Tryz.func153 ?_;rw [Ziw] at D;have C:=sZ hψ;refine new_S C fun b2 ba C=>?_;refine kI j C.le 0 ?_;refine kV j C.le 1 ?_;refine vL g C.le ?_;refine brQ D (fun D=>?_) fun D=>?_
 ·refine boxA fun bb C=>?_;refine boxA fun bc C=>?_;refine bV C 0 0 ?_;refine bV C 0 1 ?_;have C:=C.nilO (E:=eI);have C:=C.nilO (E:=Zf);obtain rfl:=oI D;exact ⟨(.slice none 0 0),(.slice none 0 0),rfl,pk C [1,0]⟩
 ·refine new_S C fun b5 bd C=>?_;refine boxA fun be C=>?_;refine boxA fun bf C=>?_;have C:=C.nilO (E:=eI);obtain ⟨al,hn⟩:=Zj D;refine ⟨fun n y6 aa=>∃ xs:List Int,∃ a2:Value,S ψ h aa [.box b5 [a2,(.slice none 0 0)],.box b2 [(.slice none 0 0),(.slice none 0 0)],.it oL [a2] xs]/\loopN (ZeO i) n (y6,xs)=some r,⟨al,_,_,pk C [1,2,0],hn⟩,?_⟩;rintro n _ y6 aa ⟨xs,a2,C,hn⟩;obtain ⟨m,a,rfl,D,I⟩:=Zi hn;rw [ZeO] at D;refine brQ D (fun D=>?_) fun D=>?_
  ·refine bV C 0 0 ?_;obtain ⟨bg,hx,D⟩:=obind D;refine ZO C 2 rfl (fun _=>⟨rfl,rfl⟩) rfl rfl hx fun bh bi C=>?_;refine boxA fun ay C=>?_;obtain rfl:=oI D;exact ⟨m,ltS,_,_,pk C [0,1,2],I⟩
  ·obtain ⟨an,k⟩:=Zj D;refine ⟨fun ab y7 a3=>∃ c:List Int,∃ e:Value,S ψ h a3 [.box b5 [e,(.slice none 0 0)],.box b2 [(.slice none 0 0),(.slice none 0 0)],.it oL [e] c]/\loopN (Zdf i) ab (y7,c)=some a,⟨an,_,_,pk C [0,1,2],k⟩,?_⟩;rintro ab _ y7 a3 ⟨c,e,C,k⟩;obtain ⟨ap,aq,rfl,D,l⟩:=Zi k;rw [Zdf] at D;refine kV j C.le 1 ?_;refine vL g C.le ?_;refine brQ D (fun D=>?_) fun D=>?_
   ·refine bV C 0 0 ?_;obtain ⟨bj,ag,D⟩:=obind D;refine ZO C 2 rfl (fun _=>⟨rfl,rfl⟩) rfl rfl ag fun bk az C=>?_;refine boxA fun b0 C=>?_;obtain rfl:=oI D;exact ⟨ap,ltS,_,_,pk C [0,1,2],l⟩
   ·have C:=C.nilO (E:=Zf);obtain ⟨ar,o⟩:=Zj D;refine ⟨fun ac y8 a4=>∃ p:List Zb,∃ a0:Value,S ψ h a4 [.box b5 [e,a0],.box b2 [(.slice none 0 0),(.slice none 0 0)],.it oL [e] c,.it (El.ow Zf) [a0] p]/\loopN (ZcX i c) ac (y8,p)=some aq,⟨ar,_,_,pk C [1,2,3,0],o⟩,?_⟩;rintro ac _ y8 a4 ⟨p,a0,C,o⟩;obtain ⟨au,av,rfl,D,u⟩:=Zi o;rw [ZcX] at D;refine brQ D (fun D=>?_) fun D=>?_
    ·obtain ⟨aw,w⟩:=Zj D;refine ⟨fun ad y9 a5=>∃ x:List Zb,∃ a6:Value,S ψ h a5 [.box b5 [e,a6],.box b2 [(.slice none 0 0),(.slice none 0 0)],.it oL [e] c,.it (El.ow Zf) [a6] x]/\loopN (ZcW i y8) ad (y9,x)=some av,⟨aw,_,_,pk C [0,1,2,3],w⟩,?_⟩;rintro ad _ y9 a5 ⟨x,a6,C,w⟩;obtain ⟨ae,bm,rfl,D,y⟩:=Zi w;rw [ZcW] at D;refine kV j C.le 1 ?_;refine vL g C.le ?_;refine brQ D (fun D=>?_) fun D=>?_
     ·refine kV j C.le 1 ?_;refine ixV g C.le D fun bn bo f D=>?_;refine cl0 D C (fun s _ _ ai=>ZrQ s.fle ai slA) fun bp b1 C D=>⟨_,rfl,?_⟩;refine brQ D (fun D=>?_) fun D=>?_
      ·refine bV C 0 1 ?_;obtain ⟨bq,aj,D⟩:=obind D;refine ZO C 3 rfl (fun _=>⟨[.int .i64 y8],[.int .i64 (ε.wrap (i.Points+y9))],[],[],rfl,rfl,⟨rfl,rfl⟩,⟨rfl,rfl⟩⟩) rfl rfl aj fun br b3 C=>?_;refine boxA fun b4 C=>?_;obtain rfl:=oI D;exact ⟨ae,ltS,_,_,pk C [0,1,2,3],y⟩
      ·obtain rfl:=oI D;exact ⟨ae,ltS,_,_,pk C [0,1,2,3],y⟩
     ·obtain rfl:=oI D;obtain rfl:=oI y;exact ⟨au,ltS,_,_,pk C [0,1,2,3],u⟩
    ·refine bV C 0 1 ?_;refine Zn slA ?_;refine brQ D (fun D=>?_) fun D=>?_
     ·refine boxA fun b6 C=>?_;refine boxA fun b7 C=>?_;refine bV C 1 0 ?_;refine bV C 1 1 ?_;have C:=C.nilO (E:=eI);have C:=C.nilO (E:=Zf);obtain rfl:=oI D;obtain rfl:=oI u;obtain rfl:=oI l;obtain rfl:=oI I;exact ⟨(.slice none 0 0),(.slice none 0 0),rfl,pk C [1,0]⟩
     ·refine bV C 0 0 ?_;refine bV C 0 1 ?_;refine boxA fun b8 C=>?_;refine boxA fun b9 C=>?_;refine bV C 1 0 ?_;refine bV C 1 1 ?_;obtain rfl:=oI D;obtain rfl:=oI u;obtain rfl:=oI l;obtain rfl:=oI I;exact ⟨e,a0,rfl,pk C [2,3]⟩
theorem Zx7 {c w e i v1 j x r} (D:ZiY c i j=some r) (a5:CellsC (hcell h) w [.int .i64 c.Prime,.int .i64 c.Degree,e]) (a3:SlC (hcell h) eI e c.Poly) (y:SlC (hcell h) eI v1 i) (f2:SlC (hcell h) eI x j):zL 231 #[.pointer (some w),v1,x] h ψ eI r:=by
 refine zv ⟨[(3,[(8,.i .i64)])],[],[],[(7,⟨[],.fin [2,3,4,5,6,7,8,9,10,11,0,1,12,13],false⟩)]⟩ Tryz.func231 ?_;rw [ZiY] at D;have C:=sZ hψ;refine vL y C.le ?_;obtain ⟨a6,hx,D⟩:=obind D;refine Zaj (E:=eI) C rfl hx fun f a7 C=>?_;obtain ⟨a0,k⟩:=Zj D;refine ⟨fun n i8 g=>∃ xs:List Int,S ψ h g [.it oL [f] xs]/\loopN (ZdD c i j) n (i8,xs)=some r,⟨a0,_,pk C [0],k⟩,?_⟩;rintro n _ i8 g ⟨xs,C,k⟩;obtain ⟨m,a,rfl,D,I⟩:=Zi k;rw [ZdD] at D;refine vL y C.le ?_;refine brQ D (fun D=>?_) fun D=>?_
 ·refine ixI slA D fun a8 D=>?_;refine brQ D (fun D=>?_) fun D=>?_
  ·refine ixI slA D fun a9 D=>?_;refine ixA slA D fun aa ab l o D=>?_;refine st1_S C 0 rfl l o rfl (fun _=>⟨rfl,rfl⟩) fun ac C=>?_;dsimp at C;obtain rfl:=oI D;exact ⟨m,ltS,_,pk C [0],I⟩
  ·refine ixI slA D fun ad D=>?_;refine ixI slA D fun ae D=>?_;refine cl0 D C (fun s _ _ p=>Zt0 s.fle p slA slA) fun af ag C D=>⟨_,rfl,?_⟩;refine ixA slA D fun ah ai u v D=>?_;refine st1_S C 0 rfl u v rfl (fun _=>⟨rfl,rfl⟩) fun aj C=>?_;dsimp at C;obtain rfl:=oI D;exact ⟨m,ltS,_,pk C [0],I⟩
 ·obtain rfl:=oI D;obtain rfl:=oI I;exact ⟨f,rfl,pk C [0]⟩
theorem ZzZ {c p0 x y r} (D:ZiW c=some r) (a0:CellsC (hcell h) p0 [.int .i64 c.Field.Prime,.int .i64 c.Field.Degree,x,y]) (b8:SlC (hcell h) eI x c.Field.Poly) (g:SlC (hcell h) eL y c.Rows):zL 197 #[.pointer (some p0)] h ψ eL r:=by
 refine zv ⟨[(4,[(3,.v),(5,.i .i64)]),(8,[(6,.v),(7,.i .i64)]),(13,[(8,.v),(9,.i .i64)]),(16,[(8,.v),(10,.i .i64)])],[],[],[(10,⟨[],.fin [1,2,3,4,5,6,7,8,9,10,11,12,13,0,14,15],false⟩),(18,⟨[],.fin [1,2,3,4,5,6,7,8,9,10,11,12,13,0,14,15],false⟩)]⟩ Tryz.func197 ?_;rw [ZiW] at D;have C:=sZ hψ;refine kV a0 C.le 3 ?_;refine ixV g C.le D fun bc bd f D=>?_;refine vL f C.le ?_;obtain ⟨p,ag,D⟩:=obind D;refine Zaj (E:=eI) C rfl ag fun u be C=>?_;refine ZH oneA ?_;have C:=C.freeze 0 rfl (Zk (Zh _));dsimp at C;have C:=C.copyF 0 rfl;refine Zla C fun bf bg C=>?_;refine cl0 D C (fun s _ _ ah=>Zli s.fle ah (CellsC.part 0 3 slA) slA) fun v bh C D=>⟨_,rfl,?_⟩;obtain ⟨av,hn⟩:=Zj D;refine ⟨fun n w y5 aa=>∃ e:List (List Int),S ψ h aa [.it (El.ow eL) [w] e,.it eL [u] p]/\loopN (ZdQ c v) n (e,y5)=some r,⟨av,_,pk C [0,1],hn⟩,?_⟩;rintro n _ w y5 aa ⟨e,C,hn⟩;obtain ⟨m,a,rfl,D,I⟩:=Zi hn;rw [ZdQ] at D;refine kV a0 C.le 3 ?_;refine vL g C.le ?_;refine brQ D (fun D=>?_) fun D=>?_
 ·refine ZP (E:=eL) (css:=[]) (xs:=([]:List (List Int))) C (fun _=>rfl) rfl rfl fun bi bj C=>?_;obtain ⟨aw,i⟩:=Zj D;refine ⟨fun ab v6 y7 ac=>∃ j:List (List Int),S ψ h ac [.it (El.ow eL) [v6] j,.it (El.ow eL) [w] e,.it eL [u] p]/\loopN (Zd9 c v e y5) ab (j,y7)=some a,⟨aw,_,pk C [0,1,2],i⟩,?_⟩;rintro ab _ v6 y7 ac ⟨j,C,i⟩;obtain ⟨ay,az,rfl,D,a1⟩:=Zi i;rw [Zd9] at D;refine brQ D (fun D=>?_) fun D=>?_
  ·refine kV a0 C.le 3 ?_;refine ixV g C.le D fun bk bm bn D=>?_;refine cl1 D C (fun b0 _ _ aj=>Zvc b0.fle aj (CellsC.part 0 3 slA) slA slA) fun bo bp bq C D=>⟨_,rfl,?_⟩;refine ZH oneA ?_;have C:=C.freeze 0 rfl (Zk (Zh _));dsimp at C;have C:=C.copyF 0 rfl;obtain ⟨br,ak,D⟩:=obind D;refine Zar C 1 rfl rfl rfl ak fun bs bt C=>?_;dsimp at C;obtain rfl:=oI D;exact ⟨ay,ltS,_,pk C [1,2,3],a1⟩
  ·refine ZP (E:=eL) (css:=[]) (xs:=([]:List (List Int))) C (fun _=>rfl) rfl rfl fun bu b9 C=>?_;obtain ⟨b1,k⟩:=Zj D;refine ⟨fun ad v8 y9 a2=>∃ y8:List (List Int),S ψ h a2 [.it (El.ow eL) [v8] y8,.it (El.ow eL) [v6] j,.it (El.ow eL) [w] e,.it eL [u] p]/\loopN (ZeF c v e y5 j) ad (y8,y9)=some az,⟨b1,_,pk C [0,1,2,3],k⟩,?_⟩;rintro ad _ v8 y9 a2 ⟨y8,C,k⟩;obtain ⟨b3,b4,rfl,D,a3⟩:=Zi k;rw [ZeF] at D;refine Zn slA ?_;refine brQ D (fun D=>?_) fun D=>?_
   ·obtain ⟨b5,l⟩:=Zj D;refine ⟨fun ae a4 af a5=>∃ o:List (List Int),S ψ h a5 [.it (El.ow eL) [a4] o,.it (El.ow eL) [v6] j,.it (El.ow eL) [w] e,.it eL [u] p]/\loopN (ZeZ c v e j y9) ae (o,af)=some b4,⟨b5,_,pk C [0,1,2,3],l⟩,?_⟩;rintro ae _ a4 af a5 ⟨o,C,l⟩;obtain ⟨b6,bv,rfl,D,a6⟩:=Zi l;rw [ZeZ] at D;refine brQ D (fun D=>?_) fun D=>?_
    ·refine ixA slA D fun bw bx an ao D=>?_;refine ZaT C 2 rfl an ao fun bz C=>?_;refine ixA slA D fun c0 c3 ap aq D=>?_;refine ZaT C 2 rfl ap aq fun c4 C=>?_;refine cl1 D C (fun b7 _ _ ar=>Zx7 b7.fle ar (CellsC.part 0 3 slA) slA slA slA) fun c5 c6 ba C D=>⟨_,rfl,?_⟩;refine ZH oneA ?_;have C:=C.freeze 0 rfl (Zk (Zh _));dsimp at C;have C:=C.copyF 0 rfl;obtain ⟨c7,a9,D⟩:=obind D;refine Zar C 3 rfl rfl rfl a9 fun c8 bb C=>?_;dsimp at C;obtain rfl:=oI D;exact ⟨b6,ltS,_,pk C [3,4,5,6],a6⟩
    ·obtain rfl:=oI D;obtain rfl:=oI a6;exact ⟨b3,ltS,_,pk C [0,1,2,3],a3⟩
   ·obtain rfl:=oI D;obtain rfl:=oI a3;obtain rfl:=oI a1;exact ⟨m,ltS,_,pk C [0,3],I⟩
 ·obtain rfl:=oI D;obtain rfl:=oI I;exact ⟨w,rfl,pk C [0]⟩
theorem ZyS {y0 p0 a2 a3 r} (D:ZfT y0=some r) (ar:CellsC (hcell h) p0 [.int .i64 y0.Field.Prime,.int .i64 y0.Field.Degree,a2,a3]) (b7:SlC (hcell h) eI a2 y0.Field.Poly) (ai:SlC (hcell h) eL a3 y0.Rows):CallsH P 154 #[.pointer (some p0)] h (fun v h'=>∃ w0:Value,∃ w1:Value,v=.tuple #[.agg #[w0,w1],.int .i64 r.2]/\S ψ h h' [.it oL [w0] r.1.Colors,.it (El.ow Zf) [w1] r.1.Edges]):=by
 refine zv ⟨[(9,[(7,.i .i64)]),(13,[(8,.i .i64)]),(17,[(9,.i .i64)]),(20,[(10,.i .i64)])],[],[],[]⟩ Tryz.func154 ?_;rw [ZfT] at D;have C:=sZ hψ;refine new_S C fun b2 bm C=>?_;refine cl0 D C (fun s _ _ hx=>Zli s.fle hx (CellsC.part 0 3 slA) slA) fun bn bo C D=>⟨_,rfl,?_⟩;refine brQ D (fun D=>?_) fun D=>?_
 ·refine boxA fun bp C=>?_;refine boxA fun bq C=>?_;refine bV C 0 0 ?_;refine bV C 0 1 ?_;have C:=C.nilO (E:=eI);have C:=C.nilO (E:=Zf);obtain rfl:=oI D;exact ⟨(.slice none 0 0),(.slice none 0 0),rfl,pk C [1,0]⟩
 ·refine kV ar C.le 3 ?_;refine ixV ai C.le D fun i br f D=>?_;refine vL f C.le ?_;refine cl1 D C (fun au _ _ aj=>ZzZ au.fle aj slA slA slA) fun e y bs C D=>⟨_,rfl,?_⟩;refine Zn slA ?_;refine brQ D (fun D=>?_) fun D=>?_
  ·refine boxA fun bt C=>?_;refine boxA fun bu C=>?_;refine bV C 1 0 ?_;refine bV C 1 1 ?_;have C:=C.nilO (E:=eI);have C:=C.nilO (E:=Zf);obtain rfl:=oI D;exact ⟨(.slice none 0 0),(.slice none 0 0),rfl,pk C [1,0]⟩
  ·refine new_S C fun b6 bv C=>?_;refine boxA fun b9 C=>?_;refine boxA fun ba C=>?_;have C:=C.nilO (E:=eI);obtain ⟨av,hn⟩:=Zj D;refine ⟨fun n y7 a4=>∃ xs:List Int,∃ a5:Value,S ψ h a4 [.box b6 [a5,(.slice none 0 0)],.it (El.ow eL) [y] e,.box b2 [(.slice none 0 0),(.slice none 0 0)],.it oL [a5] xs]/\loopN (Zdu i e) n (y7,xs)=some r,⟨av,_,_,pk C [1,2,3,0],hn⟩,?_⟩;rintro n _ y7 a4 ⟨xs,a5,C,hn⟩;obtain ⟨m,a,rfl,D,I⟩:=Zi hn;rw [Zdu] at D;refine brQ D (fun D=>?_) fun D=>?_
   ·refine bV C 0 0 ?_;obtain ⟨bw,al,D⟩:=obind D;refine ZO C 3 rfl (fun _=>⟨rfl,rfl⟩) rfl rfl al fun bx bb C=>?_;refine boxA fun bc C=>?_;obtain rfl:=oI D;exact ⟨m,ltS,_,_,pk C [0,1,2,3],I⟩
   ·obtain ⟨ax,j⟩:=Zj D;refine ⟨fun ae y8 a6=>∃ c:List Int,∃ g:Value,S ψ h a6 [.box b6 [g,(.slice none 0 0)],.it (El.ow eL) [y] e,.box b2 [(.slice none 0 0),(.slice none 0 0)],.it oL [g] c]/\loopN (Zde i e) ae (y8,c)=some a,⟨ax,_,_,pk C [0,1,2,3],j⟩,?_⟩;rintro ae _ y8 a6 ⟨c,g,C,j⟩;obtain ⟨az,b0,rfl,D,k⟩:=Zi j;rw [Zde] at D;refine Zn slA ?_;refine brQ D (fun D=>?_) fun D=>?_
    ·refine bV C 0 0 ?_;obtain ⟨bz,am,D⟩:=obind D;refine ZO C 3 rfl (fun _=>⟨rfl,rfl⟩) rfl rfl am fun c0 bd C=>?_;refine boxA fun be C=>?_;obtain rfl:=oI D;exact ⟨az,ltS,_,_,pk C [0,1,2,3],k⟩
    ·have C:=C.nilO (E:=Zf);obtain ⟨b1,l⟩:=Zj D;refine ⟨fun af y9 a7=>∃ o:List Zb,∃ a0:Value,S ψ h a7 [.box b6 [g,a0],.it (El.ow eL) [y] e,.box b2 [(.slice none 0 0),(.slice none 0 0)],.it oL [g] c,.it (El.ow Zf) [a0] o]/\loopN (Zdl i e c) af (y9,o)=some b0,⟨b1,_,_,pk C [1,2,3,4,0],l⟩,?_⟩;rintro af _ y9 a7 ⟨o,a0,C,l⟩;obtain ⟨b3,b4,rfl,D,p⟩:=Zi l;rw [Zdl] at D;refine brQ D (fun D=>?_) fun D=>?_
     ·obtain ⟨b5,u⟩:=Zj D;refine ⟨fun ag a8 a9=>∃ w:List Zb,∃ aa:Value,S ψ h a9 [.box b6 [g,aa],.it (El.ow eL) [y] e,.box b2 [(.slice none 0 0),(.slice none 0 0)],.it oL [g] c,.it (El.ow Zf) [aa] w]/\loopN (Zdc i e y9) ag (a8,w)=some b4,⟨b5,_,_,pk C [0,1,2,3,4],u⟩,?_⟩;rintro ag _ a8 a9 ⟨w,aa,C,u⟩;obtain ⟨ah,c3,rfl,D,x⟩:=Zi u;rw [Zdc] at D;refine Zn slA ?_;refine brQ D (fun D=>?_) fun D=>?_
      ·refine ixA slA D fun c4 c5 an ao D=>?_;refine ZaT C 1 rfl an ao fun c6 C=>?_;refine ixI slA D fun c7 D=>?_;refine brQ D (fun D=>?_) fun D=>?_
       ·refine bV C 1 1 ?_;obtain ⟨c8,ap,D⟩:=obind D;refine ZO C 5 rfl (fun _=>⟨[.int .i64 y9],[.int .i64 (ε.wrap ((ε.wrap ((i.length:Int)+a8))-1))],[],[],rfl,rfl,⟨rfl,rfl⟩,⟨rfl,rfl⟩⟩) rfl rfl ap fun c9 bf C=>?_;refine boxA fun bg C=>?_;obtain rfl:=oI D;exact ⟨ah,ltS,_,_,pk C [1,2,3,4,5],x⟩
       ·obtain rfl:=oI D;exact ⟨ah,ltS,_,_,pk C [1,2,3,4,5],x⟩
      ·obtain rfl:=oI D;obtain rfl:=oI x;exact ⟨b3,ltS,_,_,pk C [0,1,2,3,4],p⟩
     ·refine bV C 0 1 ?_;refine Zn slA ?_;refine brQ D (fun D=>?_) fun D=>?_
      ·refine boxA fun bh C=>?_;refine boxA fun bi C=>?_;refine bV C 2 0 ?_;refine bV C 2 1 ?_;have C:=C.nilO (E:=eI);have C:=C.nilO (E:=Zf);obtain rfl:=oI D;obtain rfl:=oI p;obtain rfl:=oI k;obtain rfl:=oI I;exact ⟨(.slice none 0 0),(.slice none 0 0),rfl,pk C [1,0]⟩
      ·refine bV C 0 0 ?_;refine bV C 0 1 ?_;refine boxA fun bj C=>?_;refine boxA fun bk C=>?_;refine bV C 2 0 ?_;refine bV C 2 1 ?_;obtain rfl:=oI D;obtain rfl:=oI p;obtain rfl:=oI k;obtain rfl:=oI I;exact ⟨g,a0,rfl,pk C [3,4]⟩
theorem Zw4 {f x e r} (D:Zcg f=some r) (c:CellsC (hcell h) x [.int .i64 f.Kind,.int .i64 f.Size,e]) (a:SlC ψ eL e f.Rows):CallsH P 109 #[.pointer (some x)] h (fun v h'=>∃ w0:Value,∃ w1:Value,v=.tuple #[.agg #[w0,w1],.int .i64 r.2]/\S ψ h h' [.it oL [w0] r.1.Colors,.it (El.ow Zf) [w1] r.1.Edges]):=by
 refine zv ⟨[],[],[],[]⟩ Tryz.func109 ?_;rw [Zcg] at D;have C:=sZ hψ;refine new_S C fun b2 ap C=>?_;refine kI c C.le 0 ?_;refine brQ D (fun D=>?_) fun D=>?_
 ·refine kV c C.le 2 ?_;refine cl2 D C (fun s _ _ hx=>ZHu s.fle hx (a.mono C.leF)) fun aq y g ar C D=>⟨_,_,_,rfl,?_⟩;refine boxA fun au C=>?_;refine boxA fun av C=>?_;refine bV C 2 0 ?_;refine bV C 2 1 ?_;obtain rfl:=oI D;exact ⟨y,g,rfl,pk C [0,1]⟩
 ·refine brQ D (fun D=>?_) fun D=>?_
  ·refine kI c C.le 1 ?_;refine kV c C.le 2 ?_;refine ZH (a.mono C.leF).one ?_;refine new_S C fun aw ax C=>?_;refine cl2 D C (fun a0 _ _ o=>ZzR a0.fle o (C.cells 0 rfl) (a.mono C.leF)) fun ay a1 i az C D=>⟨_,_,_,rfl,?_⟩;refine boxA fun b0 C=>?_;refine boxA fun b1 C=>?_;refine bV C 3 0 ?_;refine bV C 3 1 ?_;obtain rfl:=oI D;exact ⟨a1,i,rfl,pk C [0,1]⟩
  ·refine brQ D (fun D=>?_) fun D=>?_
   ·refine cl2 D C (fun l _ _ p=>Zr5 l.fle p slA (a.mono l.bas)) fun b3 b6 a6 a8 C D=>⟨_,_,_,_,rfl,?_⟩;refine new_S C fun b4 a9 C=>?_;refine boxA fun aa C=>?_;refine boxA fun ab C=>?_;refine boxA fun ac C=>?_;refine boxA fun ad C=>?_;refine cl2 D C (fun a2 _ _ u=>ZyS a2.fle u (C.cells 0 rfl) slA slA) fun b7 a3 j ae C D=>⟨_,_,_,rfl,?_⟩;refine boxA fun af C=>?_;refine boxA fun ag C=>?_;refine bV C 5 0 ?_;refine bV C 5 1 ?_;obtain rfl:=oI D;exact ⟨a3,j,rfl,pk C [0,1]⟩
   ·refine brQ D (fun D=>?_) fun D=>?_
    ·refine cl2 D C (fun a4 _ _ w=>Zum a4.fle w slA (a.mono C.leF)) fun b8 a5 k ah C D=>⟨_,_,_,rfl,?_⟩;refine new_S C fun b5 ai C=>?_;refine boxA fun aj C=>?_;refine boxA fun ak C=>?_;refine bV C 0 0 ?_;refine bV C 0 1 ?_;refine boxA fun al C=>?_;refine boxA fun am C=>?_;refine bV C 3 0 ?_;refine bV C 3 1 ?_;obtain rfl:=oI D;exact ⟨a5,k,rfl,pk C [1,2]⟩
    ·refine boxA fun an C=>?_;refine boxA fun ao C=>?_;refine bV C 0 0 ?_;refine bV C 0 1 ?_;have C:=C.nilO (E:=eI);have C:=C.nilO (E:=Zf);obtain rfl:=oI D;exact ⟨(.slice none 0 0),(.slice none 0 0),rfl,pk C [1,0]⟩
theorem Zws {budget0 r} (D:Zi8 budget0=some r)  :zR 198 #[.int .i64 budget0] h ψ (.bool r):=by
 refine zv ⟨[],[],[],[]⟩ Tryz.func198 ?_;rw [Zi8] at D;have C:=sZ hψ;refine cl0 D C (fun s _ _ a=>Zau s.fle a) fun e c C D=>⟨_,rfl,?_⟩;exact tZ
theorem Zti {k c e r} (D:Ze1 k=some r) (x:SlC (hcell h) eI c k.Colors) (l:SlC (hcell h) Zf e k.Edges):zL 260 #[.agg #[c,e]] h ψ (El.ow El.bool) r:=by
 refine zv ⟨[(4,[(4,.v),(5,.i .i64)]),(8,[(6,.i .i64)])],[],[],[]⟩ Tryz.func260 ?_;rw [Ze1] at D;have C:=sZ hψ;refine new_S C fun b1 am C=>?_;refine bV C 0 0 ?_;refine vL x C.le ?_;refine ZP (E:=(El.ow El.bool)) (css:=[]) (xs:=([]:List (List Bool))) C (fun _=>rfl) rfl rfl fun an ao C=>?_;obtain ⟨a9,y⟩:=Zj D;refine ⟨fun n s i5 u=>∃ f:List (List Bool),S ψ h u [.it (El.ow (El.ow El.bool)) [s] f,.box b1 [c,e]]/\loopN (Zgq k) n (f,i5)=some r,⟨a9,_,pk C [0,1],y⟩,?_⟩;rintro n _ s i5 u ⟨f,C,y⟩;obtain ⟨m,a,rfl,D,I⟩:=Zi y;rw [Zgq] at D;refine brQ D (fun D=>?_) fun D=>?_
 ·obtain ⟨ap,hx,D⟩:=obind D;refine Zaj (E:=El.bool) C rfl hx fun aq ar C=>?_;refine ZH oneA ?_;obtain ⟨au,a0,D⟩:=obind D;refine Zar C 0 rfl rfl rfl a0 fun av aw C=>?_;dsimp at C;obtain rfl:=oI D;exact ⟨m,ltS,_,pk C [0,1],I⟩
 ·obtain ⟨ab,g⟩:=Zj D;refine ⟨fun v i6 w=>∃ xs:List (List Bool),S ψ h w [.it (El.ow (El.ow El.bool)) [s] xs,.box b1 [c,e]]/\loopN (Ze6 k) v (i6,xs)=some a,⟨ab,_,pk C [0,1],g⟩,?_⟩;rintro v _ i6 w ⟨xs,C,g⟩;obtain ⟨ae,ax,rfl,D,o⟩:=Zi g;rw [Ze6] at D;refine bV C 1 1 ?_;refine vL l C.le ?_;refine brQ D (fun D=>?_) fun D=>?_
  ·refine bV C 1 1 ?_;refine ixA slA D fun ay az ad a1 D=>?_;obtain ⟨cs,ck,hr⟩:=l.cells ad a1 rfl;obtain rfl:=ZaA hr;refine kI ck C.le 0 ?_;refine kI ck C.le 1 ?_;refine new_S C fun b7 b0 C=>?_;refine boxA fun b2 C=>?_;refine boxA fun aj C=>?_;refine bI C 0 0 ?_;refine ixA slA D fun b3 b4 a2 i D=>?_;refine Zba C 1 rfl a2 i fun b5 hd=>?_;refine bI C 0 1 ?_;refine ixA (C.rowC 1 rfl hd i ZbQ) D fun b6 b8 a3 a4 D=>?_;refine Zks C 1 rfl hd i a3 a4 rfl (fun _=>⟨rfl,rfl⟩) fun ak C=>?_;dsimp at C;refine bI C 0 1 ?_;refine ixA slA D fun b9 ba a5 j D=>?_;refine Zba C 1 rfl a5 j fun bb p=>?_;refine bI C 0 0 ?_;refine ixA (C.rowC 1 rfl p j ZbQ) D fun bc bd a6 a7 D=>?_;refine Zks C 1 rfl p j a6 a7 rfl (fun _=>⟨rfl,rfl⟩) fun al C=>?_;dsimp at C;obtain rfl:=oI D;exact ⟨ae,ltS,_,pk C [1,2],o⟩
  ·obtain rfl:=oI D;obtain rfl:=oI o;obtain rfl:=oI I;exact ⟨s,rfl,pk C [0]⟩
theorem Zwt {w e f r} (D:ZhZ w=some r) (ac:SlC (hcell h) eI e w.Colors) (ae:SlC (hcell h) Zf f w.Edges):zL 232 #[.agg #[e,f]] h ψ eL r:=by
 refine zv ⟨[(4,[(4,.v),(5,.i .i64)]),(8,[(6,.v),(7,.i .i64)])],[],[],[]⟩ Tryz.func232 ?_;rw [ZhZ] at D;have C:=sZ hψ;refine new_S C fun b1 ah C=>?_;refine bV C 0 0 ?_;refine bV C 0 1 ?_;refine cl1 D C (fun s _ _ hx=>Zti s.fle hx slA slA) fun k v9 ai C D=>⟨_,rfl,?_⟩;have C:=C.freeze 0 rfl (Zk (Zk ZbQ));dsimp at C;refine ZP (E:=eL) (css:=[]) (xs:=([]:List (List Int))) C (fun _=>rfl) rfl rfl fun aj ak C=>?_;obtain ⟨a8,x⟩:=Zj D;refine ⟨fun n l y o=>∃ c:List (List Int),S ψ h o [.it (El.ow eL) [l] c,.it (El.sl (El.sl El.bool)) [v9] k,.box b1 [e,f]]/\loopN (Zgn k) n (c,y)=some r,⟨a8,_,pk C [0,1,2],x⟩,?_⟩;rintro n _ l y o ⟨c,C,x⟩;obtain ⟨m,a,rfl,D,I⟩:=Zi x;rw [Zgn] at D;refine Zn slA ?_;refine brQ D (fun D=>?_) fun D=>?_
 ·refine ZP (E:=eI) (css:=[]) (xs:=([]:List Int)) C (fun _=>rfl) rfl rfl fun al am C=>?_;obtain ⟨a9,i⟩:=Zj D;refine ⟨fun p v6 b7 u=>∃ g:List Int,S ψ h u [.it oL [v6] g,.it (El.ow eL) [l] c,.it (El.sl (El.sl El.bool)) [v9] k,.box b1 [e,f]]/\loopN (ZcQ k c y) p (g,b7)=some a,⟨a9,_,pk C [0,1,2,3],i⟩,?_⟩;rintro p _ v6 b7 u ⟨g,C,i⟩;obtain ⟨v,an,rfl,D,j⟩:=Zi i;rw [ZcQ] at D;refine Zn slA ?_;refine brQ D (fun D=>?_) fun D=>?_
  ·refine ixA slA D fun ao ap ad a0 D=>?_;refine ZoC C 2 rfl ad a0 fun aq C=>?_;refine ixA slA D fun ar au a1 a2 D=>?_;refine ldB_C slA a1 a2 ?_;refine brQ D (fun D=>?_) fun D=>?_
   ·obtain ⟨av,a3,D⟩:=obind D;refine ZO C 1 rfl (fun _=>⟨rfl,rfl⟩) rfl rfl a3 fun aw ax C=>?_;dsimp at C;obtain rfl:=oI D;exact ⟨v,ltS,_,pk C [1,2,3,4],j⟩
   ·obtain rfl:=oI D;exact ⟨v,ltS,_,pk C [1,2,3,4],j⟩
  ·refine ZH oneA ?_;have C:=C.freeze 0 rfl (Zk (Zh _));dsimp at C;have C:=C.copyF 0 rfl;obtain ⟨ay,a4,D⟩:=obind D;refine Zar C 1 rfl rfl rfl a4 fun az b0 C=>?_;dsimp at C;obtain rfl:=oI D;obtain rfl:=oI j;exact ⟨m,ltS,_,pk C [1,2,3],I⟩
 ·obtain rfl:=oI D;obtain rfl:=oI I;exact ⟨l,rfl,pk C [0]⟩
theorem ZAE {c v0 n1 r} (D:Zmc c n1=some r) (f0:SlC (hcell h) eI v0 c):zL 292 #[v0,.int .i64 n1] h ψ eI r:=by
 refine zv ⟨[(4,[(5,.v),(6,.b),(7,.i .i64)])],[(7,[(24,.b)]),(10,[(5,.v),(6,.b)])],[],[]⟩ Tryz.func292 ?_;rw [Zmc] at D;have C:=sZ hψ;refine ZP (E:=eI) (css:=[]) (xs:=([]:List Int)) C (fun _=>rfl) rfl rfl fun v8 a3 C=>?_;obtain ⟨a0,v⟩:=Zj D;refine ⟨fun n k i l o=>∃ e:List Int,S ψ h o [.it oL [k] e]/\loopN (ZaP c n1) n (e,i,l)=some r,⟨a0,_,pk C [0],v⟩,?_⟩;rintro n _ k i l o ⟨e,C,v⟩;obtain ⟨m,a,rfl,D,I⟩:=Zi v;rw [ZaP] at D;refine vL f0 C.le ?_;refine brQ D (fun D=>?_) fun D=>?_
 ·refine ⟨fun j g p=>∃ f:List Int,S ψ h p [.it oL [j] f]/\Zcc c l f g=some a,?_,?_⟩
  ·refine ⟨fun s u=>S ψ h u [.it oL [k] e]/\Zdh c n1 e i l s=some a,?_,?_⟩
   ·refine brQ D (fun D=>?_) fun D=>?_
    ·refine ixI slA D fun a4 D=>?_;exact ⟨pk C [0],D⟩
    ·exact ⟨pk C [0],D⟩
   ·rintro _ s u ⟨C,D⟩;rw [Zdh] at D;refine brQ D (fun D=>?_) fun D=>?_
    ·refine ixI slA D fun a5 D=>?_;refine brQ D (fun D=>?_) fun D=>?_
     ·obtain ⟨a6,w,D⟩:=obind D;refine ZO C 0 rfl (fun _=>⟨rfl,rfl⟩) rfl rfl w fun a7 a8 C=>?_;dsimp at C;exact ⟨_,pk C [0],D⟩
     ·exact ⟨_,pk C [0],D⟩
    ·exact ⟨_,pk C [0],D⟩
  ·rintro _ j g p ⟨f,C,D⟩;rw [Zcc] at D;refine ixI slA D fun a9 D=>?_;obtain ⟨aa,x,D⟩:=obind D;refine ZO C 0 rfl (fun _=>⟨rfl,rfl⟩) rfl rfl x fun ab ac C=>?_;dsimp at C;obtain rfl:=oI D;exact ⟨m,ltS,_,pk C [0],I⟩
 ·refine brQ D (fun D=>?_) fun D=>?_
  ·obtain ⟨ad,y,D⟩:=obind D;refine ZO C 0 rfl (fun _=>⟨rfl,rfl⟩) rfl rfl y fun a1 ae C=>?_;dsimp at C;obtain rfl:=oI D;obtain rfl:=oI I;exact ⟨a1,rfl,pk C [0]⟩
  ·obtain rfl:=oI D;obtain rfl:=oI I;exact ⟨k,rfl,pk C [0]⟩
theorem ZnW {c v0 r} (D:Zeh c=some r) (o:SlC (hcell h) eI v0 c):zR 264 #[v0] h ψ (.int .i64 r):=by
 refine zv ⟨[(3,[(3,.v),(4,.i .i64)])],[],[],[]⟩ Tryz.func264 ?_;rw [Zeh] at D;have C:=sZ hψ;refine ZP (E:=eI) (css:=[]) (xs:=([]:List Int)) C (fun _=>rfl) rfl rfl fun y p C=>?_;obtain ⟨j,g⟩:=Zj D;refine ⟨fun n k l f=>∃ e:List Int,S ψ h f [.it oL [k] e]/\loopN (ZfS c) n (e,l)=some r,⟨j,_,pk C [0],g⟩,?_⟩;rintro n _ k l f ⟨e,C,g⟩;obtain ⟨m,a,rfl,D,I⟩:=Zi g;rw [ZfS] at D;refine vL o C.le ?_;refine brQ D (fun D=>?_) fun D=>?_
 ·refine ixI slA D fun u D=>?_;refine cl1 D C (fun s _ _ i=>ZAE s.fle i slA) fun v w x C D=>⟨_,rfl,?_⟩;obtain rfl:=oI D;exact ⟨m,ltS,_,pk C [0],I⟩
 ·refine Zn slA ?_;exact tZ
theorem Zqr {c v0 r} (D:Zh0 c=some r) (f0:SlC (hcell h) eI v0 c):zL 293 #[v0] h ψ eI r:=by
 refine zv ⟨[(3,[(3,.v),(4,.i .i64)]),(7,[(5,.i .i64)])],[(8,[])],[],[]⟩ Tryz.func293 ?_;rw [Zh0] at D;have C:=sZ hψ;refine ZP (E:=eI) (css:=[]) (xs:=([]:List Int)) C (fun _=>rfl) rfl rfl fun v7 a7 C=>?_;obtain ⟨a2,p⟩:=Zj D;refine ⟨fun n s u i=>∃ e:List Int,S ψ h i [.it oL [s] e]/\loopN (Zg0 c) n (e,u)=some r,⟨a2,_,pk C [0],p⟩,?_⟩;rintro n _ s u i ⟨e,C,p⟩;obtain ⟨m,a,rfl,D,I⟩:=Zi p;rw [Zg0] at D;refine vL f0 C.le ?_;refine brQ D (fun D=>?_) fun D=>?_
 ·refine Zn slA ?_;refine ixI slA D fun a8 D=>?_;obtain ⟨a9,v,D⟩:=obind D;refine ZO C 0 rfl (fun _=>⟨rfl,rfl⟩) rfl rfl v fun j aa C=>?_;dsimp at C;obtain ⟨a3,f⟩:=Zj D;refine ⟨fun k w l=>∃ xs:List Int,S ψ h l [.it oL [j] xs]/\loopN (ZcT u) k (w,xs)=some a,⟨a3,_,pk C [0],f⟩,?_⟩;rintro k _ w l ⟨xs,C,f⟩;obtain ⟨a4,a5,rfl,D,g⟩:=Zi f;rw [ZcT] at D;refine ⟨fun o=>S ψ h o [.it oL [j] xs]/\ZlL w xs=some a5,?_,?_⟩
  ·refine brQ D (fun D=>?_) fun D=>?_
   ·refine ixI slA D fun ab D=>?_;refine ixI slA D fun ac D=>?_;refine brQ D (fun D=>?_) fun D=>?_
    ·exact ⟨pk C [0],D⟩
    ·obtain rfl:=oI D;obtain rfl:=oI g;exact ⟨m,ltS,_,pk C [0],I⟩
   ·obtain rfl:=oI D;obtain rfl:=oI g;exact ⟨m,ltS,_,pk C [0],I⟩
  ·rintro _ o ⟨C,D⟩;rw [ZlL] at D;refine ixI slA D fun ad D=>?_;refine ixI slA D fun ae D=>?_;refine ixA slA D fun af ag x y D=>?_;refine st1_S C 0 rfl x y rfl (fun _=>⟨rfl,rfl⟩) fun ah C=>?_;dsimp at C;refine ixA slA D fun ai aj a0 a1 D=>?_;refine st1_S C 0 rfl a0 a1 rfl (fun _=>⟨rfl,rfl⟩) fun ak C=>?_;dsimp at C;obtain rfl:=oI D;exact ⟨a4,ltS,_,pk C [0],g⟩
 ·obtain rfl:=oI D;obtain rfl:=oI I;exact ⟨s,rfl,pk C [0]⟩
end
end Go.Proofs.YtepnljbkgjbbmaaGreatDoor
