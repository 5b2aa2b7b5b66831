import Derived.Test.YtepnljbkgjbbmaaGreatDoorVcAu
import Derived.Test.YtepnljbkgjbbmaaGreatDoorVcDn
import Derived.Test.YtepnljbkgjbbmaaGreatDoorVcTxt
import Derived.Test.YtepnljbkgjbbmaaGreatDoorVcQ
import Derived.Test.YtepnljbkgjbbmaaGreatDoorPuFns
import Derived.Test.YtepnljbkgjbbmaaGreatDoorVcFns
import Derived.Test.YtepnljbkgjbbmaaGreatDoorVcFld
import Derived.Test.YtepnljbkgjbbmaaGreatDoorVcIns
import Derived.Test.YtepnljbkgjbbmaaGreatDoorVcCpt
import Derived.Test.YtepnljbkgjbbmaaGreatDoorVcGrow
import Derived.Test.YtepnljbkgjbbmaaGreatDoorVcSortI
import Derived.Test.YtepnljbkgjbbmaaGreatDoorVcSortK
import Derived.Test.YtepnljbkgjbbmaaGreatDoorVcLay
open Go.IntKind renaming i64->ε
namespace Go.Proofs.YtepnljbkgjbbmaaGreatDoor
open Go Go.Vc
set_option linter.unusedVariables false
set_option linter.unusedSimpArgs false
set_option maxRecDepth 20000
def ZrS:El Z1:=El.iso (El.pair eI (El.pair eI (El.ow oL))) (fun x=>(x.Kind,x.Size,x.Rows)) (Z1.mk (0:Int) (0:Int) ([]:List (List Int))) rfl
def Zdl:El Z1:=El.iso (El.pair eI (El.pair eI (El.sl eL))) (fun x=>(x.Kind,x.Size,x.Rows)) (Z1.mk (0:Int) (0:Int) ([]:List (List Int))) rfl
theorem frzo_T_laws_Object:Frz ZrS Zdl:=ZU (Zo (Zk _) (Zo (Zk _) (ZI (ZI (Zk _)))))
theorem frzf_T_laws_Object:Frz Zdl Zdl:=ZU (Zo (Zk _) (Zo (Zk _) (Zac _)))
theorem ZFB {k:CM} {L:Rws} {cs:List Value} {x:Z1} (h:Zdl.R k L cs x):∃ g:Value,cs=[.int .i64 x.Kind,.int .i64 x.Size,g]/\SlC k eL g x.Rows:=by
  obtain ⟨_,_,_,_,rfl,_,a,c⟩:=h;obtain ⟨_,rfl⟩:=a;obtain ⟨_,_,_,_,rfl,_,e,f⟩:=c;obtain ⟨_,rfl⟩:=e;obtain ⟨_,i,rfl,j⟩:=f;exact ⟨i,rfl,j⟩
def ZqL:El Zal:=El.iso (El.pair El.str (El.pair ZrS El.str)) (fun x=>(x.Name,x.Object,x.Key)) (Zal.mk (⟨#[]⟩:ByteArray) (Z1.mk (0:Int) (0:Int) ([]:List (List Int))) (⟨#[]⟩:ByteArray)) rfl
def ZaO:El Zal:=El.iso (El.pair El.str (El.pair Zdl El.str)) (fun x=>(x.Name,x.Object,x.Key)) (Zal.mk (⟨#[]⟩:ByteArray) (Z1.mk (0:Int) (0:Int) ([]:List (List Int))) (⟨#[]⟩:ByteArray)) rfl
theorem frzo_T_laws_Item:Frz ZqL ZaO:=ZU (Zo Zcb (Zo frzo_T_laws_Object Zcb))
theorem frzf_T_laws_Item:Frz ZaO ZaO:=ZU (Zo Zcb (Zo frzf_T_laws_Object Zcb))
theorem ZuM {r:CM} {L:Rws} {cs:List Value} {x:Zal} (h:ZaO.R r L cs x):∃ l:Value,cs=[.string x.Name,.int .i64 x.Object.Kind,.int .i64 x.Object.Size,l,.string x.Key]/\SlC r eL l x.Object.Rows:=by
  obtain ⟨_,_,_,_,rfl,_,a,c⟩:=h;obtain ⟨_,rfl⟩:=a;obtain ⟨_,_,_,_,rfl,_,e,f⟩:=c;obtain ⟨_,_,_,_,rfl,_,g,i⟩:=e;obtain ⟨_,rfl⟩:=g;obtain ⟨_,_,_,_,rfl,_,j,k⟩:=i;obtain ⟨_,rfl⟩:=j;obtain ⟨_,o,rfl,p⟩:=k;obtain ⟨_,rfl⟩:=f;exact ⟨o,rfl,p⟩
def ZEi:El Zae:=El.iso (El.ow ZqL) (fun x=>(x.Items)) (Zae.mk ([]:List Zal)) rfl
def ZhR:El Zae:=El.iso (El.sl ZaO) (fun x=>(x.Items)) (Zae.mk ([]:List Zal)) rfl
theorem frzo_T_laws_Catalog:Frz ZEi ZhR:=ZU (ZI frzo_T_laws_Item)
theorem frzf_T_laws_Catalog:Frz ZhR ZhR:=ZU (Zac _)
theorem ZxH {e:CM} {L:Rws} {cs:List Value} {x:Zae} (h:ZhR.R e L cs x):∃ v0:Value,cs=[v0]/\SlC e ZaO v0 x.Items:=by
  obtain ⟨_,w2,rfl,a⟩:=h;exact ⟨w2,rfl,a⟩
def Zsp:El Zg:=El.iso (El.pair eI (El.pair eI (El.ow oL))) (fun x=>(x.Kind,x.Size,x.Rows)) (Zg.mk (0:Int) (0:Int) ([]:List (List Int))) rfl
def Zjq:El Zg:=El.iso (El.pair eI (El.pair eI (El.sl eL))) (fun x=>(x.Kind,x.Size,x.Rows)) (Zg.mk (0:Int) (0:Int) ([]:List (List Int))) rfl
theorem frzo_T_impl_Object:Frz Zsp Zjq:=ZU (Zo (Zk _) (Zo (Zk _) (ZI (ZI (Zk _)))))
theorem frzf_T_impl_Object:Frz Zjq Zjq:=ZU (Zo (Zk _) (Zo (Zk _) (Zac _)))
def ZS:El Zd:=El.iso (El.pair El.str (El.pair Zsp El.str)) (fun x=>(x.Name,x.Object,x.Key)) (Zd.mk (⟨#[]⟩:ByteArray) (Zg.mk (0:Int) (0:Int) ([]:List (List Int))) (⟨#[]⟩:ByteArray)) rfl
def ZL:El Zd:=El.iso (El.pair El.str (El.pair Zjq El.str)) (fun x=>(x.Name,x.Object,x.Key)) (Zd.mk (⟨#[]⟩:ByteArray) (Zg.mk (0:Int) (0:Int) ([]:List (List Int))) (⟨#[]⟩:ByteArray)) rfl
theorem frzo_T_impl_Item:Frz ZS ZL:=ZU (Zo Zcb (Zo frzo_T_impl_Object Zcb))
theorem frzf_T_impl_Item:Frz ZL ZL:=ZU (Zo Zcb (Zo frzf_T_impl_Object Zcb))
theorem pko_T_impl_Item {ψ:CM} {a h:Heap} {os:List Ob} {x0:ByteArray} {x1 x2:Int} {c:List (List Int)} {e:Value} {x4:ByteArray} (C:S ψ a h (.it (El.ow oL) [e] c::os)):S ψ a h (.it ZS [.string x0,.int .i64 x1,.int .i64 x2,e,.string x4] (Zd.mk x0 (Zg.mk x1 x2 c) x4)::os):=by
  obtain ⟨j,l,s,g,k,rfl,f,r⟩:=C;exact ⟨j,_,s,([]++(([]++([]++g))++[])),k,by simp,(ZcS ZjE (ZcS (ZcS ZjZ (ZcS ZjZ f)) ZjE)),r⟩
theorem pkf_T_impl_Item {ψ:CM} {a h:Heap} {os:List Ob} {x0:ByteArray} {x1 x2:Int} {c:List (List Int)} {e:Value} {x4:ByteArray} (C:S ψ a h (.it (El.sl eL) [e] c::os)):S ψ a h (.it ZL [.string x0,.int .i64 x1,.int .i64 x2,e,.string x4] (Zd.mk x0 (Zg.mk x1 x2 c) x4)::os):=by
  obtain ⟨j,l,s,g,k,rfl,f,r⟩:=C;exact ⟨j,_,s,([]++(([]++([]++g))++[])),k,by simp,(ZcS ZjE (ZcS (ZcS ZjZ (ZcS ZjZ f)) ZjE)),r⟩
theorem Zam {r:CM} {L:Rws} {cs:List Value} {x:Zd} (h:ZL.R r L cs x):∃ l:Value,cs=[.string x.Name,.int .i64 x.Object.Kind,.int .i64 x.Object.Size,l,.string x.Key]/\SlC r eL l x.Object.Rows:=by
  obtain ⟨_,_,_,_,rfl,_,a,c⟩:=h;obtain ⟨_,rfl⟩:=a;obtain ⟨_,_,_,_,rfl,_,e,f⟩:=c;obtain ⟨_,_,_,_,rfl,_,g,i⟩:=e;obtain ⟨_,rfl⟩:=g;obtain ⟨_,_,_,_,rfl,_,j,k⟩:=i;obtain ⟨_,rfl⟩:=j;obtain ⟨_,o,rfl,p⟩:=k;obtain ⟨_,rfl⟩:=f;exact ⟨o,rfl,p⟩
def ZFs:El Zi:=El.iso (El.ow ZS) (fun x=>(x.Items)) (Zi.mk ([]:List Zd)) rfl
def ZpV:El Zi:=El.iso (El.sl ZL) (fun x=>(x.Items)) (Zi.mk ([]:List Zd)) rfl
theorem frzo_T_impl_Catalog:Frz ZFs ZpV:=ZU (ZI frzo_T_impl_Item)
theorem frzf_T_impl_Catalog:Frz ZpV ZpV:=ZU (Zac _)
def ZEj:El Zaf:=El.iso (El.pair eI (El.ow oL)) (fun x=>(x.Points,x.Blocks)) (Zaf.mk (0:Int) ([]:List (List Int))) rfl
def Zpf:El Zaf:=El.iso (El.pair eI (El.sl eL)) (fun x=>(x.Points,x.Blocks)) (Zaf.mk (0:Int) ([]:List (List Int))) rfl
theorem frzo_T_impl_Design:Frz ZEj Zpf:=ZU (Zo (Zk _) (ZI (ZI (Zk _))))
theorem frzf_T_impl_Design:Frz Zpf Zpf:=ZU (Zo (Zk _) (Zac _))
def ZEh:El Zai:=El.iso (El.pair eI (El.pair eI (El.ow oL))) (fun x=>(x.Levels,x.Columns,x.Rows)) (Zai.mk (0:Int) (0:Int) ([]:List (List Int))) rfl
def ZpD:El Zai:=El.iso (El.pair eI (El.pair eI (El.sl eL))) (fun x=>(x.Levels,x.Columns,x.Rows)) (Zai.mk (0:Int) (0:Int) ([]:List (List Int))) rfl
theorem frzo_T_impl_Array:Frz ZEh ZpD:=ZU (Zo (Zk _) (Zo (Zk _) (ZI (ZI (Zk _)))))
theorem frzf_T_impl_Array:Frz ZpD ZpD:=ZU (Zo (Zk _) (Zo (Zk _) (Zac _)))
def Zse:El Ze:=El.iso (El.pair eI (El.pair eI oL)) (fun x=>(x.Prime,x.Degree,x.Poly)) (Ze.mk (0:Int) (0:Int) ([]:List Int)) rfl
def Zjl:El Ze:=El.iso (El.pair eI (El.pair eI eL)) (fun x=>(x.Prime,x.Degree,x.Poly)) (Ze.mk (0:Int) (0:Int) ([]:List Int)) rfl
theorem frzo_T_impl_Field:Frz Zse Zjl:=ZU (Zo (Zk _) (Zo (Zk _) (ZI (Zk _))))
theorem frzf_T_impl_Field:Frz Zjl Zjl:=ZU (Zo (Zk _) (Zo (Zk _) (Zac _)))
def ZB3:El ZZ:=El.iso (El.pair Zse (El.ow oL)) (fun x=>(x.Field,x.Rows)) (ZZ.mk (Ze.mk (0:Int) (0:Int) ([]:List Int)) ([]:List (List Int))) rfl
def Zn5:El ZZ:=El.iso (El.pair Zjl (El.sl eL)) (fun x=>(x.Field,x.Rows)) (ZZ.mk (Ze.mk (0:Int) (0:Int) ([]:List Int)) ([]:List (List Int))) rfl
theorem frzo_T_impl_Code:Frz ZB3 Zn5:=ZU (Zo frzo_T_impl_Field (ZI (ZI (Zk _))))
theorem frzf_T_impl_Code:Frz Zn5 Zn5:=ZU (Zo frzf_T_impl_Field (Zac _))
def Zui:El Zb:=El.iso (El.pair eI eI) (fun x=>(x.A,x.B)) (Zb.mk (0:Int) (0:Int)) rfl
def Zf:El Zb:=El.iso (El.pair eI eI) (fun x=>(x.A,x.B)) (Zb.mk (0:Int) (0:Int)) rfl
theorem frzo_T_impl_Edge:Frz Zui Zf:=ZU (Zo (Zk _) (Zk _))
theorem frzf_T_impl_Edge:Frz Zf Zf:=ZU (Zo (Zk _) (Zk _))
theorem ZnI:Plain Zf:=ZFU (ZHO (Zbl _) (Zbl _))
theorem Zaw {e:CM} {L:Rws} {cs:List Value} {x:Zb} (h:Zf.R e L cs x):cs=[.int .i64 x.A,.int .i64 x.B]:=by
  obtain ⟨_,_,_,_,rfl,_,a,c⟩:=h;obtain ⟨_,rfl⟩:=a;obtain ⟨_,rfl⟩:=c;rfl
def Zis:El Za:=El.iso (El.pair oL (El.ow Zui)) (fun x=>(x.Colors,x.Edges)) (Za.mk ([]:List Int) ([]:List Zb)) rfl
def Zea:El Za:=El.iso (El.pair eL (El.sl Zf)) (fun x=>(x.Colors,x.Edges)) (Za.mk ([]:List Int) ([]:List Zb)) rfl
theorem frzo_T_impl_Graph:Frz Zis Zea:=ZU (Zo (ZI (Zk _)) (ZI frzo_T_impl_Edge))
theorem frzf_T_impl_Graph:Frz Zea Zea:=ZU (Zo (Zac _) (Zac _))
def Zzi:El ZaB:=El.iso (El.pair eI (El.ow oL)) (fun x=>(x.Degree,x.Elements)) (ZaB.mk (0:Int) ([]:List (List Int))) rfl
def ZoN:El ZaB:=El.iso (El.pair eI (El.sl eL)) (fun x=>(x.Degree,x.Elements)) (ZaB.mk (0:Int) ([]:List (List Int))) rfl
theorem frzo_T_impl_Group:Frz Zzi ZoN:=ZU (Zo (Zk _) (ZI (ZI (Zk _))))
theorem frzf_T_impl_Group:Frz ZoN ZoN:=ZU (Zo (Zk _) (Zac _))
def Zzr:El Zz:=El.iso (El.pair Zis (El.pair (El.ow oL) (El.pair Zis (El.pair (El.ow oL) (El.pair eI (El.pair eI (El.pair eI El.bool))))))) (fun x=>(x.qg,x.qnear,x.qbest,x.qperms,x.qnodes,x.qleaves,x.qbudget,x.qfull)) (Zz.mk (Za.mk ([]:List Int) ([]:List Zb)) ([]:List (List Int)) (Za.mk ([]:List Int) ([]:List Zb)) ([]:List (List Int)) (0:Int) (0:Int) (0:Int) false) rfl
def Zo3:El Zz:=El.iso (El.pair Zea (El.pair (El.sl eL) (El.pair Zea (El.pair (El.sl eL) (El.pair eI (El.pair eI (El.pair eI El.bool))))))) (fun x=>(x.qg,x.qnear,x.qbest,x.qperms,x.qnodes,x.qleaves,x.qbudget,x.qfull)) (Zz.mk (Za.mk ([]:List Int) ([]:List Zb)) ([]:List (List Int)) (Za.mk ([]:List Int) ([]:List Zb)) ([]:List (List Int)) (0:Int) (0:Int) (0:Int) false) rfl
theorem frzo_T_spec_l22Find:Frz Zzr Zo3:=ZU (Zo frzo_T_impl_Graph (Zo (ZI (ZI (Zk _))) (Zo frzo_T_impl_Graph (Zo (ZI (ZI (Zk _))) (Zo (Zk _) (Zo (Zk _) (Zo (Zk _) Zcd)))))))
theorem frzf_T_spec_l22Find:Frz Zo3 Zo3:=ZU (Zo frzf_T_impl_Graph (Zo (Zac _) (Zo frzf_T_impl_Graph (Zo (Zac _) (Zo (Zk _) (Zo (Zk _) (Zo (Zk _) Zcd)))))))
def ZH1:El Z2:=El.iso (El.pair eI (El.pair (El.ow oL) (El.pair (El.ow oL) (El.pair (El.ow oL) oL)))) (fun x=>(x.qq,x.qadd,x.qsub,x.qmul,x.qinv)) (Z2.mk (0:Int) ([]:List (List Int)) ([]:List (List Int)) ([]:List (List Int)) ([]:List Int)) rfl
def Zop:El Z2:=El.iso (El.pair eI (El.pair (El.sl eL) (El.pair (El.sl eL) (El.pair (El.sl eL) eL)))) (fun x=>(x.qq,x.qadd,x.qsub,x.qmul,x.qinv)) (Z2.mk (0:Int) ([]:List (List Int)) ([]:List (List Int)) ([]:List (List Int)) ([]:List Int)) rfl
theorem frzo_T_impl_arithmetic:Frz ZH1 Zop:=ZU (Zo (Zk _) (Zo (ZI (ZI (Zk _))) (Zo (ZI (ZI (Zk _))) (Zo (ZI (ZI (Zk _))) (ZI (Zk _))))))
theorem frzf_T_impl_arithmetic:Frz Zop Zop:=ZU (Zo (Zk _) (Zo (Zac _) (Zo (Zac _) (Zo (Zac _) (Zac _)))))
def ZtN:El Zad:=El.iso (El.pair eI El.bool) (fun x=>(x.qleft,x.qspent)) (Zad.mk (0:Int) false) rfl
def ZkN:El Zad:=El.iso (El.pair eI El.bool) (fun x=>(x.qleft,x.qspent)) (Zad.mk (0:Int) false) rfl
theorem frzo_T_impl_counter:Frz ZtN ZkN:=ZU (Zo (Zk _) Zcd)
theorem frzf_T_impl_counter:Frz ZkN ZkN:=ZU (Zo (Zk _) Zcd)
def ZCU:El Zu:=El.iso (El.pair ZtN (El.pair Zis (El.pair (El.ow oL) (El.pair eI (El.pair eI (El.pair Zis (El.ow oL))))))) (fun x=>(x.qcounter,x.qgraph,x.qlists,x.qnodes,x.qleaves,x.qform,x.qbest)) (Zu.mk (Zad.mk (0:Int) false) (Za.mk ([]:List Int) ([]:List Zb)) ([]:List (List Int)) (0:Int) (0:Int) (Za.mk ([]:List Int) ([]:List Zb)) ([]:List (List Int))) rfl
def ZpS:El Zu:=El.iso (El.pair ZkN (El.pair Zea (El.pair (El.sl eL) (El.pair eI (El.pair eI (El.pair Zea (El.sl eL))))))) (fun x=>(x.qcounter,x.qgraph,x.qlists,x.qnodes,x.qleaves,x.qform,x.qbest)) (Zu.mk (Zad.mk (0:Int) false) (Za.mk ([]:List Int) ([]:List Zb)) ([]:List (List Int)) (0:Int) (0:Int) (Za.mk ([]:List Int) ([]:List Zb)) ([]:List (List Int))) rfl
theorem frzo_T_impl_explorer:Frz ZCU ZpS:=ZU (Zo frzo_T_impl_counter (Zo frzo_T_impl_Graph (Zo (ZI (ZI (Zk _))) (Zo (Zk _) (Zo (Zk _) (Zo frzo_T_impl_Graph (ZI (ZI (Zk _)))))))))
theorem frzf_T_impl_explorer:Frz ZpS ZpS:=ZU (Zo frzf_T_impl_counter (Zo frzf_T_impl_Graph (Zo (Zac _) (Zo (Zk _) (Zo (Zk _) (Zo frzf_T_impl_Graph (Zac _)))))))
theorem frzA {α:Type} {E a:El α} (h:Frz E a:=by first|exact Zk _|exact Zcd|exact Zcb|exact Zac _|exact ZI frzA|exact frzo_T_laws_Object|exact frzf_T_laws_Object|exact frzo_T_laws_Item|exact frzf_T_laws_Item|exact frzo_T_laws_Catalog|exact frzf_T_laws_Catalog|exact frzo_T_impl_Object|exact frzf_T_impl_Object|exact frzo_T_impl_Item|exact frzf_T_impl_Item|exact frzo_T_impl_Catalog|exact frzf_T_impl_Catalog|exact frzo_T_impl_Design|exact frzf_T_impl_Design|exact frzo_T_impl_Array|exact frzf_T_impl_Array|exact frzo_T_impl_Field|exact frzf_T_impl_Field|exact frzo_T_impl_Code|exact frzf_T_impl_Code|exact frzo_T_impl_Edge|exact frzf_T_impl_Edge|exact frzo_T_impl_Graph|exact frzf_T_impl_Graph|exact frzo_T_impl_Group|exact frzf_T_impl_Group|exact frzo_T_spec_l22Find|exact frzf_T_spec_l22Find|exact frzo_T_impl_arithmetic|exact frzf_T_impl_arithmetic|exact frzo_T_impl_counter|exact frzf_T_impl_counter|exact frzo_T_impl_explorer|exact frzf_T_impl_explorer):Frz E a:=h
abbrev zR (f:FuncId) (a:Array Value) (h:Heap) (ψ:CM) (u:Value):Prop:=CallsH P f a h fun v h'=>v=u/\S ψ h h' []
abbrev zL {α:Type} (f:FuncId) (a:Array Value) (h:Heap) (ψ:CM) (E:El α) (r:List α):Prop:=CallsH P f a h fun v h'=>∃ w0:Value,v=w0/\S ψ h h' [.it (El.ow E) [w0] r]
set_option maxHeartbeats 4000000
attribute [local irreducible] CallsQ vLen vIdx IntKind.wrap hcell vNew vNewS vSliceS vStore1 vAppend vMake vCopy vB2S vS2B vNilS
section
variable {ψ:CM} {h:Heap} (hψ:CLe ψ (hcell h))
include hψ
theorem ZwP {c v0 a r} (I:Zey c a=some r) (e:sc h eI v0 c):zR 49 #[v0,.int .i64 a] h ψ (.int .i64 r):=by
 refine zv annO Tryz.func49 ?_;have C:=sZ hψ;refine vL e C.le ?_;exact brQ I (fun I=>tZ) fun I=>tZ
theorem ZBz {i v0 c r} (I:Zk4 i c=some r) (e:sc h eL v0 i):zR 22 #[v0,.int .i64 c] h ψ (.int .i64 r):=by
 refine zv ⟨[(5,[(1,tkI),(5,tkI)])],[],[],[]⟩ Tryz.func22 ?_;have C:=sZ hψ;refine vL e C.le ?_;refine brZ fun I=>?_;refine lp2 I (nlS C) fun m g v k a C I O=>?_;refine vL e C.le ?_;refine brY fun I=>?_;refine ixV e C.le I fun l o f I=>?_;refine cm0 I C (fun s j=>ZwP s j slA) fun p u C I=>⟨_,rfl,?_⟩;exact brQ I (fun I=>tZ) fun I=>tZ
theorem Zrm {e c a r} (I:Zfg e a=some r) (f:sc h eL c e.Rows):zR 6 #[.agg #[.int .i64 e.Kind,.int .i64 e.Size,c],.int .i64 a] h ψ (.int .i64 r):=by
 refine zv annO Tryz.func6 ?_;have C:=sZ hψ;refine new_S C fun k i C=>?_;refine bV C 0 2 ?_;refine cm0 I C (fun s g=>ZBz s g slA) fun r8 j C I=>⟨_,rfl,?_⟩;exact brQ I (fun I=>tZ) fun I=>tZ
theorem Zy1 {c e a r} (I:ZeH c a=some r) (f:sc h eL e c.Object.Rows):zR 48 #[.agg #[.string c.Name,.int .i64 c.Object.Kind,.int .i64 c.Object.Size,e,.string c.Key],.int .i64 a] h ψ (.int .i64 r):=by
 refine zv annO Tryz.func48 ?_;have C:=sZ hψ;refine new_S C fun l i C=>?_;refine bS C 0 0 ?_;refine brZ fun I=>?_;refine lsA ?_;refine cm0 I C (fun s g=>Zrm s g slA) fun j k C I=>⟨_,rfl,?_⟩;refine brZ fun I=>?_;refine bS C 0 4 ?_;exact brQ I (fun I=>tZ) fun I=>tZ
theorem ZIy {j v0 c r} (I:Zkr j c=some r) (e:sc h ZaO v0 j):zR 21 #[v0,.int .i64 c] h ψ (.int .i64 r):=by
 refine zv ⟨[(5,[(1,tkI),(5,tkI)])],[],[],[]⟩ Tryz.func21 ?_;have C:=sZ hψ;refine vL e C.le ?_;refine brZ fun I=>?_;refine lp2 I (nlS C) fun m i x l a C I O=>?_;refine vL e C.le ?_;refine brY fun I=>?_;refine ixA slA I fun o p k g I=>?_;obtain ⟨cs,y,hr⟩:=e.cells k g rfl;obtain ⟨u,rfl,f⟩:=ZuM hr;refine lsA ?_;refine cm0 I C (fun s g=>Zy1 s g slA) fun v w C I=>⟨_,rfl,?_⟩;exact brQ I (fun I=>tZ) fun I=>tZ
theorem ZDP {e c a r} (I:ZlF e a=some r) (f:sc h ZaO c e.Items):zR 5 #[.agg #[c],.int .i64 a] h ψ (.int .i64 r):=by
 refine zv annO Tryz.func5 ?_;have C:=sZ hψ;refine new_S C fun k i C=>?_;refine bV C 0 0 ?_;refine cm0 I C (fun s g=>ZIy s g slA) fun r8 j C I=>⟨_,rfl,?_⟩;exact brQ I (fun I=>tZ) fun I=>tZ
theorem ZF0 {e v0 r} (I:ZgK e=some r) (i:sc h eI v0 e):zL 63 #[v0] h ψ eI r:=by
 refine zv ⟨[(3,[(4,tkI)])],[],[],[]⟩ Tryz.func63 ?_;have C:=sZ hψ;refine vL i C.le ?_;refine mkO eI I fun w k o C I=>?_;refine ⟨fun n j c=>∃ xs,S ψ h c [.it oL [k] xs]/\loopN (Zj7 e) n (j,xs)=some r,endI,?_⟩;rintro n _ j c ⟨xs,C,l⟩;obtain ⟨m,a,rfl,I,O⟩:=Zh l;refine vL i C.le ?_;refine brQ I (fun I=>?_) fun I=>?_
 ·refine ixI slA I fun p I=>?_;refine ixA slA I fun s u f g I=>?_;refine st1_S C 0 rfl f g rfl (fun _=>⟨rfl,rfl⟩) fun v C=>?_;dsimp at C;exact endL
 ·obtain rfl:=oI I;obtain rfl:=oI O;exact endR
theorem ZvR {e v0 r} (I:Zgg e=some r) (g:sc h eL v0 e):zL 29 #[v0] h ψ oL r:=by
 refine zv ⟨[(3,[(4,tkI)])],[],[],[]⟩ Tryz.func29 ?_;have C:=sZ hψ;refine vL g C.le ?_;refine mkO oL I fun l7 l u C I=>?_;refine ⟨fun n k c=>∃ xs,S ψ h c [.it (El.ow oL) [l] xs]/\loopN (ZiX e) n (k,xs)=some r,endI,?_⟩;rintro n _ k c ⟨xs,C,o⟩;obtain ⟨m,a,rfl,I,O⟩:=Zh o;refine vL g C.le ?_;refine brQ I (fun I=>?_) fun I=>?_
 ·refine ixV g C.le I fun v w f I=>?_;refine cm1 I C (fun s p=>ZF0 s p slA) fun x y a1 C I=>⟨_,rfl,?_⟩;refine ixA slA I fun a2 a3 i j I=>?_;refine Zeu C 0 rfl i j rfl fun a4 C=>?_;dsimp at C;exact endL
 ·obtain rfl:=oI I;obtain rfl:=oI O;exact endR
theorem ZgD {c a r} (I:Zcl c=some r) (e:sc h eL a c.Rows):CallsH P 9 #[.agg #[.int .i64 c.Kind,.int .i64 c.Size,a]] h (fun v h'=>∃ w0,v=.agg #[.int .i64 r.Kind,.int .i64 r.Size,w0]/\S ψ h h' [.it (El.ow oL) [w0] r.Rows]):=by
 refine zv annO Tryz.func9 ?_;have C:=sZ hψ;refine new_S C fun y i C=>?_;refine new_S C fun b2 j C=>?_;refine new_S C fun b3 k C=>?_;refine bI C 2 0 ?_;refine boxA fun l C=>?_;refine bI C 2 1 ?_;refine boxA fun o C=>?_;refine bV C 2 2 ?_;refine cm1 I C (fun s f=>ZvR s f slA) fun p u w C I=>⟨_,rfl,?_⟩;refine boxA fun x C=>?_;refine lsA ?_;(iterate 3 refine boxA fun g C=>?_);refine lsA ?_;exact endS
theorem ZHP {a c r} (I:Zf0 a=some r) (e:sc h eL c a.Object.Rows):CallsH P 62 #[.agg #[.string a.Name,.int .i64 a.Object.Kind,.int .i64 a.Object.Size,c,.string a.Key]] h (fun v h'=>∃ w0,v=.agg #[.string r.Name,.int .i64 r.Object.Kind,.int .i64 r.Object.Size,w0,.string r.Key]/\S ψ h h' [.it (El.ow oL) [w0] r.Object.Rows]):=by
 refine zv annO Tryz.func62 ?_;have C:=sZ hψ;refine new_S C fun w j C=>?_;refine new_S C fun x k C=>?_;refine new_S C fun y l C=>?_;refine bS C 2 0 ?_;refine boxA fun o C=>?_;refine lsA ?_;refine cm1 I C (fun s f=>ZgD s f slA) fun r9 v9 p C I=>⟨_,_,_,rfl,?_⟩;(iterate 3 refine boxA fun u C=>?_);refine bS C 3 4 ?_;refine boxA fun g C=>?_;refine lsA ?_;(iterate 5 refine boxA fun i C=>?_);refine lsA ?_;exact endS
theorem ZFb {g v0 r} (I:Zf6 g=some r) (i:sc h ZaO v0 g):zL 28 #[v0] h ψ ZS r:=by
 refine zv ⟨[(3,[(4,tkI)])],[],[],[]⟩ Tryz.func28 ?_;have C:=sZ hψ;refine vL i C.le ?_;refine mkO ZS I fun l7 p x C I=>?_;refine ⟨fun n o e=>∃ xs,S ψ h e [.it (El.ow ZS) [p] xs]/\loopN (Zlk g) n (o,xs)=some r,endI,?_⟩;rintro n _ o e ⟨xs,C,u⟩;obtain ⟨m,a,rfl,I,O⟩:=Zh u;refine vL i C.le ?_;refine brQ I (fun I=>?_) fun I=>?_
 ·refine ixA slA I fun y a1 v j I=>?_;obtain ⟨cs,ck,hr⟩:=i.cells v j rfl;obtain ⟨a2,rfl,f⟩:=ZuM hr;refine lsA ?_;refine cm1 I C (fun s w=>ZHP s w slA) fun c a3 a4 C I=>⟨_,_,_,_,_,rfl,?_⟩;refine ixA slA I fun a5 a6 k l I=>?_;have C:=pko_T_impl_Item (x0:=c.Name) (x1:=c.Object.Kind) (x2:=c.Object.Size) (x4:=c.Key) C;refine Zuj C 0 rfl k l rfl fun a7 C=>?_;dsimp at C;exact endL
 ·obtain rfl:=oI I;obtain rfl:=oI O;exact endR
theorem ZkE {c a r} (I:Zd3 c=some r) (e:sc h ZaO a c.Items):CallsH P 8 #[.agg #[a]] h (fun v h'=>∃ w0,v=.agg #[w0]/\S ψ h h' [.it (El.ow ZS) [w0] r.Items]):=by
 refine zv annO Tryz.func8 ?_;have C:=sZ hψ;refine new_S C fun p g C=>?_;refine new_S C fun u i C=>?_;refine new_S C fun w j C=>?_;refine bV C 2 0 ?_;refine cm1 I C (fun s f=>ZFb s f slA) fun x y k C I=>⟨_,rfl,?_⟩;refine boxA fun l C=>?_;refine bV C 1 0 ?_;refine boxA fun o C=>?_;refine bV C 2 0 ?_;exact endS
theorem ZCr {c v0 e v1 r} (I:Zia c e=some r) (f:sc h eI v0 c) (g:sc h eI v1 e):zR 81 #[v0,v1] h ψ (.bool r):=by
 refine zv ⟨[(4,[(5,tkI)])],[],[],[]⟩ Tryz.func81 ?_;have C:=sZ hψ;refine vL f C.le ?_;refine vL g C.le ?_;refine brZ fun I=>?_;refine lp1 I (nlS C) fun m l i a C I O=>?_;refine vL f C.le ?_;refine brY fun I=>?_;refine ixI slA I fun j I=>?_;refine ixI slA I fun k I=>?_;exact brQ I (fun I=>tZ) fun I=>tZ
theorem ZEC {e v0 g v1 r} (I:Zkh e g=some r) (c:sc h eL v0 e) (i:sc h eL v1 g):zR 36 #[v0,v1] h ψ (.bool r):=by
 refine zv ⟨[(4,[(5,tkI)])],[],[],[]⟩ Tryz.func36 ?_;have C:=sZ hψ;refine vL c C.le ?_;refine vL i C.le ?_;refine brZ fun I=>?_;refine lp1 I (nlS C) fun m y k a C I O=>?_;refine vL c C.le ?_;refine brY fun I=>?_;refine ixV c C.le I fun l o f I=>?_;refine ixV i C.le I fun p u v I=>?_;refine cm0 I C (fun s j=>ZCr s j slA slA) fun w x C I=>⟨_,rfl,?_⟩;exact brQ I (fun I=>tZ) fun I=>tZ
theorem Zua {e a f c r} (I:Zhn e f=some r) (g:sc h eL a e.Rows) (i:sc h eL c f.Rows):zR 13 #[.agg #[.int .i64 e.Kind,.int .i64 e.Size,a],.agg #[.int .i64 f.Kind,.int .i64 f.Size,c]] h ψ (.bool r):=by
 refine zv annO Tryz.func13 ?_;have C:=sZ hψ;refine new_S C fun u k C=>?_;refine new_S C fun v l C=>?_;refine lsA ?_;refine brZ fun I=>?_;refine lsA ?_;refine brZ fun I=>?_;refine lsA ?_;refine cm0 I C (fun s j=>ZEC s j slA slA) fun o p C I=>⟨_,rfl,?_⟩;exact brQ I (fun I=>tZ) fun I=>tZ
theorem ZwB {a e c f r} (I:Zh6 a c=some r) (g:sc h eL e a.Object.Rows) (i:sc h eL f c.Object.Rows):zR 11 #[.agg #[.string a.Name,.int .i64 a.Object.Kind,.int .i64 a.Object.Size,e,.string a.Key],.agg #[.string c.Name,.int .i64 c.Object.Kind,.int .i64 c.Object.Size,f,.string c.Key]] h ψ (.bool r):=by
 refine zv annO Tryz.func11 ?_;have C:=sZ hψ;refine new_S C fun u k C=>?_;refine new_S C fun v l C=>?_;refine lsA ?_;refine brZ fun I=>?_;refine lsA ?_;refine cm0 I C (fun s j=>Zua s j slA slA) fun o p C I=>⟨_,rfl,?_⟩;refine brZ fun I=>?_;refine lsA ?_;exact brQ I (fun I=>tZ) fun I=>tZ
theorem ZAp {k v0 l v1 r} (I:Zi2 k l=some r) (c:sc h ZL v0 k) (o:sc h ZL v1 l):zR 35 #[v0,v1] h ψ (.bool r):=by
 refine zv ⟨[(4,[(5,tkI)])],[],[],[]⟩ Tryz.func35 ?_;have C:=sZ hψ;refine vL c C.le ?_;refine vL o C.le ?_;refine brZ fun I=>?_;refine lp1 I (nlS C) fun m i5 w a C I O=>?_;refine vL c C.le ?_;refine brY fun I=>?_;refine ixA slA I fun x y p e I=>?_;obtain ⟨cs,ck,hr⟩:=c.cells p e rfl;obtain ⟨a1,rfl,f⟩:=Zam hr;refine lsA ?_;refine ixA slA I fun a2 a3 g i I=>?_;obtain ⟨u,v,j⟩:=o.cells g i rfl;obtain ⟨a4,rfl,a5⟩:=Zam j;refine lsA ?_;refine cm0 I C (fun s e=>ZwB s e slA slA) fun a6 a7 C I=>⟨_,rfl,?_⟩;exact brQ I (fun I=>tZ) fun I=>tZ
theorem Zi3 {e a f c r} (I:Zds e f=some r) (g:sc h ZL a e.Items) (i:sc h ZL c f.Items):zR 12 #[.agg #[a],.agg #[c]] h ψ (.bool r):=by
 refine zv annO Tryz.func12 ?_;have C:=sZ hψ;refine new_S C fun p k C=>?_;refine new_S C fun u l C=>?_;refine lsA ?_;refine cm0 I C (fun s j=>ZAp s j slA slA) fun v o C I=>⟨_,rfl,?_⟩;exact brQ I (fun I=>tZ) fun I=>tZ
end
theorem Zv3 {ψ:CM} {f h:Heap} {os:List Ob} {i:List Int} {v0:Value} {k1:Int} {r:Int×(List Int)} (I:Zlv i k1=some r) (C:S ψ f h (.it oL [v0] i::os))  :CallsH P 83 #[v0,.int .i64 k1] h (fun v w=>v=.int .i64 r.1/\S ψ f w (.it oL [v0] r.2::os)):=by
 refine zv ⟨[(2,[(1,tkI),(5,tkI)])],[],[],[]⟩ Tryz.func83 ?_;obtain ⟨j,g⟩:=Zax I;refine ⟨fun n c k e=>∃ xs,S ψ f e (.it oL [v0] xs::os)/\loopN (Zk3) n (c,k,xs)=some r,⟨j,_,pkT C 1 [0],g⟩,?_⟩;rintro n _ c k e ⟨xs,C,g⟩;obtain ⟨m,a,rfl,I,O⟩:=Zh g;refine Zm slA ?_;refine brQ I (fun I=>?_) fun I=>?_
 ·refine ixA slA I fun p s l o I=>?_;refine st1_S C 0 rfl l o rfl (fun _=>⟨rfl,rfl⟩) fun u C=>?_;dsimp at C;obtain rfl:=oI I;exact ⟨m,ltS,_,pkT C 1 [0],O⟩
 ·obtain rfl:=oI I;obtain rfl:=oI O;exact ⟨rfl,pkT C 1 [0]⟩
theorem Zqj {ψ:CM} {g h:Heap} {os:List Ob} {k:List (List Int)} {v0:Value} {k1:Int} {r:Int×(List (List Int))} (I:Zgd k k1=some r) (C:S ψ g h (.it (El.ow oL) [v0] k::os))  :CallsH P 38 #[v0,.int .i64 k1] h (fun v h'=>v=.int .i64 r.1/\S ψ g h' (.it (El.ow oL) [v0] r.2::os)):=by
 refine zv ⟨[(2,[(1,tkI),(5,tkI)])],[],[],[]⟩ Tryz.func38 ?_;obtain ⟨l,i⟩:=Zax I;refine ⟨fun n c o e=>∃ xs,S ψ g e (.it (El.ow oL) [v0] xs::os)/\loopN (ZjF) n (c,o,xs)=some r,⟨l,_,pkT C 1 [0],i⟩,?_⟩;rintro n _ c o e ⟨xs,C,i⟩;obtain ⟨m,a,rfl,I,O⟩:=Zh i;refine Zm slA ?_;refine brQ I (fun I=>?_) fun I=>?_
 ·refine ixA slA I fun x y u p I=>?_;refine ZaX C 0 rfl u p fun a1 w=>?_;have C:=foc_S C 0 rfl w p;dsimp at C;obtain ⟨a2,j,I⟩:=obind I;obtain ⟨φ,L,s,f⟩:=id C;refine (Zv3 j (s.upS f) ).mono fun a3 a4 ⟨eq,t⟩=>⟨_,eq,?_⟩;replace C:=s.downS t;clear t s f;have C:=unf_S C 0 rfl;dsimp at C;obtain rfl:=oI I;exact ⟨m,ltS,_,pkT C 1 [0],O⟩
 ·obtain rfl:=oI I;obtain rfl:=oI O;exact ⟨rfl,pkT C 1 [0]⟩
section
variable {ψ:CM} {h:Heap} (hψ:CLe ψ (hcell h))
include hψ
theorem ZlI {k0 r} (I:Zb8 k0=some r)  :zR 82 #[.int .i64 k0] h ψ (.string r):=by
 refine zv ⟨[(4,[(0,tkI),(3,.s)])],[],[],[]⟩ Tryz.func82 ?_;have C:=sZ hψ;refine brZ fun I=>?_;refine lp2 I (nlS C) fun m c f g a C I O=>?_;refine brQ I (fun I=>?_) fun I=>?_
 ·refine gzA I fun I=>?_;refine ZO (E:=(El.int .u8)) (css:=[[.int .u8 (IntKind.u8.wrap (ε.wrap (48+(Int.tmod c 10))))]]) (xs:=([IntKind.u8.wrap (ε.wrap (48+(Int.tmod c 10)))]:List Int)) C (fun _=>⟨[],[],rfl,⟨rfl,rfl⟩,rfl⟩) rfl rfl fun i j C=>?_;obtain ⟨k,e,I⟩:=obind I;refine b2s_S slA e ?_;refine gfA I fun I=>?_;refine gzA I fun I=>?_;exact tZ
 ·refine gfA I fun I=>?_;exact tZ
end
theorem ZEo {ψ:CM} {k h:Heap} {os:List Ob} {a0:List Zd} {v0:Value} {k1:Int} {r:Int×(List Zd)} (I:Zny a0 k1=some r) (C:S ψ k h (.it (El.ow ZS) [v0] a0::os))  :CallsH P 37 #[v0,.int .i64 k1] h (fun v h'=>v=.int .i64 r.1/\S ψ k h' (.it (El.ow ZS) [v0] r.2::os)):=by
 refine zv ⟨[(2,[(1,tkI),(5,tkI)])],[],[],[]⟩ Tryz.func37 ?_;obtain ⟨ab,l⟩:=Zax I;refine ⟨fun n c i5 g=>∃ xs,S ψ k g (.it (El.ow ZS) [v0] xs::os)/\loopN (ZfB) n (c,i5,xs)=some r,⟨ab,_,pkT C 1 [0],l⟩,?_⟩;rintro n _ c i5 g ⟨xs,C,l⟩;obtain ⟨m,a,rfl,I,O⟩:=Zh l;refine Zm slA ?_;refine brQ I (fun I=>?_) fun I=>?_
 ·refine cm0 I C (fun s p=>ZlI s p) fun ae ai C I=>⟨_,rfl,?_⟩;refine ixA slA I fun aj ak ad u I=>?_;refine stF_S (off:=0) C 0 rfl ad (fun b o e=>by subst e;first|rfl|simp [ZN]) rfl u (ZeB (ub:=fun x=>(Zd.mk ae x.Object x.Key)) (fld_l Zsy) (fun _=>rfl)) fun al C=>?_
  dsimp at C;refine ixA slA I fun am an w a1 I=>?_;refine stF_S (off:=1) C 0 rfl w (fun b o e=>by subst e;first|rfl|simp [ZN]) rfl a1 (ZeB (ub:=fun x=>(Zd.mk x.Name (Zg.mk (ε.wrap (c+1)) x.Object.Size x.Object.Rows) x.Key)) (fld_r (off:=0) (fld_l (ZeB (ub:=fun x=>(Zg.mk (ε.wrap (c+1)) x.Size x.Rows)) (fld_l ZrG) (fun _=>rfl))) rfl) (fun _=>rfl)) fun ao C=>?_
  dsimp at C;refine ixA slA I fun ap aq a2 a3 I=>?_;refine stF_S (off:=2) C 0 rfl a2 (fun b o e=>by subst e;first|rfl|simp [ZN]) rfl a3 (ZeB (ub:=fun x=>(Zd.mk x.Name (Zg.mk x.Object.Kind (ε.wrap ((ε.wrap (c+1))+1)) x.Object.Rows) x.Key)) (fld_r (off:=1) (fld_l (ZeB (ub:=fun x=>(Zg.mk x.Kind (ε.wrap ((ε.wrap (c+1))+1)) x.Rows)) (fld_r (off:=0) (fld_l ZrG) rfl) (fun _=>rfl))) rfl) (fun _=>rfl)) fun ar C=>?_
  dsimp at C;refine ixA slA I fun au av a4 a5 I=>?_;refine ldF_S (off:=3) C 0 rfl a4 (fun b o e=>by subst e;first|rfl|simp [ZN]) rfl a5 (Zrs (gb:=fun x=>x.Object.Rows) (pb:=fun x y=>(Zd.mk x.Name (Zg.mk x.Object.Kind x.Object.Size y) x.Key)) (Znp (off:=2) (Zy8 (Zrs (gb:=fun x=>x.Rows) (pb:=fun x y=>(Zg.mk x.Kind x.Size y)) (Znp (off:=1) (Znp (off:=0) ZxD rfl) rfl) (fun _=>rfl) (fun _ _=>rfl))) rfl) (fun _=>rfl) (fun _ _=>rfl)) fun aw C=>?_
  dsimp at C;obtain ⟨ax,a6,I⟩:=obind I;obtain ⟨ah,ay,f,i⟩:=id C;refine (Zqj a6 (f.upS i) ).mono fun az b0 ⟨a7,j⟩=>⟨_,a7,?_⟩;replace C:=f.downS j;clear j f i;have C:=ZFT C 0 rfl;dsimp at C;refine cm0 I C (fun s p=>ZlI s p) fun af b1 C I=>⟨_,rfl,?_⟩;refine ixA slA I fun b2 b3 a8 a9 I=>?_;refine stF_S (off:=4) C 0 rfl a8 (fun b o e=>by subst e;first|rfl|simp [ZN]) rfl a9 (ZeB (ub:=fun x=>(Zd.mk x.Name x.Object af)) (fld_r (off:=3) (fld_r (off:=0) Zsy rfl) rfl) (fun _=>rfl)) fun b4 C=>?_
  dsimp at C;obtain rfl:=oI I;exact ⟨m,ltS,_,pkT C 1 [0],O⟩
 ·obtain rfl:=oI I;obtain rfl:=oI O;exact ⟨rfl,pkT C 1 [0]⟩
theorem ZsX {ψ:CM} {e h:Heap} {os:List Ob} {f:Zi} {a:Value} {k1:Int} {r:Int×Zi} (I:Zgv f k1=some r) (C:S ψ e h (.it (El.ow ZS) [a] f.Items::os))  :CallsH P 14 #[.agg #[a],.int .i64 k1] h (fun v o=>v=.int .i64 r.1/\S ψ e o (.it (El.ow ZS) [a] r.2.Items::os)):=by
 refine zv annO Tryz.func14 ?_;refine new_S C fun i g C=>?_;refine bV C 0 0 ?_;have C:S ψ e g (.it (El.ow ZS) [a] f.Items::.box i [a]::os):=pkT C 2 [1,0];obtain ⟨r8,j,I⟩:=obind I;obtain ⟨u,L,s,c⟩:=id C;refine (ZEo j (s.upS c) ).mono fun k l ⟨eq,t⟩=>⟨_,eq,?_⟩;replace C:=s.downS t;clear t s c;obtain rfl:=oI I;exact ⟨rfl,pkT C 2 [0]⟩
theorem ZDx {ψ:CM} {f h:Heap} {os:List Ob} {c:Zg} {a:Value} {k1:Int} {r:Int×Zg} (I:Zj8 c k1=some r) (C:S ψ f h (.it (El.ow oL) [a] c.Rows::os))  :CallsH P 15 #[.agg #[.int .i64 c.Kind,.int .i64 c.Size,a],.int .i64 k1] h (fun v o=>v=.int .i64 r.1/\S ψ f o (.it (El.ow oL) [a] r.2.Rows::os)):=by
 refine zv annO Tryz.func15 ?_;refine new_S C fun i g C=>?_;refine bV C 0 2 ?_;have C:S ψ f g (.it (El.ow oL) [a] c.Rows::.box i [.int .i64 c.Kind,.int .i64 c.Size,a]::os):=pkT C 2 [1,0];obtain ⟨r8,j,I⟩:=obind I;obtain ⟨u,L,s,e⟩:=id C;refine (Zqj j (s.upS e) ).mono fun k l ⟨eq,t⟩=>⟨_,eq,?_⟩;replace C:=s.downS t;clear t s e;obtain rfl:=oI I;exact ⟨rfl,pkT C 2 [0]⟩
section
variable {ψ:CM} {h:Heap} (hψ:CLe ψ (hcell h))
include hψ
theorem Zur {a g e c p1 f r} (I:Zfr a c=some r) (k:CellsC (hcell h) g [.string a.Name,.int .i64 a.Object.Kind,.int .i64 a.Object.Size,e,.string a.Key]) (i:sc h eL e a.Object.Rows) (l:CellsC (hcell h) p1 [.string c.Name,.int .i64 c.Object.Kind,.int .i64 c.Object.Size,f,.string c.Key]) (j:sc h eL f c.Object.Rows):zR 26 #[.pointer (some g),.pointer (some p1)] h ψ (.bool r):=by
 refine zv annO Tryz.func26 ?_;have C:=sZ hψ;refine lsA ?_;refine brY fun I=>?_;refine lsA ?_;exact tZ
theorem Zaq {n0 c a r} (I:Z3 n0 c a=some r)  :zR 95 #[.int .i64 n0,.int .i64 c,.int .i64 a] h ψ (.bool r):=by
 refine zv annO Tryz.func95 ?_;have C:=sZ hψ;exact brQ I (fun I=>tZ) fun I=>tZ
theorem Zt9 {c v0 n1 r} (I:ZhG c n1=some r) (e:sc h eI v0 c):zR 139 #[v0,.int .i64 n1] h ψ (.bool r):=by
 refine zv ⟨[(2,[(5,tkI)])],[],[],[]⟩ Tryz.func139 ?_;have C:=sZ hψ;refine lp1 I (nlS C) fun m i f a C I O=>?_;refine vL e C.le ?_;refine brY fun I=>?_;refine ixI slA I fun g I=>?_;exact brQ I (fun I=>tZ) fun I=>tZ
theorem Znv {i v0 r} (I:ZeV i=some r) (c:sc h eI v0 i):zR 94 #[v0] h ψ (.bool r):=by
 refine zv ⟨[(4,[(3,tkI)])],[],[],[]⟩ Tryz.func94 ?_;have C:=sZ hψ;refine vL c C.le ?_;refine brZ fun I=>?_;refine lp1 I (nlS C) fun m j k a C I O=>?_;refine vL c C.le ?_;refine brY fun I=>?_;refine ixI slA I fun l I=>?_;refine vL c C.le ?_;refine cm0 I C (fun s e=>Zaq s e) fun o p C I=>⟨_,rfl,?_⟩;refine brZ fun I=>?_;obtain ⟨u,g,I⟩:=obind I;refine Zd7 none (some j) c g rfl fun v f=>?_;refine ixI slA I fun w I=>?_;refine cm0 I C (fun s e=>Zt9 s e slA) fun x y C I=>⟨_,rfl,?_⟩;exact brQ I (fun I=>tZ) fun I=>tZ
theorem Zr4 {i v0 r} (I:Zhe i=some r) (j:sc h eL v0 i):zR 51 #[v0] h ψ (.bool r):=by
 refine zv ⟨[(5,[(4,tkI)]),(10,[(5,tkI)]),(14,[(6,.v),(7,tkI)])],[(4,[])],[],[]⟩ Tryz.func51 ?_;have C:=sZ hψ;refine vL j C.le ?_;refine ⟨fun k=>S ψ h k []/\Zpu i=some r,?_,?_⟩
 ·refine brZ fun I=>?_;exact brQ I (fun I=>tZ) fun I=>tZ
 ·rintro _ k ⟨C,I⟩;refine lp1 I (nlS C) fun m x4 a2 a C I O=>?_;refine brQ I (fun I=>?_) fun I=>?_
  ·refine ixV j C.le I fun a3 a4 f I=>?_;refine vL f C.le ?_;refine brZ fun I=>?_;refine ixV j C.le I fun a5 a6 a7 I=>?_;refine cm0 I C (fun s p=>Znv s p slA) fun a8 a9 C I=>⟨_,rfl,?_⟩;exact brQ I (fun I=>tZ) fun I=>tZ
  ·refine lp1 I (nlS C) fun v y5 aa w C I c=>?_;refine brQ I (fun I=>?_) fun I=>?_
   ·refine ZO (E:=eI) (css:=[]) (xs:=([]:List Int)) C (fun _=>rfl) rfl rfl fun ab ac C=>?_;refine ⟨fun l x y o=>∃ e,S ψ h o [.it oL [x] e]/\loopN (ZeU i y5) l (e,y)=some w,endI,?_⟩;rintro l _ x y o ⟨e,C,u⟩;obtain ⟨ad,ae,rfl,I,g⟩:=Zh u;refine brQ I (fun I=>?_) fun I=>?_
    ·refine ixV j C.le I fun af ag ah I=>?_;refine ixI slA I fun ai I=>?_;refine puA I 0 fun aj ak al C I=>?_;exact endL
    ·refine cm0 I C (fun s p=>Znv s p slA) fun am an C I=>⟨_,rfl,?_⟩;refine brQ I (fun I=>?_) fun I=>?_
     ·obtain rfl:=oI I;obtain rfl:=oI g;obtain rfl:=oI c;obtain rfl:=oI O;exact ⟨rfl,nlS C⟩
     ·obtain rfl:=oI I;obtain rfl:=oI g;exact ⟨v,ltS,nlS C,c⟩
   ·obtain rfl:=oI I;obtain rfl:=oI c;obtain rfl:=oI O;exact ⟨rfl,nlS C⟩
theorem ZHU {c v0 f e r} (I:ZiI c f e=some r) (g:sc h eI v0 c):zR 140 #[v0,.int .i64 f,.int .i64 e] h ψ (.bool r):=by
 refine zv ⟨[(2,[(7,tkI)])],[],[],[]⟩ Tryz.func140 ?_;have C:=sZ hψ;refine lp1 I (nlS C) fun m v j a C I O=>?_;refine vL g C.le ?_;refine brY fun I=>?_;refine ixI slA I fun k I=>?_;refine cm0 I C (fun s i=>Zaq s i) fun l o C I=>⟨_,rfl,?_⟩;refine brZ fun I=>?_;refine brY fun I=>?_;refine ixI slA I fun p I=>?_;refine ixI slA I fun u I=>?_;exact brQ I (fun I=>tZ) fun I=>tZ
theorem ZGC {a v0 points1 r} (I:Zjb a points1=some r) (c:sc h eI v0 a):zR 96 #[v0,.int .i64 points1] h ψ (.bool r):=by
 refine zv annO Tryz.func96 ?_;have C:=sZ hψ;refine vL c C.le ?_;refine brY fun I=>?_;refine cm0 I C (fun s e=>ZHU s e slA) fun f g C I=>⟨_,rfl,?_⟩;exact tZ
theorem Zdp {c v0 e v1 r} (I:ZbD c e=some r) (i:sc h eI v0 c) (j:sc h eI v1 e):zR 97 #[v0,v1] h ψ (.int .i64 r):=by
 refine zv ⟨[(2,[(5,tkI)])],[(4,[]),(8,[])],[],[]⟩ Tryz.func97 ?_;have C:=sZ hψ;refine ⟨fun f=>S ψ h f []/\Zee c e=some r,?_,?_⟩
 ·refine lp1 I (nlS C) fun m l p a C I O=>?_;refine ⟨fun g=>S ψ h g []/\ZhX c e l=some a,?_,?_⟩
  ·refine vL i C.le ?_;refine brQ I (fun I=>?_) fun I=>?_
   ·refine vL j C.le ?_;refine brZ fun I=>?_;obtain ⟨o,k,rfl⟩:=omap I;obtain rfl:=oI O;exact ⟨nlS C,k⟩
   ·obtain ⟨o,k,rfl⟩:=omap I;obtain rfl:=oI O;exact ⟨nlS C,k⟩
  ·rintro _ g ⟨C,I⟩;refine ixI slA I fun s I=>?_;refine ixI slA I fun u I=>?_;refine brZ fun I=>?_;refine ixI slA I fun v I=>?_;refine ixI slA I fun w I=>?_;exact brQ I (fun I=>tZ) fun I=>tZ
 ·rintro _ f ⟨C,I⟩;refine vL i C.le ?_;refine vL j C.le ?_;refine brZ fun I=>?_;refine vL i C.le ?_;refine vL j C.le ?_;exact brQ I (fun I=>tZ) fun I=>tZ
theorem Zxz {j l g r} (I:Zk7 j=some r) (c:CellsC (hcell h) l [.int .i64 j.Points,g]) (e:sc h eL g j.Blocks):zR 52 #[.pointer (some l)] h ψ (.bool r):=by
 refine zv ⟨[(4,[(3,tkI)])],[(3,[])],[],[]⟩ Tryz.func52 ?_;have C:=sZ hψ;refine ⟨fun k=>S ψ h k []/\Zps j=some r,?_,?_⟩
 ·refine kI c C.le 0 ?_;refine cm0 I C (fun s i=>Zaq s i) fun r8 o C I=>⟨_,rfl,?_⟩;refine brZ fun I=>?_;refine kV c C.le 1 ?_;refine vL e C.le ?_;exact brQ I (fun I=>tZ) fun I=>tZ
 ·rintro _ k ⟨C,I⟩;refine lp1 I (nlS C) fun m i3 p a C I O=>?_;refine kV c C.le 1 ?_;refine vL e C.le ?_;refine brY fun I=>?_;refine kV c C.le 1 ?_;refine ixV e C.le I fun u v f I=>?_;refine kI c C.le 0 ?_;refine cm0 I C (fun s i=>ZGC s i slA) fun w x C I=>⟨_,rfl,?_⟩;refine brZ fun I=>?_;refine brY fun I=>?_;refine kV c C.le 1 ?_;refine ixV e C.le I fun y a0 a1 I=>?_;refine kV c C.le 1 ?_;refine ixV e C.le I fun a2 a3 a4 I=>?_;refine cm0 I C (fun s i=>Zdp s i slA slA) fun a5 a6 C I=>⟨_,rfl,?_⟩;exact brQ I (fun I=>tZ) fun I=>tZ
theorem ZyS {c v0 e v1 r} (I:ZgY c e=some r) (f:sc h eI v0 c) (l:sc h eI v1 e):zR 98 #[v0,v1] h ψ (.int .i64 r):=by
 refine zv ⟨[(3,[(5,tkI),(6,tkI)])],[],[],[]⟩ Tryz.func98 ?_;have C:=sZ hψ;refine lp2 I (nlS C) fun m g o i a C I O=>?_;refine vL f C.le ?_;refine brY fun I=>?_;refine ixI slA I fun j I=>?_;refine ixI slA I fun k I=>?_;exact tZ
theorem ZBR {l v0 r} (I:Zlw l=some r) (i:sc h eL v0 l):zR 53 #[v0] h ψ (.bool r):=by
 refine zv ⟨[(5,[(4,tkI)]),(10,[(5,tkI)]),(15,[(6,tkI)]),(18,[(7,tkI)])],[(4,[])],[],[]⟩ Tryz.func53 ?_;have C:=sZ hψ;refine vL i C.le ?_;refine ⟨fun j=>S ψ h j []/\ZnO l=some r,?_,?_⟩
 ·refine brZ fun I=>?_;exact brQ I (fun I=>tZ) fun I=>tZ
 ·rintro _ j ⟨C,I⟩;refine lp1 I (nlS C) fun m y4 v a C I O=>?_;refine brQ I (fun I=>?_) fun I=>?_
  ·refine ixV i C.le I fun w x f I=>?_;refine vL f C.le ?_;refine brZ fun I=>?_;refine lp1 I (nlS C) fun k y5 y a0 C I c=>?_;refine brQ I (fun I=>?_) fun I=>?_
   ·refine ixV i C.le I fun a1 a2 a3 I=>?_;refine ixI slA I fun a4 I=>?_;refine brQ I (fun I=>?_) fun I=>?_
    ·refine ixV i C.le I fun a5 a6 a7 I=>?_;refine ixI slA I fun a8 I=>?_;refine brQ I (fun I=>?_) fun I=>?_
     ·obtain rfl:=oI I;obtain rfl:=oI c;obtain rfl:=oI O;exact ⟨rfl,nlS C⟩
     ·obtain rfl:=oI I;exact ⟨k,ltS,nlS C,c⟩
    ·obtain rfl:=oI I;exact ⟨k,ltS,nlS C,c⟩
   ·obtain rfl:=oI I;obtain rfl:=oI c;exact ⟨m,ltS,nlS C,O⟩
  ·refine lp1 I (nlS C) fun o y6 a9 aa C I e=>?_;refine brQ I (fun I=>?_) fun I=>?_
   ·refine lp1 I (nlS C) fun p y7 ab ac C I g=>?_;refine brQ I (fun I=>?_) fun I=>?_
    ·refine ixV i C.le I fun ad ae af I=>?_;refine ixV i C.le I fun ag ah ai I=>?_;refine cm0 I C (fun s u=>ZyS s u slA slA) fun aj ak C I=>⟨_,rfl,?_⟩;refine brQ I (fun I=>?_) fun I=>?_
     ·obtain rfl:=oI I;obtain rfl:=oI g;obtain rfl:=oI e;obtain rfl:=oI O;exact ⟨rfl,nlS C⟩
     ·obtain rfl:=oI I;exact ⟨p,ltS,nlS C,g⟩
    ·obtain rfl:=oI I;obtain rfl:=oI g;exact ⟨o,ltS,nlS C,e⟩
   ·obtain rfl:=oI I;obtain rfl:=oI e;obtain rfl:=oI O;exact ⟨rfl,nlS C⟩
theorem ZHi {j k i r} (I:ZkA j=some r) (e:CellsC (hcell h) k [.int .i64 j.Kind,.int .i64 j.Size,i]) (a:SlC ψ eL i j.Rows):CallsH P 54 #[.pointer (some k)] h (fun v h'=>∃ w0,v=.agg #[.int .i64 r.Levels,.int .i64 r.Columns,w0]/\S ψ h h' [.it (El.sl eL) [w0] r.Rows]):=by
 refine zv ⟨[],[],[],[(1,⟨kdL [0,0,0,2,0,0,0,2,0,3,4],.fin [9,0,1,2,3,4,5,6,7,8,10],true⟩)]⟩ Tryz.func54 ?_;have C:=sZ hψ;refine new_S C fun b2 l C=>?_;refine ⟨fun _=>False,?_⟩;have g:=C;have c:=eX l;refine Zdv C fun b3 s xE C=>⟨eZ (c.trans xE),?_⟩;replace c:=c.trans xE;refine ZJ ?_;refine kI e g.le 1 ?_;refine ZK ?_;refine kV e g.le 2 ?_;refine ZG (a.mono C.leF).one ?_;(iterate 3 refine boxA fun u C=>?_);refine kV e C.le 2 ?_;refine vL a C.leF ?_;refine brQ I (fun I=>?_) fun I=>?_
 ·refine kV e C.le 2 ?_;refine ixV a C.leF I fun w x f I=>?_;refine vL f C.leF ?_;refine boxA fun y C=>?_;refine lsA ?_;(iterate 3 refine boxA fun o C=>?_);refine lsA ?_;have C:=C.arg a;exact endS
 ·refine lsA ?_;(iterate 3 refine boxA fun p C=>?_);refine lsA ?_;have C:=C.arg a;exact endS
theorem Zww {levels0 column1 r} (I:ZmY levels0 column1=some r)  :zR 99 #[.int .i64 levels0,.int .i64 column1] h ψ (.bool r):=by
 refine zv annO Tryz.func99 ?_;have C:=sZ hψ;refine cm0 I C (fun s a=>Zaq s a) fun f c C I=>⟨_,rfl,?_⟩;refine brY fun I=>?_;refine cm0 I C (fun s a=>Zaq s a) fun g e C I=>⟨_,rfl,?_⟩;exact tZ
theorem ZEN {i o j r} (I:ZjD i=some r) (c:CellsC (hcell h) o [.int .i64 i.Levels,.int .i64 i.Columns,j]) (e:sc h eL j i.Rows):zR 55 #[.pointer (some o)] h ψ (.bool r):=by
 refine zv ⟨[(4,[(3,tkI)]),(9,[(4,tkI)])],[(3,[])],[],[]⟩ Tryz.func55 ?_;have C:=sZ hψ;refine ⟨fun k=>S ψ h k []/\Zn4 i=some r,?_,?_⟩
 ·refine lsA ?_;refine cm0 I C (fun s l=>Zww s l) fun v w C I=>⟨_,rfl,?_⟩;refine brZ fun I=>?_;refine kV c C.le 2 ?_;refine vL e C.le ?_;exact brQ I (fun I=>tZ) fun I=>tZ
 ·rintro _ k ⟨C,I⟩;refine lp1 I (nlS C) fun m y3 x a C I O=>?_;refine kV c C.le 2 ?_;refine vL e C.le ?_;refine brY fun I=>?_;refine kV c C.le 2 ?_;refine ixV e C.le I fun y a0 f I=>?_;refine vL f C.le ?_;refine kI c C.le 1 ?_;refine brZ fun I=>?_;refine lp1 I (nlS C) fun p y4 a1 a2 C I g=>?_;refine kV c C.le 2 ?_;refine ixV e C.le I fun a3 a4 u I=>?_;refine vL u C.le ?_;refine brQ I (fun I=>?_) fun I=>?_
  ·refine kV c C.le 2 ?_;refine ixV e C.le I fun a5 a6 a7 I=>?_;refine ixI slA I fun a8 I=>?_;refine kI c C.le 0 ?_;refine cm0 I C (fun s l=>Zaq s l) fun a9 aa C I=>⟨_,rfl,?_⟩;refine brQ I (fun I=>?_) fun I=>?_
   ·obtain rfl:=oI I;obtain rfl:=oI g;obtain rfl:=oI O;exact ⟨rfl,nlS C⟩
   ·obtain rfl:=oI I;exact ⟨p,ltS,nlS C,g⟩
  ·obtain rfl:=oI I;obtain rfl:=oI g;exact ⟨m,ltS,nlS C,O⟩
theorem Znk {e r} (I:ZbU e=some r)  :zR 100 #[.int .i64 e] h ψ (.tuple #[.int .i64 r.1,.int .i64 r.2]):=by
 refine zv ⟨[(4,[(4,tkI)]),(8,[(5,tkI),(6,tkI)])],[],[],[]⟩ Tryz.func100 ?_;have C:=sZ hψ;refine cm0 I C (fun s g=>Zaq s g) fun r8 i C I=>⟨_,rfl,?_⟩;refine brZ fun I=>?_;refine lp1 I (nlS C) fun m o j a C I O=>?_;refine gzA I fun I=>?_;refine brZ fun I=>?_;refine lp2 I (nlS C) fun f p u k l C I c=>?_;refine brQ I (fun I=>?_) fun I=>?_
 ·refine gzA I fun I=>?_;refine brQ I (fun I=>?_) fun I=>?_
  ·obtain rfl:=oI I;obtain rfl:=oI c;obtain rfl:=oI O;exact ⟨rfl,nlS C⟩
  ·refine gzA I fun I=>?_;obtain rfl:=oI I;exact ⟨f,ltS,nlS C,c⟩
 ·obtain rfl:=oI I;obtain rfl:=oI c;obtain rfl:=oI O;exact ⟨rfl,nlS C⟩
theorem Zeh {i p1 n2 r} (I:Zbe i p1 n2=some r)  :zL 141 #[.int .i64 i,.int .i64 p1,.int .i64 n2] h ψ eI r:=by
 refine zv ⟨[(2,[(0,tkI),(2,tkI),(7,.v)])],[],[],[]⟩ Tryz.func141 ?_;have C:=sZ hψ;refine ZO (E:=eI) (css:=[]) (xs:=([]:List Int)) C (fun _=>rfl) rfl rfl fun u l C=>?_;refine ⟨fun n e f j g=>∃ c,S ψ h g [.it oL [j] c]/\loopN (Zdt p1) n (e,f,c)=some r,endI,?_⟩;rintro n _ e f j g ⟨c,C,k⟩;obtain ⟨m,a,rfl,I,O⟩:=Zh k;refine brQ I (fun I=>?_) fun I=>?_
 ·refine gzA I fun I=>?_;refine puA I 0 fun o p s C I=>?_;refine gzA I fun I=>?_;exact endL
 ·obtain rfl:=oI I;obtain rfl:=oI O;exact endR
theorem Zov {c k1 r} (I:Zed c k1=some r)  :zR 145 #[.int .i64 c,.int .i64 k1] h ψ (.int .i64 r):=by
 refine zv ⟨[(2,[(1,tkI),(5,tkI)])],[],[],[]⟩ Tryz.func145 ?_;have C:=sZ hψ;refine lp2 I (nlS C) fun m e f g a C I O=>?_;exact brQ I (fun I=>tZ) fun I=>tZ
theorem Zix {a v0 r} (I:ZaY a=some r) (g:sc h eI v0 a):zL 111 #[v0] h ψ eI r:=by
 refine zv annO Tryz.func111 ?_;have C:=sZ hψ;refine ZO (E:=eI) (css:=[]) (xs:=([]:List Int)) C (fun _=>rfl) rfl rfl fun i e C=>?_;obtain ⟨j,c,I⟩:=obind I;refine app_S C 0 rfl (ZbR (Zbl _) slA) rfl rfl c fun k f C=>?_;dsimp at C;exact endS
theorem Zvr {y0 v0 e v1 f r} (I:ZdX y0 e f=some r) (f0:sc h eI v0 y0) (f1:sc h eI v1 e):zL 188 #[v0,v1,.int .i64 f] h ψ eI r:=by
 refine zv ⟨[(4,[(9,tkI)]),(8,[(11,tkI)]),(12,[(7,.v)])],[],[],[]⟩ Tryz.func188 ?_;have C:=sZ hψ;refine cm1 I C (fun s hx=>Zix s hx slA) fun aa i ab C I=>⟨_,rfl,?_⟩;refine vL f1 C.le ?_;refine Zm slA ?_;refine ⟨fun n v j=>∃ xs,S ψ h j [.it oL [i] xs]/\loopN (Zbv e f) n (v,xs)=some r,endI,?_⟩;rintro n _ v j ⟨xs,C,hn⟩;obtain ⟨m,a,rfl,I,O⟩:=Zh hn;refine brQ I (fun I=>?_) fun I=>?_
 ·refine ixI slA I fun a5 I=>?_;refine ⟨fun k l o=>∃ c,S ψ h o [.it oL [i] c]/\loopN (Zfk e f v a5) k (l,c)=some a,endI,?_⟩;rintro k _ l o ⟨c,C,w⟩;obtain ⟨ac,ad,rfl,I,x⟩:=Zh w;refine brQ I (fun I=>?_) fun I=>?_
  ·refine ixI slA I fun ae I=>?_;refine ixI slA I fun af I=>?_;refine gzA I fun I=>?_;refine ixA slA I fun ag ah y a0 I=>?_;refine st1_S C 0 rfl y a0 rfl (fun _=>⟨rfl,rfl⟩) fun ai C=>?_;dsimp at C;exact endL
  ·obtain rfl:=oI I;obtain rfl:=oI x;exact endM
 ·refine ⟨fun p v7 u=>∃ g,S ψ h u [.it oL [v7] g]/\loopN (ZcU e) p g=some a,endI,?_⟩;rintro p _ v7 u ⟨g,C,a1⟩;obtain ⟨aj,ak,rfl,I,a2⟩:=Zh a1;refine Zm slA ?_;refine brQ I (fun I=>?_) fun I=>?_
  ·refine Zm slA ?_;obtain ⟨al,a3,I⟩:=obind I;refine cut_S none (some (ε.wrap ((g.length:Int)-1))) C 0 rfl a3 rfl fun am C=>?_;dsimp at C;exact endL
  ·obtain rfl:=oI I;obtain rfl:=oI a2;obtain rfl:=oI O;exact endR
theorem Zmz {c v0 p1 r} (I:Zbi c p1=some r) (e:sc h eI v0 c):zR 189 #[v0,.int .i64 p1] h ψ (.int .i64 r):=by
 refine zv ⟨[(3,[(5,tkI),(6,tkI)])],[],[],[]⟩ Tryz.func189 ?_;have C:=sZ hψ;refine vL e C.le ?_;refine lp2 I (nlS C) fun m f j g a C I O=>?_;refine brY fun I=>?_;refine ixI slA I fun i I=>?_;exact tZ
theorem ZvO {f v0 p1 r} (I:Zhw f p1=some r) (i:sc h eI v0 f):zR 142 #[v0,.int .i64 p1] h ψ (.bool r):=by
 refine zv ⟨[(3,[(6,tkI)]),(6,[(7,tkI)])],[],[],[]⟩ Tryz.func142 ?_;have C:=sZ hψ;refine vL i C.le ?_;refine lp1 I (nlS C) fun m d6 j a C I O=>?_;refine brY fun I=>?_;refine lp1 I (nlS C) fun g n7 k l C I c=>?_;refine cm0 I C (fun s e=>Zov s e) fun o p C I=>⟨_,rfl,?_⟩;refine brQ I (fun I=>?_) fun I=>?_
 ·refine cm1 I C (fun s e=>Zeh s e) fun u v w C I=>⟨_,rfl,?_⟩;refine puA I 0 fun x y a0 C I=>?_;refine cm1 I C (fun s e=>Zvr s e slA slA) fun a1 a2 a3 C I=>⟨_,rfl,?_⟩;refine cm0 I C (fun s e=>Zmz s e slA) fun a4 a5 C I=>⟨_,rfl,?_⟩;refine brQ I (fun I=>?_) fun I=>?_
  ·obtain rfl:=oI I;obtain rfl:=oI c;obtain rfl:=oI O;exact ⟨rfl,nlS C⟩
  ·obtain rfl:=oI I;exact ⟨g,ltS,nlS C,c⟩
 ·obtain rfl:=oI I;obtain rfl:=oI c;exact ⟨m,ltS,nlS C,O⟩
theorem ZBM {e r} (I:ZgV e=some r)  :CallsH P 101 #[.int .i64 e] h (fun v h'=>∃ w0,v=.agg #[.int .i64 r.Prime,.int .i64 r.Degree,w0]/\S ψ h h' [.it oL [w0] r.Poly]):=by
 refine zv ⟨[(4,[(5,tkI)])],[],[],[]⟩ Tryz.func101 ?_;have C:=sZ hψ;refine new_S C fun f i C=>?_;refine cm0 I C (fun s c=>Znk s c) fun r9 j C I=>⟨_,_,rfl,?_⟩;refine lp1 (os:=[.box f [.int .i64 0,.int .i64 0,(.slice none 0 0)]]) I (pk C [0]) fun m n5 k a C I O=>?_;refine cm1 I C (fun s c=>Zeh s c) fun l o p C I=>⟨_,rfl,?_⟩;refine puA I 0 fun u w x C I=>?_;refine cm0 I C (fun s c=>ZvO s c slA) fun y a0 C I=>⟨_,rfl,?_⟩;refine brQ I (fun I=>?_) fun I=>?_
 ·refine ZG oneA ?_;(iterate 3 refine boxA fun g C=>?_);refine lsA ?_;obtain rfl:=oI I;obtain rfl:=oI O;exact endR
 ·exact endL
theorem Zvx {g k c r} (I:Zbs g=some r) (e:CellsC (hcell h) k [.int .i64 g.Kind,.int .i64 g.Size,c]) (f:SlC ψ eL c g.Rows):CallsH P 56 #[.pointer (some k)] h (fun v h'=>∃ w0 w1,v=.agg #[.int .i64 r.Field.Prime,.int .i64 r.Field.Degree,w0,w1]/\S ψ h h' [.it oL [w0] r.Field.Poly,.it (El.sl eL) [w1] r.Rows]):=by
 refine zv ⟨[],[],[],[(4,⟨kdL [0,0,0,1,3,0,0,0,2,0,4],.fin [0,1,2,3,4,5,6,7,8,9,10],true⟩)]⟩ Tryz.func56 ?_;have C:=sZ hψ;refine new_S C fun b2 u C=>?_;refine kI e C.le 1 ?_;refine cm0 I C (fun s o=>Znk s o) fun w l C I=>⟨_,_,rfl,?_⟩;refine brQ I (fun I=>?_) fun I=>?_
 ·(iterate 4 refine boxA fun x C=>?_);refine lsA ?_;have C:=C.nilO (E:=eI);have C:=C.nilF (E:=eL);exact endS
 ·refine ⟨fun _=>False,?_⟩;have i:=C;have a:=eX l;refine kI e C.le 1 ?_;obtain ⟨y,j,I⟩:=obind I;refine ce1 C (fun s=>ZBM s.fle j) fun a0 a1 xE C=>⟨_,_,_,rfl,eZ (a.trans xE),?_⟩;replace a:=a.trans xE;refine ZK ?_;refine kV e i.le 2 ?_;refine ZG (f.mono C.leF).one ?_;(iterate 4 refine boxA fun p C=>?_);refine lsA ?_;have C:=C.arg f;exact endS
theorem ZFx {f k g r} (I:Zg3 f=some r) (c:CellsC (hcell h) k [.int .i64 f.Prime,.int .i64 f.Degree,g]) (i:sc h eI g f.Poly):zR 143 #[.pointer (some k)] h ψ (.bool r):=by
 refine zv ⟨[(8,[(6,tkI)])],[(3,[])],[],[]⟩ Tryz.func143 ?_;have C:=sZ hψ;refine ⟨fun j=>S ψ h j []/\Zk9 f=some r,?_,?_⟩
 ·refine kI c C.le 0 ?_;refine cm0 I C (fun s e=>Zaq s e) fun l o C I=>⟨_,rfl,?_⟩;refine brZ fun I=>?_;refine kI c C.le 1 ?_;refine cm0 I C (fun s e=>Zaq s e) fun p u C I=>⟨_,rfl,?_⟩;refine brZ fun I=>?_;refine kV c C.le 2 ?_;refine vL i C.le ?_;refine kI c C.le 1 ?_;refine brZ fun I=>?_;refine lsA ?_;refine ixI slA I fun v I=>?_;exact brQ I (fun I=>tZ) fun I=>tZ
 ·rintro _ j ⟨C,I⟩;refine lsA ?_;refine cm0 I C (fun s e=>Zov s e) fun w x C I=>⟨_,rfl,?_⟩;refine cm0 I C (fun s e=>Znk s e) fun y a0 C I=>⟨_,_,rfl,?_⟩;refine kI c C.le 0 ?_;refine brZ fun I=>?_;refine lp1 I (nlS C) fun m y6 a1 a C I O=>?_;refine kV c C.le 2 ?_;refine vL i C.le ?_;refine brQ I (fun I=>?_) fun I=>?_
  ·refine kV c C.le 2 ?_;refine ixI slA I fun a2 I=>?_;refine cm0 I C (fun s e=>Zaq s e) fun a3 a4 C I=>⟨_,rfl,?_⟩;exact brQ I (fun I=>tZ) fun I=>tZ
  ·refine kV c C.le 2 ?_;refine cm0 I C (fun s e=>ZvO s e slA) fun a5 a6 C I=>⟨_,rfl,?_⟩;exact tZ
theorem Zlz {c e a r} (I:Za8 c=some r) (i:CellsC (hcell h) e [.int .i64 c.Prime,.int .i64 c.Degree,a]) (f:sc h eI a c.Poly):zR 104 #[.pointer (some e)] h ψ (.int .i64 r):=by
 refine zv annO Tryz.func104 ?_;have C:=sZ hψ;refine lsA ?_;refine cm0 I C (fun s g=>Zov s g) fun j k C I=>⟨_,rfl,?_⟩;exact tZ
theorem ZDF {f i c v1 e r} (I:ZlD f v1=some r) (l:CellsC (hcell h) i [.int .i64 f.Prime,.int .i64 f.Degree,c]) (j:sc h eI c f.Poly) (k:sc h eI e v1):zR 144 #[.pointer (some i),e] h ψ (.bool r):=by
 refine zv ⟨[(3,[(6,tkI)])],[],[],[]⟩ Tryz.func144 ?_;have C:=sZ hψ;refine cm0 I C (fun s g=>Zlz s g slA slA) fun r8 o C I=>⟨_,rfl,?_⟩;refine lp1 I (nlS C) fun m x p a C I O=>?_;refine vL k C.le ?_;refine brY fun I=>?_;refine ixI slA I fun u I=>?_;refine cm0 I C (fun s g=>Zaq s g) fun v w C I=>⟨_,rfl,?_⟩;exact brQ I (fun I=>tZ) fun I=>tZ
theorem ZE8 {e l g j v1 r} (I:ZkG e j=some r) (w:CellsC (hcell h) l [.int .i64 e.Prime,.int .i64 e.Degree,g]) (v:sc h eI g e.Poly) (c:sc h eL v1 j):zR 102 #[.pointer (some l),v1] h ψ (.bool r):=by
 refine zv ⟨[(4,[(5,tkI)])],[(3,[])],[],[]⟩ Tryz.func102 ?_;have C:=sZ hψ;refine ⟨fun i=>S ψ h i []/\Zm9 e j=some r,?_,?_⟩
 ·refine cm0 I C (fun s k=>ZFx s k slA slA) fun r7 x C I=>⟨_,rfl,?_⟩;refine brZ fun I=>?_;refine vL c C.le ?_;refine brZ fun I=>?_;refine vL c C.le ?_;refine brZ fun I=>?_;refine ixV c C.le I fun y a0 o I=>?_;refine vL o C.le ?_;refine brZ fun I=>?_;refine ixV c C.le I fun a1 a2 p I=>?_;refine vL p C.le ?_;exact brQ I (fun I=>tZ) fun I=>tZ
 ·rintro _ i ⟨C,I⟩;refine lp1 I (nlS C) fun m i5 a3 a C I O=>?_;refine vL c C.le ?_;refine brY fun I=>?_;refine ixV c C.le I fun a4 a5 f I=>?_;refine vL f C.le ?_;refine ixV c C.le I fun a6 a7 u I=>?_;refine vL u C.le ?_;refine brZ fun I=>?_;refine ixV c C.le I fun a8 a9 aa I=>?_;refine cm0 I C (fun s k=>ZDF s k slA slA slA) fun ab ac C I=>⟨_,rfl,?_⟩;exact brQ I (fun I=>tZ) fun I=>tZ
theorem ZyN {c k1 r} (I:ZjP c k1=some r)  :zR 103 #[.int .i64 c,.int .i64 k1] h ψ (.int .i64 r):=by
 refine zv ⟨[(2,[(1,tkI),(5,tkI)])],[],[],[]⟩ Tryz.func103 ?_;have C:=sZ hψ;refine lp2 I (nlS C) fun m e g f a C I O=>?_;refine brY fun I=>?_;exact brQ I (fun I=>tZ) fun I=>tZ
theorem ZHt {c v0 e v1 r} (I:Zmj c e=some r) (f:sc h eI v0 c) (g:sc h eI v1 e):zR 146 #[v0,v1] h ψ (.bool r):=by
 refine zv ⟨[(4,[(5,tkI)])],[],[],[]⟩ Tryz.func146 ?_;have C:=sZ hψ;refine vL f C.le ?_;refine vL g C.le ?_;refine brZ fun I=>?_;refine lp1 I (nlS C) fun m l i a C I O=>?_;refine vL f C.le ?_;refine brY fun I=>?_;refine ixI slA I fun j I=>?_;refine ixI slA I fun k I=>?_;exact brQ I (fun I=>tZ) fun I=>tZ
theorem Zt8 {e v0 g v1 r} (I:ZgI e g=some r) (c:sc h eL v0 e) (i:sc h eL v1 g):zR 105 #[v0,v1] h ψ (.bool r):=by
 refine zv ⟨[(4,[(5,tkI)])],[],[],[]⟩ Tryz.func105 ?_;have C:=sZ hψ;refine vL c C.le ?_;refine vL i C.le ?_;refine brZ fun I=>?_;refine lp1 I (nlS C) fun m y k a C I O=>?_;refine vL c C.le ?_;refine brY fun I=>?_;refine ixV c C.le I fun l o f I=>?_;refine ixV i C.le I fun p u v I=>?_;refine cm0 I C (fun s j=>ZHt s j slA slA) fun w x C I=>⟨_,rfl,?_⟩;exact brQ I (fun I=>tZ) fun I=>tZ
theorem ZoO {g v0 r} (I:ZhF g=some r) (i:sc h eL v0 g):zL 61 #[v0] h ψ eL r:=by
 refine zv ⟨[(3,[(3,.v),(4,tkI)])],[],[],[]⟩ Tryz.func61 ?_;have C:=sZ hψ;refine ZO (E:=eL) (css:=[]) (xs:=([]:List (List Int))) C (fun _=>rfl) rfl rfl fun v5 p C=>?_;refine ⟨fun n j k e=>∃ c,S ψ h e [.it (El.ow eL) [j] c]/\loopN (ZhM g) n (c,k)=some r,endI,?_⟩;rintro n _ j k e ⟨c,C,l⟩;obtain ⟨m,a,rfl,I,O⟩:=Zh l;refine vL i C.le ?_;refine brQ I (fun I=>?_) fun I=>?_
 ·refine ixV i C.le I fun u v f I=>?_;refine cm1 I C (fun s o=>Zix s o slA) fun w x y C I=>⟨_,rfl,?_⟩;refine ZG oneA ?_;have C:=frA 0;have C:=C.copyF 0 rfl;refine piA I 1 fun a0 a1 a2 C I=>?_;exact endL
 ·obtain rfl:=oI I;obtain rfl:=oI O;exact endR
theorem Zm7 {i p0 j y1 y2 r} (I:ZfU i y1 y2=some r) (k:CellsC (hcell h) p0 [.int .i64 i.Prime,.int .i64 i.Degree,j]) (aa:sc h eI j i.Poly):zR 229 #[.pointer (some p0),.int .i64 y1,.int .i64 y2] h ψ (.int .i64 r):=by
 refine zv ⟨[(5,[(10,tkI)]),(8,[(11,tkI)])],[],[],[(11,⟨kdL [0,0,0,0,1,0,0,0,1,3,0,0,0,2,4,0],.fin [0,1,2,3,4,5,6,7,8,9,10,11,12,13,14,15],true⟩)]⟩ Tryz.func229 ?_;have C:=sZ hψ;refine lsA ?_;refine cm1 I C (fun s l=>Zeh s l) fun f v ac C I=>⟨_,rfl,?_⟩;refine lsA ?_;refine cm1 I C (fun s l=>Zeh s l) fun g w ad C I=>⟨_,rfl,?_⟩;refine kI k C.le 1 ?_;refine mkO eI I fun ae x af C I=>?_;refine ⟨fun n o p=>∃ xs,S ψ h p [.it oL [x] xs,.it oL [w] g,.it oL [v] f]/\loopN (ZdA i f g) n (o,xs)=some r,endI,?_⟩;rintro n _ o p ⟨xs,C,hn⟩;obtain ⟨m,a,rfl,I,O⟩:=Zh hn;refine Zm slA ?_;refine brQ I (fun I=>?_) fun I=>?_
 ·refine ⟨fun y a0 a1=>∃ e,S ψ h a1 [.it oL [x] e,.it oL [w] g,.it oL [v] f]/\loopN (Zi6 i f g o) y (a0,e)=some a,endI,?_⟩;rintro y _ a0 a1 ⟨e,C,a2⟩;obtain ⟨ag,ah,rfl,I,a3⟩:=Zh a2;refine Zm slA ?_;refine brQ I (fun I=>?_) fun I=>?_
  ·refine ixI slA I fun ai I=>?_;refine ixI slA I fun aj I=>?_;refine ixI slA I fun ak I=>?_;refine kI k C.le 0 ?_;refine gzA I fun I=>?_;refine ixA slA I fun al am a4 a5 I=>?_;refine st1_S C 0 rfl a4 a5 rfl (fun _=>⟨rfl,rfl⟩) fun an C=>?_;dsimp at C;exact endL
  ·obtain rfl:=oI I;obtain rfl:=oI a3;exact endM
 ·refine ⟨fun _=>False,?_⟩;have u:=C;have c:=eX p;refine lsA ?_;obtain ⟨ao,a6,I⟩:=obind I;refine ce1 C (fun s=>Zvr s.fle a6 slA slA) fun ap aq xE C=>⟨_,rfl,eZ (c.trans xE),?_⟩;replace c:=c.trans xE;refine ZJ ?_;refine kI k u.le 0 ?_;refine cm0 I C (fun s l=>Zmz s l slA) fun ar au C I=>⟨_,rfl,?_⟩;exact tZ
theorem ZuB {e j f v1 g c2 r} (I:ZgC e v1 c2=some r) (w:CellsC (hcell h) j [.int .i64 e.Prime,.int .i64 e.Degree,f]) (o:sc h eI f e.Poly) (p:sc h eI g v1):zL 190 #[.pointer (some j),g,.int .i64 c2] h ψ eI r:=by
 refine zv ⟨[(3,[(7,.v),(8,tkI)])],[],[],[]⟩ Tryz.func190 ?_;have C:=sZ hψ;refine ZO (E:=eI) (css:=[]) (xs:=([]:List Int)) C (fun _=>rfl) rfl rfl fun v9 x C=>?_;refine ⟨fun n k l i=>∃ c,S ψ h i [.it oL [k] c]/\loopN (ZgS e v1 c2) n (c,l)=some r,endI,?_⟩;rintro n _ k l i ⟨c,C,u⟩;obtain ⟨m,a,rfl,I,O⟩:=Zh u;refine vL p C.le ?_;refine brQ I (fun I=>?_) fun I=>?_
 ·refine ixI slA I fun y I=>?_;refine cm0 I C (fun s v=>Zm7 s v slA slA) fun a0 a1 C I=>⟨_,rfl,?_⟩;refine puA I 0 fun a2 a3 a4 C I=>?_;exact endL
 ·obtain rfl:=oI I;obtain rfl:=oI O;exact endR
theorem ZyY {e f c g r} (I:Zjd e g=some r) (k:CellsC (hcell h) f [.int .i64 e.Prime,.int .i64 e.Degree,c]) (i:sc h eI c e.Poly):zR 191 #[.pointer (some f),.int .i64 g] h ψ (.int .i64 r):=by
 refine zv ⟨[(2,[(5,tkI)])],[],[],[]⟩ Tryz.func191 ?_;have C:=sZ hψ;refine lp1 I (nlS C) fun m p l a C I O=>?_;refine cm0 I C (fun s j=>Zm7 s j slA slA) fun u o C I=>⟨_,rfl,?_⟩;exact brQ I (fun I=>tZ) fun I=>tZ
theorem Zqy {c p e u v k3 r} (I:Zin c u v k3=some r) (g:CellsC (hcell h) p [.int .i64 c.Prime,.int .i64 c.Degree,e]) (y:sc h eI e c.Poly):zR 230 #[.pointer (some p),.int .i64 u,.int .i64 v,.int .i64 k3] h ψ (.int .i64 r):=by
 refine zv ⟨[(4,[(11,tkI)])],[],[],[]⟩ Tryz.func230 ?_;have C:=sZ hψ;refine lsA ?_;refine cm1 I C (fun s f=>Zeh s f) fun a2 w a3 C I=>⟨_,rfl,?_⟩;refine lsA ?_;refine cm1 I C (fun s f=>Zeh s f) fun i x a4 C I=>⟨_,rfl,?_⟩;refine ⟨fun n j k=>∃ xs,S ψ h k [.it oL [x] i,.it oL [w] xs]/\loopN (Zgu c k3 i) n (j,xs)=some r,endI,?_⟩;rintro n _ j k ⟨xs,C,hn⟩;obtain ⟨m,a,rfl,I,O⟩:=Zh hn;refine Zm slA ?_;refine brQ I (fun I=>?_) fun I=>?_
 ·refine ixI slA I fun a5 I=>?_;refine ixI slA I fun a6 I=>?_;refine kI g C.le 0 ?_;refine gzA I fun I=>?_;refine ixA slA I fun a7 a8 l o I=>?_;refine st1_S C 1 rfl l o rfl (fun _=>⟨rfl,rfl⟩) fun a9 C=>?_;dsimp at C;exact endL
 ·refine kI g C.le 0 ?_;refine cm0 I C (fun s f=>Zmz s f slA) fun aa ab C I=>⟨_,rfl,?_⟩;exact tZ
theorem Zzl {g w i v1 j w2 x o r} (I:Zjt g v1 w2 o=some r) (y:CellsC (hcell h) w [.int .i64 g.Prime,.int .i64 g.Degree,i]) (a2:sc h eI i g.Poly) (f1:sc h eI j v1) (f2:sc h eI x w2):zL 192 #[.pointer (some w),j,x,.int .i64 o] h ψ eI r:=by
 refine zv ⟨[(3,[(9,.v),(10,tkI)])],[],[],[(5,⟨kdL [0,0,0,0,0,2,0,0,0,0,1,0,3,0,0,0,2,0,4,4,4,0],.fin [6,7,8,9,10,11,12,1,2,3,4,5,13,14,15,16,17,18,19,0,20,21],true⟩)]⟩ Tryz.func192 ?_;have C:=sZ hψ;refine ZO (E:=eI) (css:=[]) (xs:=([]:List Int)) C (fun _=>rfl) rfl rfl fun a5 a6 C=>?_;refine ⟨fun n v9 l k=>∃ c,S ψ h k [.it oL [v9] c]/\loopN (Ziq g v1 w2 o) n (c,l)=some r,endI,?_⟩;rintro n _ v9 l k ⟨c,C,hn⟩;obtain ⟨m,a,rfl,I,O⟩:=Zh hn;refine vL f1 C.le ?_;refine brQ I (fun I=>?_) fun I=>?_
 ·refine ⟨fun _=>False,?_⟩;have f:=C;have e:=eX k;refine ixI slA I fun a7 I=>?_;obtain ⟨a8,p,I⟩:=obind I;refine ce0 C (fun s=>Zm7 s.fle p slA slA) fun a9 xE C=>⟨_,rfl,eZ (e.trans xE),?_⟩;replace e:=e.trans xE;refine ixA slA I fun aa ab u v I=>?_;refine ZJ ?_;refine ldI_C (f1.mono f.le) u v ?_;refine ZJ ?_;refine kI y f.le 0 ?_;refine cm0 I C (fun s hx=>Zqy s hx slA slA) fun ac ad C I=>⟨_,rfl,?_⟩;refine puA I 0 fun ae af ag C I=>?_;exact endL
 ·obtain rfl:=oI I;obtain rfl:=oI O;exact endR
theorem ZFh {g p0 o y1 v1 y2 r} (I:Zpb g y1 y2=some r) (bm:CellsC (hcell h) p0 [.int .i64 g.Prime,.int .i64 g.Degree,o]) (b5:sc h eI o g.Poly) (f1:sc h eL v1 y1):CallsH P 147 #[.pointer (some p0),v1,.int .i64 y2] h (fun v h'=>∃ w0 w1,v=.tuple #[w0,w1]/\S ψ h h' [.it (El.ow eL) [w0] r.1,.it oL [w1] r.2]):=by
 refine zv ⟨[(4,[(9,.v),(10,tkI)]),(8,[(12,tkI)]),(15,[(14,tkI)])],[(6,[]),(10,[(12,tkI)])],[],[(11,⟨kdL [0,0,0,0,2,0,0,0,0,1,0,0,1,3,4,0],.fin [5,6,7,8,9,10,11,12,13,0,1,2,3,4,14,15],true⟩),(18,⟨[],.fin [2,3,4,5,6,7,8,9,10,11,12,13,14,15,0,1,16,17],false⟩)]⟩ Tryz.func147 ?_;have C:=sZ hψ;refine cm1 I C (fun s hx=>ZoO s hx slA) fun bn i bo C I=>⟨_,rfl,?_⟩;refine ZO (E:=eI) (css:=[]) (xs:=([]:List Int)) C (fun _=>rfl) rfl rfl fun bp bq C=>?_;refine ⟨fun n l j a5=>∃ c xs,S ψ h a5 [.it oL [l] c,.it (El.ow eL) [i] xs]/\loopN (Zc1 g y2) n (c,j,xs)=some r,endI,?_⟩;rintro n _ l j a5 ⟨c,xs,C,hn⟩;obtain ⟨m,a,rfl,I,O⟩:=Zh hn;refine ⟨fun a6=>S ψ h a6 [.it oL [l] c,.it (El.ow eL) [i] xs]/\Zkd g c j xs=some a,?_,?_⟩
 ·refine brQ I (fun I=>?_) fun I=>?_
  ·refine Zm slA ?_;refine Zm slA ?_;refine brQ I (fun I=>?_) fun I=>?_
   ·exact endC
   ·obtain rfl:=oI I;obtain rfl:=oI O;exact endR
  ·obtain rfl:=oI I;obtain rfl:=oI O;exact endR
 ·rintro _ a6 ⟨C,I⟩;refine Zm slA ?_;refine ⟨fun a7 p=>S ψ h p [.it oL [l] c,.it (El.ow eL) [i] xs]/\ZaF g c j xs a7=some a,?_,?_⟩
  ·refine lp1 (os:=[.it oL [l] c,.it (El.ow eL) [i] xs]) I (pk C [0,1]) fun br b4 b7 bs C I u=>?_;refine Zm slA ?_;refine brQ I (fun I=>?_) fun I=>?_
   ·refine ixA slA I fun bt bu x y I=>?_;refine ZaM C 1 rfl x y fun bv C=>?_;refine ixI slA I fun bw I=>?_;refine brQ I (fun I=>?_) fun I=>?_
    ·exact endL
    ·obtain ⟨xm,hq,rfl⟩:=omap I;obtain rfl:=oI u;exact ⟨pk C [1,2],hq⟩
   ·obtain ⟨xm,hq,rfl⟩:=omap I;obtain rfl:=oI u;exact ⟨pk C [0,1],hq⟩
  ·rintro _ a7 p ⟨C,I⟩;refine Zm slA ?_;refine brQ I (fun I=>?_) fun I=>?_
   ·exact endL
   ·refine ⟨fun _=>False,?_⟩;have a0:=C;have e:=eX p;refine ixA slA I fun ay bx ad af I=>?_;refine ZaM C 1 rfl ad af fun az C=>?_;refine ixI slA I fun bz I=>?_;obtain ⟨c0,ag,I⟩:=obind I;refine ce0 C (fun s=>ZyY s.fle ag slA slA) fun c3 xE C=>⟨_,rfl,eZ (e.trans xE),?_⟩;replace e:=e.trans xE;refine ixA slA I fun c4 c5 ah ai I=>?_;refine ZK ?_;refine ldV_C (a0.rdL 1 rfl (Zac _)) (CLe.refl _) ah ai fun c6 f=>?_;refine cl1 I C (fun b0 _ _ aj=>ZuB b0.fle aj slA slA (f.mono (CLe.ext e))) fun a8 b1 c7 C I=>⟨_,rfl,?_⟩;refine ixA slA I fun b2 c8 ak al I=>?_;refine ZaM C 3 rfl ak al fun b3 C=>?_;refine ixA slA I fun c9 ca am an I=>?_;have C:=C.copyF 0 rfl;refine Zeu C 4 rfl am an rfl fun cb C=>?_;dsimp at C;refine ixA slA I fun cc cd ao ap I=>?_;have C:=frA 1;have C:=C.copyF 1 rfl;refine Zeu C 4 rfl ao ap rfl fun ba C=>?_;dsimp at C;refine ⟨fun a9 aa w=>∃ k,S ψ h w [.it eL [b3] b2,.it eL [b1] a8,.it eL [az] ay,.it oL [l] c,.it (El.ow eL) [i] k]/\loopN (ZfH g c j a8) a9 (aa,k)=some a,endI,?_⟩;rintro a9 _ aa w ⟨k,C,aq⟩;obtain ⟨ce,cf,rfl,I,ar⟩:=Zh aq;refine Zm slA ?_;refine brQ I (fun I=>?_) fun I=>?_
    ·refine brQ I (fun I=>?_) fun I=>?_
     ·refine ixA slA I fun cg ch au a1 I=>?_;refine ZaM C 4 rfl au a1 fun cj C=>?_;refine ixA slA I fun ck cm av a2 I=>?_;refine ZaM C 5 rfl av a2 fun cn C=>?_;refine ixI slA I fun bb I=>?_;refine cm1 I C (fun s hx=>Zzl s hx slA slA slA slA) fun bc bd be C I=>⟨_,rfl,?_⟩;refine ixA slA I fun bf bg a3 a4 I=>?_;have C:=frA 0;have C:=C.copyF 0 rfl;refine Zeu C 7 rfl a3 a4 rfl fun bh C=>?_;dsimp at C;exact endL
     ·exact endL
    ·refine puA I 3 fun bi bj bk C I=>?_;obtain rfl:=oI I;obtain rfl:=oI ar;exact endM
theorem ZHa {c g a i v1 r} (I:ZhN c i=some r) (u:CellsC (hcell h) g [.int .i64 c.Prime,.int .i64 c.Degree,a]) (l:sc h eI a c.Poly) (o:sc h eL v1 i):zL 106 #[.pointer (some g),v1] h ψ eL r:=by
 refine zv annO Tryz.func106 ?_;have C:=sZ hψ;refine ixV o C.le I fun v w f I=>?_;refine vL f C.le ?_;refine cm2 I C (fun s p=>ZFh s p slA slA slA) fun j x k y C I=>⟨_,_,rfl,?_⟩;refine Zm slA ?_;obtain ⟨a0,e,I⟩:=obind I;refine cut_S none (some (j.2.length:Int)) C 0 rfl e rfl fun a1 C=>?_;dsimp at C;exact endS
theorem ZC7 {i x j k r} (I:ZaI i=some r) (a:CellsC (hcell h) x [.int .i64 i.Field.Prime,.int .i64 i.Field.Degree,j,k]) (a1:sc h eI j i.Field.Poly) (c:sc h eL k i.Rows):zR 57 #[.pointer (some x)] h ψ (.bool r):=by
 refine zv ⟨[],[(3,[])],[],[(3,⟨kdL [0,0,0,3,0,0,0,2,0,4,0],.fin [0,1,2,3,4,5,6,7,8,9,10],true⟩),(5,⟨kdL [0,0,0,0,0,0,1,3,0,0,0,2,4,0],.fin [0,1,2,3,4,5,6,7,8,9,10,11,12,13],true⟩)]⟩ Tryz.func57 ?_;have C:=sZ hψ;refine ⟨fun l=>S ψ h l []/\Zdj i=some r,?_,?_⟩
 ·refine kV a C.le 3 ?_;refine cl0 I C (fun y _ _ v=>ZE8 y.fle v (CellsC.part 0 3 slA) slA slA) fun a2 a3 C I=>⟨_,rfl,?_⟩;refine brZ fun I=>?_;refine kV a C.le 3 ?_;refine ixV c C.le I fun a4 a5 f I=>?_;refine vL f C.le ?_;refine brZ fun I=>?_;refine kV a C.le 3 ?_;refine vL c C.le ?_;exact brQ I (fun I=>tZ) fun I=>tZ
 ·rintro _ l ⟨C,I⟩;refine ⟨fun _=>False,?_⟩;have p:=C;have e:=eX l;obtain ⟨a6,o,I⟩:=obind I;refine ce0 C (fun s=>Zlz s.fle o (CellsC.part 0 3 slA) slA) fun a7 xE C=>⟨_,rfl,eZ (e.trans xE),?_⟩;replace e:=e.trans xE;refine ZK ?_;refine kV a p.le 3 ?_;refine vL c C.le ?_;refine cm0 I C (fun s o=>ZyN s o) fun a8 a0 C I=>⟨_,rfl,?_⟩;refine brZ fun I=>?_;refine ⟨fun _=>False,?_⟩;have u:=C;have g:=eX a0;refine kV a C.le 3 ?_;obtain ⟨a9,w,I⟩:=obind I;refine ce1 C (fun s=>ZHa s.fle w (CellsC.part 0 3 slA) slA slA) fun aa ab xE C=>⟨_,rfl,eZ (g.trans xE),?_⟩;replace g:=g.trans xE;refine ZK ?_;refine kV a u.le 3 ?_;refine cm0 I C (fun s o=>Zt8 s o slA slA) fun ac ad C I=>⟨_,rfl,?_⟩;exact tZ
theorem ZC0 {c v0 r} (I:Zi8 c=some r) (e:sc h eI v0 c):zR 148 #[v0] h ψ (.bool r):=by
 refine zv ⟨[(4,[(3,tkI)])],[],[],[]⟩ Tryz.func148 ?_;have C:=sZ hψ;refine vL e C.le ?_;refine brZ fun I=>?_;refine lp1 I (nlS C) fun m l g a C I O=>?_;refine vL e C.le ?_;refine brY fun I=>?_;refine ixI slA I fun i I=>?_;refine cm0 I C (fun s f=>Zaq s f) fun j k C I=>⟨_,rfl,?_⟩;exact brQ I (fun I=>tZ) fun I=>tZ
theorem ZIm {a c r} (I:Zlp a c=some r)  :zR 149 #[.agg #[.int .i64 a.A,.int .i64 a.B],.agg #[.int .i64 c.A,.int .i64 c.B]] h ψ (.bool r):=by
 refine zv annO Tryz.func149 ?_;have C:=sZ hψ;refine new_S C fun g e C=>?_;refine new_S C fun i f C=>?_;refine lsA ?_;refine brZ fun I=>?_;refine lsA ?_;refine brY fun I=>?_;refine lsA ?_;exact tZ
theorem Zuu {i c e r} (I:Ziv i=some r) (k:sc h eI c i.Colors) (f:sc h Zf e i.Edges):zR 107 #[.agg #[c,e]] h ψ (.bool r):=by
 refine zv ⟨[(5,[(4,tkI)])],[(3,[])],[],[]⟩ Tryz.func107 ?_;have C:=sZ hψ;refine new_S C fun u a1 C=>?_;refine ⟨fun j=>S ψ h j [.box u [c,e]]/\ZoM i=some r,?_,?_⟩
 ·refine bV C 0 0 ?_;refine cm0 I C (fun s g=>ZC0 s g slA) fun r8 v C I=>⟨_,rfl,?_⟩;refine brZ fun I=>?_;refine bV C 0 1 ?_;refine vL f C.le ?_;refine brZ fun I=>?_;exact endC
 ·rintro _ j ⟨C,I⟩;refine bV C 0 0 ?_;refine vL k C.le ?_;refine lp1 (os:=[.box u [c,e]]) I (pk C [0]) fun m i4 a2 a C I O=>?_;refine bV C 0 1 ?_;refine vL f C.le ?_;refine brY fun I=>?_;refine bV C 0 1 ?_;refine ixA slA I fun a3 a4 w g I=>?_;obtain ⟨cs,ck,hr⟩:=f.cells w g rfl;obtain rfl:=Zaw hr;refine lsA ?_;refine new_S C fun b5 a5 C=>?_;(iterate 2 refine boxA fun a6 C=>?_);refine bI C 0 0 ?_;refine cm0 I C (fun s g=>Zaq s g) fun a7 a8 C I=>⟨_,rfl,?_⟩;refine brZ fun I=>?_;refine lsA ?_;refine cm0 I C (fun s g=>Zaq s g) fun a9 aa C I=>⟨_,rfl,?_⟩;refine brZ fun I=>?_;refine brQ I (fun I=>?_) fun I=>?_
  ·refine bV C 1 1 ?_;refine ixA slA I fun ab ac l o I=>?_;obtain ⟨x,y,p⟩:=f.cells l o rfl;obtain rfl:=Zaw p;refine lsA ?_;refine cm0 I C (fun s g=>ZIm s g) fun ae a0 C I=>⟨_,rfl,?_⟩;refine brZ fun I=>?_;exact endL
  ·exact endL
theorem Zra {l p0 o r} (I:Zgw l=some r) (c:CellsC (hcell h) p0 [.int .i64 l.Kind,.int .i64 l.Size,o]) (e:sc h eL o l.Rows):CallsH P 58 #[.pointer (some p0)] h (fun v h'=>∃ w0 w1,v=.tuple #[.agg #[w0,w1],.bool r.2]/\S ψ h h' [.it oL [w0] r.1.Colors,.it (El.ow Zf) [w1] r.1.Edges]):=by
 refine zv ⟨[(5,[(5,tkI)])],[],[],[(9,⟨kdL [0,2,0,0,0,1,0,0,1,0,1,0,0,0,1,0,0,1,0,1,0,3,4,0,4],.fin [2,3,4,5,6,7,8,9,10,11,12,13,14,15,16,17,18,19,20,21,0,1,22,23,24],true⟩),(10,⟨kdL [2,1,3,4,0],.fin [1,2,0,3,4],true⟩)]⟩ Tryz.func58 ?_;have C:=sZ hψ;refine new_S C fun b2 af C=>?_;refine kI c C.le 1 ?_;refine cm0 I C (fun s hx=>Zaq s hx) fun ag ah C I=>⟨_,rfl,?_⟩;refine brQ I (fun I=>?_) fun I=>?_
 ·(iterate 2 refine boxA fun ai C=>?_);refine lsA ?_;have C:=C.nilO (E:=eI);have C:=C.nilO (E:=Zf);exact endS
 ·refine kI c C.le 1 ?_;refine mkO eI I fun w x aj C I=>?_;refine ZG oneA ?_;refine new_S C fun b4 ak C=>?_;(iterate 2 refine boxA fun al C=>?_);have C:=C.nilO (E:=Zf);refine ⟨fun n y5 g=>∃ xs p,S ψ h g [.box b4 [x,p],.it oL [x] w,.box b2 [(.slice none 0 0),(.slice none 0 0)],.it (El.ow Zf) [p] xs]/\loopN (Zfl l w) n (y5,xs)=some r,endI,?_⟩;rintro n _ y5 g ⟨xs,p,C,hn⟩;obtain ⟨m,a,rfl,I,O⟩:=Zh hn;refine kV c C.le 2 ?_;refine vL e C.le ?_;refine brQ I (fun I=>?_) fun I=>?_
  ·refine kV c C.le 2 ?_;refine ixV e C.le I fun am an f I=>?_;refine vL f C.le ?_;refine brQ I (fun I=>?_) fun I=>?_
   ·(iterate 2 refine boxA fun a9 C=>?_);refine lsA ?_;have C:=C.nilO (E:=eI);have C:=C.nilO (E:=Zf);obtain rfl:=oI I;obtain rfl:=oI O;exact endR
   ·refine ⟨fun _=>False,?_⟩;have u:=C;have k:=eX g;refine kV c C.le 2 ?_;refine ixV e C.le I fun ao ap aq I=>?_;refine ixI slA I fun a3 I=>?_;refine kV c C.le 2 ?_;refine ixV e C.le I fun ar au av I=>?_;refine ixI slA I fun a4 I=>?_;refine ZbN C fun aw aa xE C=>⟨eZ (k.trans xE),?_⟩;replace k:=k.trans xE;refine ZK ?_;refine ldV_K (u.cells 0 rfl) 1 rfl rfl ?_;obtain ⟨ax,y,I⟩:=obind I;refine ZkQ C 4 rfl 0 rfl (fun _=>⟨[.int .i64 a3],[.int .i64 a4],[],[],rfl,rfl,⟨rfl,rfl⟩,⟨rfl,rfl⟩⟩) rfl rfl y fun ay ab xE C=>?_;refine boxA fun ac C=>?_;exact endL
  ·refine ⟨fun _=>False,?_⟩;have j:=C;have i:=eX g;refine lsA ?_;obtain ⟨az,a0,I⟩:=obind I;refine ce0 C (fun s=>Zuu s.fle a0 slA slA) fun ad xE C=>⟨_,rfl,eZ (i.trans xE),?_⟩;replace i:=i.trans xE;refine ZK ?_;refine ldV_K (j.cells 0 rfl) 0 rfl rfl ?_;refine ZK ?_;refine ldV_K (j.cells 0 rfl) 1 rfl rfl ?_;(iterate 2 refine boxA fun ae C=>?_);refine lsA ?_;obtain rfl:=oI I;obtain rfl:=oI O;exact endR
theorem ZtJ {c v0 p1 v1 r} (I:Ze6 c p1=some r) (e:sc h eL v0 c) (v:sc h eI v1 p1):zR 151 #[v0,v1] h ψ (.tuple #[.int .i64 r.1,.bool r.2]):=by
 refine zv ⟨[(3,[(6,tkI),(7,tkI)])],[],[],[]⟩ Tryz.func151 ?_;have C:=sZ hψ;refine vL e C.le ?_;refine lp2 I (nlS C) fun m i g k a C I O=>?_;refine brY fun I=>?_;refine gzA I fun I=>?_;refine ixV e C.le I fun l o f I=>?_;refine cm0 I C (fun s j=>Zdp s j slA slA) fun p u C I=>⟨_,rfl,?_⟩;refine brZ fun I=>?_;exact brQ I (fun I=>tZ) fun I=>tZ
theorem ZAg {n0 r} (I:ZiH n0=some r)  :zL 193 #[.int .i64 n0] h ψ eI r:=by
 refine zv ⟨[(3,[(3,.v),(4,tkI)])],[],[],[]⟩ Tryz.func193 ?_;have C:=sZ hψ;refine ZO (E:=eI) (css:=[]) (xs:=([]:List Int)) C (fun _=>rfl) rfl rfl fun p j C=>?_;refine ⟨fun n f g e=>∃ c,S ψ h e [.it oL [f] c]/\loopN (Zg6 n0) n (c,g)=some r,endI,?_⟩;rintro n _ f g e ⟨c,C,i⟩;obtain ⟨m,a,rfl,I,O⟩:=Zh i;refine brQ I (fun I=>?_) fun I=>?_
 ·refine puA I 0 fun k l o C I=>?_;exact endL
 ·obtain rfl:=oI I;obtain rfl:=oI O;exact endR
theorem Zx9 {f v0 g v1 r} (I:ZlT f g=some r) (k:sc h eI v0 f) (x:sc h eI v1 g):zL 194 #[v0,v1] h ψ eI r:=by
 refine zv ⟨[(3,[(5,.v),(6,tkI)])],[],[],[]⟩ Tryz.func194 ?_;have C:=sZ hψ;refine ZO (E:=eI) (css:=[]) (xs:=([]:List Int)) C (fun _=>rfl) rfl rfl fun y o C=>?_;refine ⟨fun n i j e=>∃ c,S ψ h e [.it oL [i] c]/\loopN (Ziw f g) n (c,j)=some r,endI,?_⟩;rintro n _ i j e ⟨c,C,l⟩;obtain ⟨m,a,rfl,I,O⟩:=Zh l;refine vL k C.le ?_;refine brQ I (fun I=>?_) fun I=>?_
 ·refine ixI slA I fun p I=>?_;refine ixI slA I fun s I=>?_;refine puA I 0 fun u v w C I=>?_;exact endL
 ·obtain rfl:=oI I;obtain rfl:=oI O;exact endR
theorem Zy4 {a v0 c p2 j r} (I:ZkT a c p2=some r) (k:SlC ψ eL v0 a) (l:SlC ψ eI j p2):zL 195 #[v0,.int .i64 c,j] h ψ eL r:=by
 refine zv annO Tryz.func195 ?_;have C:=sZ hψ;refine ZO (E:=eL) (css:=[]) (xs:=([]:List (List Int))) C (fun _=>rfl) rfl rfl fun v8 s C=>?_;obtain ⟨u,p,I⟩:=obind I;refine Zd7 none (some c) k p rfl fun v f=>?_;have C:=C.arg f;obtain ⟨w,e,I⟩:=obind I;refine app_S C 1 rfl (Zo9 0 rfl) rfl rfl e fun x y C=>?_;dsimp at C;refine ZG (l.mono C.leF).one ?_;have C:=C.arg l;refine piA I 1 fun a0 a1 a2 C I=>?_;obtain ⟨a3,g,I⟩:=obind I;refine Zd7 (some c) none k g rfl fun a4 o=>?_;have C:=C.arg o;obtain ⟨a5,i,I⟩:=obind I;refine app_S C 2 rfl (Zo9 0 rfl) rfl rfl i fun a6 a7 C=>?_;dsimp at C;exact endS
theorem ZtQ {degree0 genera1 v1 g r} (I:ZdJ degree0 genera1 g=some r) (f1:sc h eL v1 genera1):CallsH P 150 #[.int .i64 degree0,v1,.int .i64 g] h (fun v h'=>∃ w0,v=.tuple #[w0,.bool r.2]/\S ψ h h' [.it (El.ow eL) [w0] r.1]):=by
 refine zv ⟨[(5,[(9,.v),(10,.v),(11,tkI)]),(8,[(9,.v),(10,.v),(12,tkI)])],[],[],[]⟩ Tryz.func150 ?_;have C:=sZ hψ;refine cm1 I C (fun s k=>ZAg s k) fun u w ae C I=>⟨_,rfl,?_⟩;refine ZG oneA ?_;have C:=frA 0;have C:=C.copyF 0 rfl;refine Zj4 C fun af ag C=>?_;refine ZG oneA ?_;have C:=C.copyF 1 rfl;refine Zj4 C fun ah ai C=>?_;refine ⟨fun n v9 x l y=>∃ i a7,S ψ h y [.it (El.ow eL) [x] a7,.it (El.ow eL) [v9] i,.it eL [w] u]/\loopN (ZcM genera1 g) n (i,a7,l)=some r,endI,?_⟩;rintro n _ v9 x l y ⟨i,a7,C,hn⟩;obtain ⟨m,a,rfl,I,O⟩:=Zh hn;refine Zm slA ?_;refine brQ I (fun I=>?_) fun I=>?_
 ·refine ⟨fun a0 o j a1 a2=>∃ e c,S ψ h a2 [.it (El.ow eL) [j] c,.it (El.ow eL) [o] e,.it eL [w] u]/\loopN (ZaW genera1 g l) a0 (e,c,a1)=some a,endI,?_⟩;rintro a0 _ o j a1 a2 ⟨e,c,C,a4⟩;obtain ⟨aj,ak,rfl,I,p⟩:=Zh a4;refine vL f1 C.le ?_;refine brQ I (fun I=>?_) fun I=>?_
  ·refine ixA slA I fun al am ad a5 I=>?_;refine ZaM C 0 rfl ad a5 fun an C=>?_;refine ixV f1 C.le I fun ao ap f I=>?_;refine cm1 I C (fun s k=>Zx9 s k slA slA) fun aq ar au C I=>⟨_,rfl,?_⟩;refine cm0 I C (fun s k=>ZtJ s k slA slA) fun av aw C I=>⟨_,_,rfl,?_⟩;refine brQ I (fun I=>?_) fun I=>?_
   ·exact endL
   ·refine Zm slA ?_;refine brQ I (fun I=>?_) fun I=>?_
    ·have C:=C.nilO (E:=eL);obtain rfl:=oI I;obtain rfl:=oI p;obtain rfl:=oI O;exact endR
    ·have C:=frA 3;have C:=frA 0;refine cl1 I C (fun a9 a3 _ a6=>Zy4 a9.fle a6 (frF a3 3 rfl) (frF a3 0 rfl)) fun ax ay az C I=>⟨_,rfl,?_⟩;refine ZG oneA ?_;have C:=C.copyF 1 rfl;refine piA I 3 fun b0 b1 ac C I=>?_;exact endL
  ·obtain rfl:=oI I;obtain rfl:=oI p;exact endM
 ·obtain rfl:=oI I;obtain rfl:=oI O;exact endR
theorem ZzT {degree0 c v1 r} (I:ZiF degree0 c=some r) (j:sc h eL v1 c):CallsH P 108 #[.int .i64 degree0,v1] h (fun v h'=>∃ w0,v=.tuple #[w0,.bool r.2]/\S ψ h h' [.it (El.ow eL) [w0] r.1]):=by
 refine zv ⟨[(4,[(6,.v),(7,.v),(9,tkI)])],[],[],[]⟩ Tryz.func108 ?_;have C:=sZ hψ;refine ZO (E:=eL) (css:=[]) (xs:=([]:List (List Int))) C (fun _=>rfl) rfl rfl fun w x C=>?_;refine cm1 I C (fun s e=>ZtQ s e slA) fun y a0 a1 C I=>⟨_,_,rfl,?_⟩;refine ⟨fun n l o p k=>∃ i g,S ψ h k [.it (El.ow eL) [o] g,.it (El.ow eL) [l] i]/\loopN (ZbS degree0 c) n (i,g,p)=some r,endI,?_⟩;rintro n _ l o p k ⟨i,g,C,u⟩;obtain ⟨m,a,rfl,I,O⟩:=Zh u;refine vL j C.le ?_;refine brQ I (fun I=>?_) fun I=>?_
 ·refine ixV j C.le I fun a2 a3 f I=>?_;refine cm0 I C (fun s e=>ZtJ s e slA slA) fun a4 a5 C I=>⟨_,_,rfl,?_⟩;refine brQ I (fun I=>?_) fun I=>?_
  ·exact endL
  ·refine ixV j C.le I fun a6 a7 a8 I=>?_;refine cm1 I C (fun s e=>Zix s e slA) fun a9 aa ab C I=>⟨_,rfl,?_⟩;refine ZG oneA ?_;have C:=frA 0;have C:=C.copyF 0 rfl;refine piA I 2 fun ac ad ae C I=>?_;refine vL j C.le ?_;refine cm1 I C (fun s e=>ZtQ s e slA) fun af ag ah C I=>⟨_,_,rfl,?_⟩;refine brQ I (fun I=>?_) fun I=>?_
   ·have C:=C.nilO (E:=eL);obtain rfl:=oI I;obtain rfl:=oI O;exact endR
   ·exact endL
 ·refine cm0 I C (fun s e=>Zt8 s e slA slA) fun ai aj C I=>⟨_,rfl,?_⟩;obtain rfl:=oI I;obtain rfl:=oI O;exact endR
theorem ZvQ {j l i r} (I:ZlK j=some r) (e:CellsC (hcell h) l [.int .i64 j.Degree,i]) (c:sc h eL i j.Elements):zR 59 #[.pointer (some l)] h ψ (.bool r):=by
 refine zv ⟨[(4,[(3,tkI)])],[(3,[])],[],[]⟩ Tryz.func59 ?_;have C:=sZ hψ;refine ⟨fun k=>S ψ h k []/\ZpT j=some r,?_,?_⟩
 ·refine kI e C.le 0 ?_;refine cm0 I C (fun s g=>Zaq s g) fun p u C I=>⟨_,rfl,?_⟩;refine brZ fun I=>?_;refine kV e C.le 1 ?_;refine vL c C.le ?_;refine brZ fun I=>?_;refine kV e C.le 1 ?_;refine vL c C.le ?_;exact brQ I (fun I=>tZ) fun I=>tZ
 ·rintro _ k ⟨C,I⟩;refine lp1 I (nlS C) fun m y3 v a C I O=>?_;refine kV e C.le 1 ?_;refine vL c C.le ?_;refine brQ I (fun I=>?_) fun I=>?_
  ·refine kV e C.le 1 ?_;refine ixV c C.le I fun w x f I=>?_;refine cm0 I C (fun s g=>Znv s g slA) fun y a0 C I=>⟨_,rfl,?_⟩;refine brZ fun I=>?_;refine kV e C.le 1 ?_;refine ixV c C.le I fun a1 a2 o I=>?_;refine vL o C.le ?_;refine kI e C.le 0 ?_;refine brZ fun I=>?_;refine brY fun I=>?_;refine kV e C.le 1 ?_;refine ixV c C.le I fun a3 a4 a5 I=>?_;refine kV e C.le 1 ?_;refine ixV c C.le I fun a6 a7 a8 I=>?_;refine cm0 I C (fun s g=>Zdp s g slA slA) fun a9 aa C I=>⟨_,rfl,?_⟩;exact brQ I (fun I=>tZ) fun I=>tZ
  ·refine lsA ?_;refine cm1 I C (fun s g=>ZzT s g slA) fun ab ac ad C I=>⟨_,_,rfl,?_⟩;exact tZ
theorem Zn7 {f x e r} (I:Zat f=some r) (c:CellsC (hcell h) x [.int .i64 f.Kind,.int .i64 f.Size,e]) (a:SlC ψ eL e f.Rows):zR 24 #[.pointer (some x)] h ψ (.bool r):=by
 refine zv annO Tryz.func24 ?_;have C:=sZ hψ;refine kI c C.le 0 ?_;refine brQ I (fun I=>?_) fun I=>?_
 ·refine kV c C.le 2 ?_;refine cl0 I C (fun s _ _ hx=>Zr4 s.fle hx (a.mono C.leF)) fun ak al C I=>⟨_,rfl,?_⟩;refine brY fun I=>?_;refine kV c C.le 2 ?_;refine vL a C.leF ?_;refine kI c C.le 1 ?_;exact tZ
 ·refine brQ I (fun I=>?_) fun I=>?_
  ·refine lsA ?_;refine ZG (a.mono C.leF).one ?_;refine new_S C fun am an C=>?_;refine cl0 I C (fun y _ _ j=>Zxz y.fle j (C.cells 0 rfl) (a.mono C.leF)) fun ao ap C I=>⟨_,rfl,?_⟩;exact tZ
  ·refine brQ I (fun I=>?_) fun I=>?_
   ·refine kV c C.le 2 ?_;refine cl0 I C (fun a0 _ _ k=>ZBR a0.fle k (a.mono C.leF)) fun aq ar C I=>⟨_,rfl,?_⟩;refine brY fun I=>?_;refine kV c C.le 2 ?_;refine vL a C.leF ?_;refine kI c C.le 1 ?_;exact tZ
   ·refine brQ I (fun I=>?_) fun I=>?_
    ·refine cl1 I C (fun g _ _ l=>ZHi g.fle l slA (a.mono g.bas)) fun au av aw C I=>⟨_,_,_,rfl,?_⟩;refine new_S C fun b3 ax C=>?_;(iterate 3 refine boxA fun a8 C=>?_);refine kV c C.le 2 ?_;refine vL a C.leF ?_;refine brY fun I=>?_;refine cl0 I C (fun a1 _ _ o=>ZEN a1.fle o (C.cells 0 rfl) slA) fun ay a9 C I=>⟨_,rfl,?_⟩;exact tZ
    ·refine brQ I (fun I=>?_) fun I=>?_
     ·refine cl2 I C (fun i _ _ p=>Zvx i.fle p slA (a.mono i.bas)) fun az b0 a5 aa C I=>⟨_,_,_,_,rfl,?_⟩;refine new_S C fun b4 ab C=>?_;(iterate 4 refine boxA fun ac C=>?_);refine cl0 I C (fun a2 _ _ u=>ZC7 a2.fle u (C.cells 0 rfl) slA slA) fun b1 ad C I=>⟨_,rfl,?_⟩;exact tZ
     ·refine brQ I (fun I=>?_) fun I=>?_
      ·refine cl2 I C (fun a3 _ _ v=>Zra a3.fle v slA (a.mono C.leF)) fun b2 b6 a6 ae C I=>⟨_,_,_,rfl,?_⟩;refine new_S C fun b5 af C=>?_;(iterate 2 refine boxA fun ag C=>?_);exact tZ
      ·refine brY fun I=>?_;refine lsA ?_;refine ZG (a.mono C.leF).one ?_;refine new_S C fun b7 ah C=>?_;refine cl0 I C (fun a4 _ _ w=>ZvQ a4.fle w (C.cells 0 rfl) (a.mono C.leF)) fun ai aj C I=>⟨_,rfl,?_⟩;exact tZ
theorem Zq5 {a r} (I:Zbn a=some r)  :zR 85 #[.int .u8 a] h ψ (.bool r):=by
 refine zv annO Tryz.func85 ?_;have C:=sZ hψ;exact brQ I (fun I=>tZ) fun I=>tZ
theorem ZFZ {a r} (I:Zdx a=some r)  :zR 86 #[.int .u8 a] h ψ (.bool r):=by
 refine zv annO Tryz.func86 ?_;have C:=sZ hψ;exact brQ I (fun I=>tZ) fun I=>tZ
theorem ZuZ {f r} (I:ZhI f=some r)  :zR 40 #[.string f] h ψ (.bool r):=by
 refine zv ⟨[(4,[(3,tkI)])],[(3,[])],[],[]⟩ Tryz.func40 ?_;have C:=sZ hψ;refine ⟨fun e=>S ψ h e []/\ZpZ f=some r,?_,?_⟩
 ·refine brZ fun I=>?_;refine brZ fun I=>?_;obtain ⟨j,g,I⟩:=obind I;refine ZnQ g ?_;refine cm0 I C (fun s c=>Zq5 s c) fun k l C I=>⟨_,rfl,?_⟩;exact brQ I (fun I=>tZ) fun I=>tZ
 ·rintro _ e ⟨C,I⟩;refine lp1 I (nlS C) fun m i3 o a C I O=>?_;refine brY fun I=>?_;obtain ⟨p,c,I⟩:=obind I;refine ZnQ c ?_;refine cm0 I C (fun s c=>Zq5 s c) fun u v C I=>⟨_,rfl,?_⟩;refine brY fun I=>?_;obtain ⟨w,i,I⟩:=obind I;refine ZnQ i ?_;refine cm0 I C (fun s c=>ZFZ s c) fun x y C I=>⟨_,rfl,?_⟩;exact brQ I (fun I=>tZ) fun I=>tZ
theorem ZCy {x0 k a r} (I:Zkg x0=some r) (c:CellsC (hcell h) k [.string x0.Name,.int .i64 x0.Object.Kind,.int .i64 x0.Object.Size,a,.string x0.Key]) (l:sc h eL a x0.Object.Rows):zR 50 #[.pointer (some k)] h ψ (.bool r):=by
 refine zv annO Tryz.func50 ?_;have C:=sZ hψ;refine kS c C.le 0 ?_;refine cm0 I C (fun s o=>ZuZ s o) fun r7 u C I=>⟨_,rfl,?_⟩;refine brY fun I=>?_;obtain ⟨v,i,I⟩:=obind I;obtain ⟨p,w,e,f⟩:=id C;refine (Zn7 (CLe.refl _) i (CellsC.part 1 3 slA) slA).mono fun x y ⟨j,g⟩=>⟨_,j,?_⟩;replace C:=join0 e f (g.weak e.fle);clear g e f;refine brY fun I=>?_;refine kS c C.le 4 ?_;refine brY fun I=>?_;refine kS c C.le 4 ?_;exact tZ
theorem Zx8 {l p0 i r} (I:Zjj l=some r) (e:CellsC (hcell h) p0 [i]) (c:sc h ZL i l.Items):zR 23 #[.pointer (some p0)] h ψ (.bool r):=by
 refine zv ⟨[(2,[(3,tkI)]),(7,[(4,tkI)])],[(6,[])],[],[]⟩ Tryz.func23 ?_;have C:=sZ hψ;refine lp1 I (nlS C) fun m y3 ai a C I O=>?_;refine kV e C.le 0 ?_;refine vL c C.le ?_;refine brQ I (fun I=>?_) fun I=>?_
 ·refine ⟨fun k=>S ψ h k []/\Zg0 l y3=some a,?_,?_⟩
  ·refine kV e C.le 0 ?_;refine ixA slA I fun aj ak o p I=>?_;obtain ⟨a9,aa,u⟩:=c.cells o p rfl;obtain ⟨al,rfl,am⟩:=Zam u;refine cm0 I C (fun s j=>ZCy s j slA slA) fun an ao C I=>⟨_,rfl,?_⟩;refine brZ fun I=>?_;refine brY fun I=>?_;refine kV e C.le 0 ?_;refine ixA slA I fun ap aq v w I=>?_;obtain ⟨ab,ac,x⟩:=c.cells v w rfl;obtain ⟨ar,rfl,au⟩:=Zam x;refine lsA ?_;refine ixA slA I fun av aw y a0 I=>?_;obtain ⟨ae,a1,a2⟩:=c.cells y a0 rfl;obtain ⟨ax,rfl,ay⟩:=Zam a2;refine kS a1 C.le 0 ?_;exact brQ I (fun I=>tZ) fun I=>tZ
  ·rintro _ k ⟨C,I⟩;refine lp1 I (nlS C) fun a7 y4 az b0 C I g=>?_;refine brQ I (fun I=>?_) fun I=>?_
   ·refine kV e C.le 0 ?_;refine ixA slA I fun b1 b2 ad j I=>?_;obtain ⟨cs,ck,hr⟩:=c.cells ad j rfl;obtain ⟨b3,rfl,f⟩:=Zam hr;refine kV e C.le 0 ?_;refine ixA slA I fun b4 b5 a3 a4 I=>?_;obtain ⟨ag,ah,a5⟩:=c.cells a3 a4 rfl;obtain ⟨b6,rfl,b7⟩:=Zam a5;refine cm0 I C (fun s j=>Zur s j slA slA slA slA) fun b8 b9 C I=>⟨_,rfl,?_⟩;refine brQ I (fun I=>?_) fun I=>?_
    ·obtain rfl:=oI I;obtain rfl:=oI g;obtain rfl:=oI O;exact ⟨rfl,nlS C⟩
    ·obtain rfl:=oI I;exact ⟨a7,ltS,nlS C,g⟩
   ·obtain rfl:=oI I;obtain rfl:=oI g;exact ⟨m,ltS,nlS C,O⟩
 ·refine kV e C.le 0 ?_;refine vL c C.le ?_;exact tZ
theorem ZFl {i v0 y1 r} (I:Zjv i y1=some r) (f0:sc h eL v0 i):CallsH P 196 #[v0,.bool y1] h (fun v h'=>∃ w0 w1,v=.agg #[w0,w1]/\S ψ h h' [.it oL [w0] r.Colors,.it (El.ow Zf) [w1] r.Edges]):=by
 refine zv ⟨[(4,[(7,tkI)]),(11,[(9,tkI)]),(15,[(10,tkI)]),(18,[(11,tkI)]),(21,[(12,tkI)])],[(9,[(8,tkI)]),(24,[(84,.b)])],[],[]⟩ Tryz.func196 ?_;have C:=sZ hψ;refine new_S C fun p b7 C=>?_;refine vL f0 C.le ?_;refine new_S C fun s b8 C=>?_;(iterate 2 refine boxA fun b9 C=>?_);have C:=C.nilO (E:=eI);refine ⟨fun n y7 a6=>∃ xs k,S ψ h a6 [.box s [k,(.slice none 0 0)],.box p [(.slice none 0 0),(.slice none 0 0)],.it oL [k] xs]/\loopN (ZhK i y1) n (y7,xs)=some r,endI,?_⟩;rintro n _ y7 a6 ⟨xs,k,C,hn⟩;obtain ⟨m,a,rfl,I,O⟩:=Zh hn;refine brQ I (fun I=>?_) fun I=>?_
 ·refine ⟨fun y8 a7=>S ψ h a7 [.box s [k,(.slice none 0 0)],.box p [(.slice none 0 0),(.slice none 0 0)],.it oL [k] xs]/\Zi5 y7 xs y8=some a,?_,?_⟩
  ·refine brQ I (fun I=>?_) fun I=>?_
   ·refine gzA I fun I=>?_;exact endC
   ·exact endC
  ·rintro _ y8 a7 ⟨C,I⟩;refine bV C 0 0 ?_;obtain ⟨ba,hx,I⟩:=obind I;refine ZaP C 2 rfl (fun _=>⟨rfl,rfl⟩) rfl rfl hx fun bb bc C=>?_;refine boxA fun bd C=>?_;exact endL
 ·refine ⟨fun a8 y9 y=>∃ c e,S ψ h y [.box s [e,(.slice none 0 0)],.box p [(.slice none 0 0),(.slice none 0 0)],.it oL [e] c]/\loopN (ZdS i) a8 (y9,c)=some a,endI,?_⟩;rintro a8 _ y9 y ⟨c,e,C,af⟩;obtain ⟨be,au,rfl,I,ag⟩:=Zh af;refine brQ I (fun I=>?_) fun I=>?_
  ·refine bV C 0 0 ?_;obtain ⟨bf,ah,I⟩:=obind I;refine ZaP C 2 rfl (fun _=>⟨rfl,rfl⟩) rfl rfl ah fun bg b0 C=>?_;refine boxA fun b1 C=>?_;exact endL
  ·have C:=C.nilO (E:=Zf);refine ⟨fun a9 j a0=>∃ u a1,S ψ h a0 [.box s [e,a1],.box p [(.slice none 0 0),(.slice none 0 0)],.it oL [e] c,.it (El.ow Zf) [a1] u]/\loopN (Zfe i c) a9 (j,u)=some au,endI,?_⟩;rintro a9 _ j a0 ⟨u,a1,C,ai⟩;obtain ⟨bh,av,rfl,I,aj⟩:=Zh ai;refine brQ I (fun I=>?_) fun I=>?_
   ·refine ⟨fun aa l a2=>∃ w a3,S ψ h a2 [.box s [e,a3],.box p [(.slice none 0 0),(.slice none 0 0)],.it oL [e] c,.it (El.ow Zf) [a3] w]/\loopN (Zfp i j) aa (l,w)=some av,endI,?_⟩;rintro aa _ l a2 ⟨w,a3,C,ak⟩;obtain ⟨bi,aw,rfl,I,al⟩:=Zh ak;refine brQ I (fun I=>?_) fun I=>?_
    ·refine ⟨fun ab x a4=>∃ g o,S ψ h a4 [.box s [e,o],.box p [(.slice none 0 0),(.slice none 0 0)],.it oL [e] c,.it (El.ow Zf) [o] g]/\loopN (Zb3 i j l) ab (x,g)=some aw,endI,?_⟩;rintro ab _ x a4 ⟨g,o,C,am⟩;obtain ⟨bj,ax,rfl,I,an⟩:=Zh am;refine brQ I (fun I=>?_) fun I=>?_
     ·refine ⟨fun ac a5=>S ψ h a5 [.box s [e,o],.box p [(.slice none 0 0),(.slice none 0 0)],.it oL [e] c,.it (El.ow Zf) [o] g]/\ZcB i j l x g ac=some ax,?_,?_⟩
      ·refine brQ I (fun I=>?_) fun I=>?_
       ·exact endC
       ·refine brQ I (fun I=>?_) fun I=>?_
        ·exact endC
        ·refine ixV f0 C.le I fun bk bm f I=>?_;refine ixI slA I fun bn I=>?_;exact endC
      ·rintro _ ac a5 ⟨C,I⟩;refine brQ I (fun I=>?_) fun I=>?_
       ·refine bV C 0 1 ?_;obtain ⟨bo,ao,I⟩:=obind I;refine ZaP C 3 rfl (fun _=>⟨[.int .i64 j],[.int .i64 (ε.wrap ((ε.wrap ((ε.wrap (3*(i.length:Int)))+(ε.wrap (l*(i.length:Int)))))+x))],[],[],rfl,rfl,⟨rfl,rfl⟩,⟨rfl,rfl⟩⟩) rfl rfl ao fun bp b2 C=>?_;refine boxA fun b3 C=>?_;exact endL
       ·exact endL
     ·obtain rfl:=oI I;obtain rfl:=oI an;exact endM
    ·obtain rfl:=oI I;obtain rfl:=oI al;exact endM
   ·refine lsA ?_;(iterate 2 refine boxA fun b5 C=>?_);refine lsA ?_;obtain rfl:=oI I;obtain rfl:=oI aj;obtain rfl:=oI ag;obtain rfl:=oI O;exact endR
theorem ZAS {c v0 classe1 r} (I:Zhh c classe1=some r) (f:sc h eL v0 c):CallsH P 152 #[v0,.bool classe1] h (fun v y=>∃ w0 w1,v=.tuple #[.agg #[w0,w1],.int .i64 r.2]/\S ψ h y [.it oL [w0] r.1.Colors,.it (El.ow Zf) [w1] r.1.Edges]):=by
 refine zv annO Tryz.func152 ?_;have C:=sZ hψ;refine new_S C fun w i C=>?_;refine cm0 I C (fun s a=>Zr4 s a slA) fun x j C I=>⟨_,rfl,?_⟩;refine brQ I (fun I=>?_) fun I=>?_
 ·(iterate 2 refine boxA fun k C=>?_);refine lsA ?_;have C:=C.nilO (E:=eI);have C:=C.nilO (E:=Zf);exact endS
 ·refine vL f C.le ?_;refine brQ I (fun I=>?_) fun I=>?_
  ·(iterate 2 refine boxA fun l C=>?_);refine lsA ?_;have C:=C.nilO (E:=eI);have C:=C.nilO (E:=Zf);exact endS
  ·refine cm2 I C (fun s a=>ZFl s a slA) fun o p e u C I=>⟨_,_,rfl,?_⟩;(iterate 2 refine boxA fun g C=>?_);refine lsA ?_;exact endS
theorem ZFz {i p0 l r} (I:ZlM i=some r) (o:CellsC (hcell h) p0 [.int .i64 i.Points,l]) (g:sc h eL l i.Blocks):CallsH P 153 #[.pointer (some p0)] h (fun v h'=>∃ w0 w1,v=.tuple #[.agg #[w0,w1],.int .i64 r.2]/\S ψ h h' [.it oL [w0] r.1.Colors,.it (El.ow Zf) [w1] r.1.Edges]):=by
 refine zv ⟨[(6,[(6,tkI)]),(10,[(7,tkI)]),(14,[(8,tkI)]),(17,[(9,tkI)])],[],[],[]⟩ Tryz.func153 ?_;have C:=sZ hψ;refine new_S C fun b2 ay C=>?_;refine lsA ?_;refine vL g C.le ?_;refine brQ I (fun I=>?_) fun I=>?_
 ·(iterate 2 refine boxA fun az C=>?_);refine lsA ?_;have C:=C.nilO (E:=eI);have C:=C.nilO (E:=Zf);exact endS
 ·refine new_S C fun b5 b0 C=>?_;(iterate 2 refine boxA fun b1 C=>?_);have C:=C.nilO (E:=eI);refine ⟨fun n y6 a6=>∃ xs p,S ψ h a6 [.box b5 [p,(.slice none 0 0)],.box b2 [(.slice none 0 0),(.slice none 0 0)],.it oL [p] xs]/\loopN (ZeN i) n (y6,xs)=some r,endI,?_⟩;rintro n _ y6 a6 ⟨xs,p,C,hn⟩;obtain ⟨m,a,rfl,I,O⟩:=Zh hn;refine brQ I (fun I=>?_) fun I=>?_
  ·refine bV C 0 0 ?_;obtain ⟨b3,hx,I⟩:=obind I;refine ZaP C 2 rfl (fun _=>⟨rfl,rfl⟩) rfl rfl hx fun b4 b6 C=>?_;refine boxA fun ao C=>?_;exact endL
  ·refine ⟨fun a7 y7 u=>∃ c e,S ψ h u [.box b5 [e,(.slice none 0 0)],.box b2 [(.slice none 0 0),(.slice none 0 0)],.it oL [e] c]/\loopN (Zdi i) a7 (y7,c)=some a,endI,?_⟩;rintro a7 _ y7 u ⟨c,e,C,ab⟩;obtain ⟨b7,al,rfl,I,w⟩:=Zh ab;refine kV o C.le 1 ?_;refine vL g C.le ?_;refine brQ I (fun I=>?_) fun I=>?_
   ·refine bV C 0 0 ?_;obtain ⟨b8,ac,I⟩:=obind I;refine ZaP C 2 rfl (fun _=>⟨rfl,rfl⟩) rfl rfl ac fun b9 ap C=>?_;refine boxA fun aq C=>?_;exact endL
   ·have C:=C.nilO (E:=Zf);refine ⟨fun a8 y8 x=>∃ j y,S ψ h x [.box b5 [e,y],.box b2 [(.slice none 0 0),(.slice none 0 0)],.it oL [e] c,.it (El.ow Zf) [y] j]/\loopN (ZdK i c) a8 (y8,j)=some al,endI,?_⟩;rintro a8 _ y8 x ⟨j,y,C,ad⟩;obtain ⟨ba,am,rfl,I,a0⟩:=Zh ad;refine brQ I (fun I=>?_) fun I=>?_
    ·refine ⟨fun a9 y9 a1=>∃ k a2,S ψ h a1 [.box b5 [e,a2],.box b2 [(.slice none 0 0),(.slice none 0 0)],.it oL [e] c,.it (El.ow Zf) [a2] k]/\loopN (Zde i y8) a9 (y9,k)=some am,endI,?_⟩;rintro a9 _ y9 a1 ⟨k,a2,C,af⟩;obtain ⟨bb,bc,rfl,I,ag⟩:=Zh af;refine kV o C.le 1 ?_;refine vL g C.le ?_;refine brQ I (fun I=>?_) fun I=>?_
     ·refine kV o C.le 1 ?_;refine ixV g C.le I fun bd be f I=>?_;refine cm0 I C (fun s hx=>Zt9 s hx slA) fun bf ar C I=>⟨_,rfl,?_⟩;refine brQ I (fun I=>?_) fun I=>?_
      ·refine bV C 0 1 ?_;obtain ⟨bg,ah,I⟩:=obind I;refine ZaP C 3 rfl (fun _=>⟨[.int .i64 y8],[.int .i64 (ε.wrap (i.Points+y9))],[],[],rfl,rfl,⟨rfl,rfl⟩,⟨rfl,rfl⟩⟩) rfl rfl ah fun bh au C=>?_;refine boxA fun av C=>?_;exact endL
      ·exact endL
     ·obtain rfl:=oI I;obtain rfl:=oI ag;exact endM
    ·refine bV C 0 1 ?_;refine Zm slA ?_;refine brQ I (fun I=>?_) fun I=>?_
     ·(iterate 2 refine boxA fun aw C=>?_);refine lsA ?_;have C:=C.nilO (E:=eI);have C:=C.nilO (E:=Zf);obtain rfl:=oI I;obtain rfl:=oI a0;obtain rfl:=oI w;obtain rfl:=oI O;exact endR
     ·refine lsA ?_;(iterate 2 refine boxA fun ax C=>?_);refine lsA ?_;obtain rfl:=oI I;obtain rfl:=oI a0;obtain rfl:=oI w;obtain rfl:=oI O;exact endR
theorem ZwA {c p e g v1 i u r} (I:Zkq c g i=some r) (a3:CellsC (hcell h) p [.int .i64 c.Prime,.int .i64 c.Degree,e]) (y:sc h eI e c.Poly) (v:sc h eI v1 g) (f2:sc h eI u i):zL 231 #[.pointer (some p),v1,u] h ψ eI r:=by
 refine zv ⟨[(3,[(8,tkI)])],[],[],[(7,⟨[],.fin [2,3,4,5,6,7,8,9,10,11,0,1,12,13],false⟩)]⟩ Tryz.func231 ?_;have C:=sZ hψ;refine vL v C.le ?_;refine mkO eI I fun a4 w a5 C I=>?_;refine ⟨fun n x f=>∃ xs,S ψ h f [.it oL [w] xs]/\loopN (ZdL c g i) n (x,xs)=some r,endI,?_⟩;rintro n _ x f ⟨xs,C,hn⟩;obtain ⟨m,a,rfl,I,O⟩:=Zh hn;refine vL v C.le ?_;refine brQ I (fun I=>?_) fun I=>?_
 ·refine ixI slA I fun a6 I=>?_;refine brQ I (fun I=>?_) fun I=>?_
  ·refine ixI slA I fun a7 I=>?_;refine ixA slA I fun a8 a9 j k I=>?_;refine st1_S C 0 rfl j k rfl (fun _=>⟨rfl,rfl⟩) fun aa C=>?_;dsimp at C;exact endL
  ·refine ixI slA I fun ab I=>?_;refine ixI slA I fun ac I=>?_;refine cm0 I C (fun s hx=>Zqy s hx slA slA) fun ad ae C I=>⟨_,rfl,?_⟩;refine ixA slA I fun af ag l o I=>?_;refine st1_S C 0 rfl l o rfl (fun _=>⟨rfl,rfl⟩) fun ah C=>?_;dsimp at C;exact endL
 ·obtain rfl:=oI I;obtain rfl:=oI O;exact endR
end
end Go.Proofs.YtepnljbkgjbbmaaGreatDoor
