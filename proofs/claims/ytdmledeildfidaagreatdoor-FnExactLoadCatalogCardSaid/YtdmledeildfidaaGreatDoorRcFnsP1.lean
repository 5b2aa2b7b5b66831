import Derived.Test.YtdmledeildfidaaGreatDoorVcLw
import Derived.Test.YtdmledeildfidaaGreatDoorVcAu
import Derived.Test.YtdmledeildfidaaGreatDoorVcDn
import Derived.Test.YtdmledeildfidaaGreatDoorVcRd
import Derived.Test.YtdmledeildfidaaGreatDoorVcTxt
import Derived.Test.YtdmledeildfidaaGreatDoorVcQ
import Derived.Test.YtdmledeildfidaaGreatDoorPuFns
import Derived.Test.YtdmledeildfidaaGreatDoorVcFns
import Derived.Test.YtdmledeildfidaaGreatDoorVcFld
import Derived.Test.YtdmledeildfidaaGreatDoorVcCl
import Derived.Test.YtdmledeildfidaaGreatDoorVcCpt
import Derived.Test.YtdmledeildfidaaGreatDoorVcGrow
import Derived.Test.YtdmledeildfidaaGreatDoorVcSortI
import Derived.Test.YtdmledeildfidaaGreatDoorVcSortK
import Derived.Test.YtdmledeildfidaaGreatDoorVcLay
open Go.IntKind renaming i64->ε
namespace Go.Proofs.YtdmledeildfidaaGreatDoor
open Go Go.Vc
set_option linter.unusedVariables false
set_option linter.unusedSimpArgs false
set_option maxRecDepth 20000
def ZFc:El Zae:=El.iso (El.pair eI (El.ow oL)) (fun x=>(x.Points,x.Blocks)) (Zae.mk (0:Int) ([]:List (List Int))) rfl
def ZpF:El Zae:=El.iso (El.pair eI (El.sl eL)) (fun x=>(x.Points,x.Blocks)) (Zae.mk (0:Int) ([]:List (List Int))) rfl
theorem frzo_T_impl_Design:Frz ZFc ZpF:=Z3 (Zp (Zk _) (ZL (ZL (Zk _))))
theorem frzf_T_impl_Design:Frz ZpF ZpF:=Z3 (Zp (Zk _) (Zah _))
def Zt9:El Zf:=El.iso (El.pair eI (El.pair eI (El.ow oL))) (fun x=>(x.Kind,x.Size,x.Rows)) (Zf.mk (0:Int) (0:Int) ([]:List (List Int))) rfl
def ZjX:El Zf:=El.iso (El.pair eI (El.pair eI (El.sl eL))) (fun x=>(x.Kind,x.Size,x.Rows)) (Zf.mk (0:Int) (0:Int) ([]:List (List Int))) rfl
theorem frzo_T_impl_Object:Frz Zt9 ZjX:=Z3 (Zp (Zk _) (Zp (Zk _) (ZL (ZL (Zk _)))))
theorem frzf_T_impl_Object:Frz ZjX ZjX:=Z3 (Zp (Zk _) (Zp (Zk _) (Zah _)))
def ZJM:El Zag:=El.iso (El.pair eI (El.pair eI (El.ow oL))) (fun x=>(x.Levels,x.Columns,x.Rows)) (Zag.mk (0:Int) (0:Int) ([]:List (List Int))) rfl
def ZpR:El Zag:=El.iso (El.pair eI (El.pair eI (El.sl eL))) (fun x=>(x.Levels,x.Columns,x.Rows)) (Zag.mk (0:Int) (0:Int) ([]:List (List Int))) rfl
theorem frzo_T_impl_Array:Frz ZJM ZpR:=Z3 (Zp (Zk _) (Zp (Zk _) (ZL (ZL (Zk _)))))
theorem frzf_T_impl_Array:Frz ZpR ZpR:=Z3 (Zp (Zk _) (Zp (Zk _) (Zah _)))
def Zuj:El Ze:=El.iso (El.pair eI (El.pair eI oL)) (fun x=>(x.Prime,x.Degree,x.Poly)) (Ze.mk (0:Int) (0:Int) ([]:List Int)) rfl
def ZlZ:El Ze:=El.iso (El.pair eI (El.pair eI eL)) (fun x=>(x.Prime,x.Degree,x.Poly)) (Ze.mk (0:Int) (0:Int) ([]:List Int)) rfl
theorem frzo_T_impl_Field:Frz Zuj ZlZ:=Z3 (Zp (Zk _) (Zp (Zk _) (ZL (Zk _))))
theorem frzf_T_impl_Field:Frz ZlZ ZlZ:=Z3 (Zp (Zk _) (Zp (Zk _) (Zah _)))
def ZIL:El ZW:=El.iso (El.pair Zuj (El.ow oL)) (fun x=>(x.Field,x.Rows)) (ZW.mk (Ze.mk (0:Int) (0:Int) ([]:List Int)) ([]:List (List Int))) rfl
def Znl:El ZW:=El.iso (El.pair ZlZ (El.sl eL)) (fun x=>(x.Field,x.Rows)) (ZW.mk (Ze.mk (0:Int) (0:Int) ([]:List Int)) ([]:List (List Int))) rfl
theorem frzo_T_impl_Code:Frz ZIL Znl:=Z3 (Zp frzo_T_impl_Field (ZL (ZL (Zk _))))
theorem frzf_T_impl_Code:Frz Znl Znl:=Z3 (Zp frzf_T_impl_Field (Zah _))
def ZvU:El Zb:=El.iso (El.pair eI eI) (fun x=>(x.A,x.B)) (Zb.mk (0:Int) (0:Int)) rfl
def Zg:El Zb:=El.iso (El.pair eI eI) (fun x=>(x.A,x.B)) (Zb.mk (0:Int) (0:Int)) rfl
theorem frzo_T_impl_Edge:Frz ZvU Zg:=Z3 (Zp (Zk _) (Zk _))
theorem frzf_T_impl_Edge:Frz Zg Zg:=Z3 (Zp (Zk _) (Zk _))
theorem Zn2:Plain Zg:=Zy7 (ZEc (Zbi _) (Zbi _))
theorem Zau {e:CM} {L:Rws} {cs:List Value} {x:Zb} (h:Zg.R e L cs x):cs=[.int .i64 x.A,.int .i64 x.B]:=by
  obtain ⟨_,_,_,_,rfl,_,a,c⟩:=h;obtain ⟨_,rfl⟩:=a;obtain ⟨_,rfl⟩:=c;rfl
def Zgc:El Za:=El.iso (El.pair oL (El.ow ZvU)) (fun x=>(x.Colors,x.Edges)) (Za.mk ([]:List Int) ([]:List Zb)) rfl
def ZdH:El Za:=El.iso (El.pair eL (El.sl Zg)) (fun x=>(x.Colors,x.Edges)) (Za.mk ([]:List Int) ([]:List Zb)) rfl
theorem frzo_T_impl_Graph:Frz Zgc ZdH:=Z3 (Zp (ZL (Zk _)) (ZL frzo_T_impl_Edge))
theorem frzf_T_impl_Graph:Frz ZdH ZdH:=Z3 (Zp (Zah _) (Zah _))
def ZzM:El Zaw:=El.iso (El.pair eI (El.ow oL)) (fun x=>(x.Degree,x.Elements)) (Zaw.mk (0:Int) ([]:List (List Int))) rfl
def Zng:El Zaw:=El.iso (El.pair eI (El.sl eL)) (fun x=>(x.Degree,x.Elements)) (Zaw.mk (0:Int) ([]:List (List Int))) rfl
theorem frzo_T_impl_Group:Frz ZzM Zng:=Z3 (Zp (Zk _) (ZL (ZL (Zk _))))
theorem frzf_T_impl_Group:Frz Zng Zng:=Z3 (Zp (Zk _) (Zah _))
def Zay:El Zd:=El.iso (El.pair El.str (El.pair Zt9 El.str)) (fun x=>(x.Name,x.Object,x.Key)) (Zd.mk (⟨#[]⟩:ByteArray) (Zf.mk (0:Int) (0:Int) ([]:List (List Int))) (⟨#[]⟩:ByteArray)) rfl
def Z2:El Zd:=El.iso (El.pair El.str (El.pair ZjX El.str)) (fun x=>(x.Name,x.Object,x.Key)) (Zd.mk (⟨#[]⟩:ByteArray) (Zf.mk (0:Int) (0:Int) ([]:List (List Int))) (⟨#[]⟩:ByteArray)) rfl
theorem frzo_T_impl_Item:Frz Zay Z2:=Z3 (Zp Zfl (Zp frzo_T_impl_Object Zfl))
theorem frzf_T_impl_Item:Frz Z2 Z2:=Z3 (Zp Zfl (Zp frzf_T_impl_Object Zfl))
theorem pko_T_impl_Item {ψ:CM} {a h:Heap} {os:List Ob} {x0:ByteArray} {x1 x2:Int} {c:List (List Int)} {e:Value} {x4:ByteArray} (T:S ψ a h (.it (El.ow oL) [e] c::os)):S ψ a h (.it Zay [.string x0,.int .i64 x1,.int .i64 x2,e,.string x4] (Zd.mk x0 (Zf.mk x1 x2 c) x4)::os):=by
  obtain ⟨k,l,s,g,j,rfl,f,r⟩:=T;exact ⟨k,_,s,([]++(([]++([]++g))++[])),j,by simp,(ZcM ZjL (ZcM (ZcM Zmk (ZcM Zmk f)) ZjL)),r⟩
theorem pkf_T_impl_Item {ψ:CM} {a h:Heap} {os:List Ob} {x0:ByteArray} {x1 x2:Int} {c:List (List Int)} {e:Value} {x4:ByteArray} (T:S ψ a h (.it (El.sl eL) [e] c::os)):S ψ a h (.it Z2 [.string x0,.int .i64 x1,.int .i64 x2,e,.string x4] (Zd.mk x0 (Zf.mk x1 x2 c) x4)::os):=by
  obtain ⟨k,l,s,g,j,rfl,f,r⟩:=T;exact ⟨k,_,s,([]++(([]++([]++g))++[])),j,by simp,(ZcM ZjL (ZcM (ZcM Zmk (ZcM Zmk f)) ZjL)),r⟩
theorem ZaL {u:CM} {L:Rws} {cs:List Value} {x:Zd} (h:Z2.R u L cs x):∃ l:Value,cs=[.string x.Name,.int .i64 x.Object.Kind,.int .i64 x.Object.Size,l,.string x.Key]/\SlC u eL l x.Object.Rows:=by
  obtain ⟨_,_,_,_,rfl,_,a,c⟩:=h;obtain ⟨_,rfl⟩:=a;obtain ⟨_,_,_,_,rfl,_,e,f⟩:=c;obtain ⟨_,_,_,_,rfl,_,g,i⟩:=e;obtain ⟨_,rfl⟩:=g;obtain ⟨_,_,_,_,rfl,_,j,k⟩:=i;obtain ⟨_,rfl⟩:=j;obtain ⟨_,o,rfl,r⟩:=k;obtain ⟨_,rfl⟩:=f;exact ⟨o,rfl,r⟩
def ZJZ:El ZA:=El.iso (El.pair Zgc (El.pair (El.ow oL) (El.pair Zgc (El.pair (El.ow oL) (El.pair eI (El.pair eI (El.pair eI El.bool))))))) (fun x=>(x.qg,x.qnear,x.qbest,x.qperms,x.qnodes,x.qleaves,x.qbudget,x.qfull)) (ZA.mk (Za.mk ([]:List Int) ([]:List Zb)) ([]:List (List Int)) (Za.mk ([]:List Int) ([]:List Zb)) ([]:List (List Int)) (0:Int) (0:Int) (0:Int) false) rfl
def Zor:El ZA:=El.iso (El.pair ZdH (El.pair (El.sl eL) (El.pair ZdH (El.pair (El.sl eL) (El.pair eI (El.pair eI (El.pair eI El.bool))))))) (fun x=>(x.qg,x.qnear,x.qbest,x.qperms,x.qnodes,x.qleaves,x.qbudget,x.qfull)) (ZA.mk (Za.mk ([]:List Int) ([]:List Zb)) ([]:List (List Int)) (Za.mk ([]:List Int) ([]:List Zb)) ([]:List (List Int)) (0:Int) (0:Int) (0:Int) false) rfl
theorem frzo_T_spec_l22Find:Frz ZJZ Zor:=Z3 (Zp frzo_T_impl_Graph (Zp (ZL (ZL (Zk _))) (Zp frzo_T_impl_Graph (Zp (ZL (ZL (Zk _))) (Zp (Zk _) (Zp (Zk _) (Zp (Zk _) Zb3)))))))
theorem frzf_T_spec_l22Find:Frz Zor Zor:=Z3 (Zp frzf_T_impl_Graph (Zp (Zah _) (Zp frzf_T_impl_Graph (Zp (Zah _) (Zp (Zk _) (Zp (Zk _) (Zp (Zk _) Zb3)))))))
def Zze:El Zm:=El.iso (El.ow Zay) (fun x=>(x.Items)) (Zm.mk ([]:List Zd)) rfl
def ZpH:El Zm:=El.iso (El.sl Z2) (fun x=>(x.Items)) (Zm.mk ([]:List Zd)) rfl
theorem frzo_T_impl_Catalog:Frz Zze ZpH:=Z3 (ZL frzo_T_impl_Item)
theorem frzf_T_impl_Catalog:Frz ZpH ZpH:=Z3 (Zah _)
def ZxA:El Z1:=El.iso (El.pair eI (El.pair (El.ow oL) (El.pair (El.ow oL) (El.pair (El.ow oL) oL)))) (fun x=>(x.qq,x.qadd,x.qsub,x.qmul,x.qinv)) (Z1.mk (0:Int) ([]:List (List Int)) ([]:List (List Int)) ([]:List (List Int)) ([]:List Int)) rfl
def ZnD:El Z1:=El.iso (El.pair eI (El.pair (El.sl eL) (El.pair (El.sl eL) (El.pair (El.sl eL) eL)))) (fun x=>(x.qq,x.qadd,x.qsub,x.qmul,x.qinv)) (Z1.mk (0:Int) ([]:List (List Int)) ([]:List (List Int)) ([]:List (List Int)) ([]:List Int)) rfl
theorem frzo_T_impl_arithmetic:Frz ZxA ZnD:=Z3 (Zp (Zk _) (Zp (ZL (ZL (Zk _))) (Zp (ZL (ZL (Zk _))) (Zp (ZL (ZL (Zk _))) (ZL (Zk _))))))
theorem frzf_T_impl_arithmetic:Frz ZnD ZnD:=Z3 (Zp (Zk _) (Zp (Zah _) (Zp (Zah _) (Zp (Zah _) (Zah _)))))
def Zus:El Zac:=El.iso (El.pair eI El.bool) (fun x=>(x.qleft,x.qspent)) (Zac.mk (0:Int) false) rfl
def Zj3:El Zac:=El.iso (El.pair eI El.bool) (fun x=>(x.qleft,x.qspent)) (Zac.mk (0:Int) false) rfl
theorem frzo_T_impl_counter:Frz Zus Zj3:=Z3 (Zp (Zk _) Zb3)
theorem frzf_T_impl_counter:Frz Zj3 Zj3:=Z3 (Zp (Zk _) Zb3)
def ZHN:El Zt:=El.iso (El.pair Zus (El.pair Zgc (El.pair (El.ow oL) (El.pair eI (El.pair eI (El.pair Zgc (El.ow oL))))))) (fun x=>(x.qcounter,x.qgraph,x.qlists,x.qnodes,x.qleaves,x.qform,x.qbest)) (Zt.mk (Zac.mk (0:Int) false) (Za.mk ([]:List Int) ([]:List Zb)) ([]:List (List Int)) (0:Int) (0:Int) (Za.mk ([]:List Int) ([]:List Zb)) ([]:List (List Int))) rfl
def ZoL:El Zt:=El.iso (El.pair Zj3 (El.pair ZdH (El.pair (El.sl eL) (El.pair eI (El.pair eI (El.pair ZdH (El.sl eL))))))) (fun x=>(x.qcounter,x.qgraph,x.qlists,x.qnodes,x.qleaves,x.qform,x.qbest)) (Zt.mk (Zac.mk (0:Int) false) (Za.mk ([]:List Int) ([]:List Zb)) ([]:List (List Int)) (0:Int) (0:Int) (Za.mk ([]:List Int) ([]:List Zb)) ([]:List (List Int))) rfl
theorem frzo_T_impl_explorer:Frz ZHN ZoL:=Z3 (Zp frzo_T_impl_counter (Zp frzo_T_impl_Graph (Zp (ZL (ZL (Zk _))) (Zp (Zk _) (Zp (Zk _) (Zp frzo_T_impl_Graph (ZL (ZL (Zk _)))))))))
theorem frzf_T_impl_explorer:Frz ZoL ZoL:=Z3 (Zp frzf_T_impl_counter (Zp frzf_T_impl_Graph (Zp (Zah _) (Zp (Zk _) (Zp (Zk _) (Zp frzf_T_impl_Graph (Zah _)))))))
theorem zS {ψ:CM} {f:FuncId} {fn:Func} {g:List Value} {h:Heap} {R:Value->Heap->Prop} (hψ:CLe ψ (hcell h)) (A:Ann) (j:P.funcs[f]?=some fn) (a:S ψ h h []->vcFn ctx A fn g h R)
    (e:((match fn.body with|some c=>aOk ctx A c&&cOk fn.ntmps c|none=>false)&&Nat.ble g.length fn.ntmps)=true:=by kernel_rfl):CallsH P f g.toArray h R:=zv A j (a (sZ hψ)) e
theorem zU {ψ:CM} {f:FuncId} {fn:Func} {g:List Value} {h:Heap} {R:Value->Heap->Prop} (l c:List (List Nat)) (j:P.funcs[f]?=some fn) (a:S ψ h h []->vcFn ctx ⟨an l,an c,[],[]⟩ fn g h R) (hψ:CLe ψ (hcell h):=by exact hψ)
    (e:((match fn.body with|some k=>aOk ctx ⟨an l,an c,[],[]⟩ k&&cOk fn.ntmps k|none=>false)&&Nat.ble g.length fn.ntmps)=true:=by kernel_rfl):CallsH P f g.toArray h R:=zv _ j (a (sZ hψ)) e
theorem zT {ψ:CM} {f:FuncId} {fn:Func} {e:List Value} {h:Heap} {R:Value->Heap->Prop} (l:List (List Nat)) (g:P.funcs[f]?=some fn) (a:S ψ h h []->vcFn ctx ⟨an l,[],[],[]⟩ fn e h R) (hψ:CLe ψ (hcell h):=by exact hψ)
    (c:((match fn.body with|some k=>aOk ctx ⟨an l,[],[],[]⟩ k&&cOk fn.ntmps k|none=>false)&&Nat.ble e.length fn.ntmps)=true:=by kernel_rfl):CallsH P f e.toArray h R:=zv _ g (a (sZ hψ)) c
theorem zO {ψ:CM} {f:FuncId} {fn:Func} {e:List Value} {h:Heap} {R:Value->Heap->Prop} (g:P.funcs[f]?=some fn) (a:S ψ h h []->vcFn ctx annO fn e h R) (hψ:CLe ψ (hcell h):=by exact hψ)
    (c:((match fn.body with|some k=>aOk ctx annO k&&cOk fn.ntmps k|none=>false)&&Nat.ble e.length fn.ntmps)=true:=by kernel_rfl):CallsH P f e.toArray h R:=zv _ g (a (sZ hψ)) c
theorem frzA {e:Type} {E a:El e} (h:Frz E a:=by first|exact Zk _|exact Zb3|exact Zfl|exact Zah _|exact ZL frzA|exact frzo_T_impl_Design|exact frzf_T_impl_Design|exact frzo_T_impl_Object|exact frzf_T_impl_Object|exact frzo_T_impl_Array|exact frzf_T_impl_Array|exact frzo_T_impl_Field|exact frzf_T_impl_Field|exact frzo_T_impl_Code|exact frzf_T_impl_Code|exact frzo_T_impl_Edge|exact frzf_T_impl_Edge|exact frzo_T_impl_Graph|exact frzf_T_impl_Graph|exact frzo_T_impl_Group|exact frzf_T_impl_Group|exact frzo_T_impl_Item|exact frzf_T_impl_Item|exact frzo_T_spec_l22Find|exact frzf_T_spec_l22Find|exact frzo_T_impl_Catalog|exact frzf_T_impl_Catalog|exact frzo_T_impl_arithmetic|exact frzf_T_impl_arithmetic|exact frzo_T_impl_counter|exact frzf_T_impl_counter|exact frzo_T_impl_explorer|exact frzf_T_impl_explorer|fail):Frz E a:=h
abbrev zR (f:FuncId) (a:Array Value) (h:Heap) (ψ:CM) (u:Value):Prop:=CallsH P f a h fun v h'=>v=u/\S ψ h h' []
abbrev zL {α:Type} (f:FuncId) (a:Array Value) (h:Heap) (ψ:CM) (E:El α) (r:List α):Prop:=CallsH P f a h fun v h'=>∃ w0:Value,v=w0/\S ψ h h' [.it (El.ow E) [w0] r]
set_option maxHeartbeats 4000000
attribute [local irreducible] CallsQ vLen vIdx IntKind.wrap hcell vNew vNewS vSliceS vStore1 vAppend vMake vCopy vB2S vS2B vNilS vSliceStr
section
variable {ψ:CM} {h:Heap} (hψ:CLe ψ (hcell h))
include hψ
theorem Zak {n0 c a r} (U:ZI n0 c a=some r)  :zR 9 #[.int .i64 n0,.int .i64 c,.int .i64 a] h ψ (.bool r):=by
 refine zO Tryz.func9 fun T=>?_;exact brQ U (fun U=>tZ) fun U=>tZ
theorem Zf4 {g f r} (U:ZaP g f=some r)  :zL 23 #[.string g,.int .u8 f] h ψ El.str r:=by
 refine zT [[4,31,36,42]] Tryz.func23 fun T=>?_;refine neA El.str fun v8 k T=>?_;refine lw31 U (fun i e j c=>([.it (El.ow El.str) [i] c],c,e,j)) fun i e j l c a T U W=>?_;apply brQ U<;>intro U
 ·refine stI U fun o U=>?_;apply brQ U<;>intro U
  ·refine ssA U fun s U=>?_;refine puA U 0 fun u v w T U=>?_;exact endL
  ·exact endL
 ·refine ssB U fun x U=>?_;refine puA U 0 fun y a0 a1 T U=>?_;exact endX
theorem ZdX {n0 r} (U:Zce n0=some r)  :zR 25 #[.int .i64 n0] h ψ (.string r):=by
 refine zU [[3,19,24]] [[8,30]] Tryz.func25 fun T=>?_;refine neA (El.int .u8) fun v6 o T=>?_;refine lw21 U (fun g i c=>([.it (El.ow (El.int .u8)) [g] c],c,i)) fun g i s c a T U W=>?_;apply brQ U<;>intro U
 ·refine gzA U fun U=>?_;refine ⟨fun e f=>S ψ h f [.it (El.ow (El.int .u8)) [g] c]/\ZhC c i e=some a,?_,?_⟩
  ·apply brQ U<;>intro U
   ·exact endC
   ·exact endC
  ·rintro _ e f ⟨T,U⟩;refine ZaJ (E:=(El.int .u8)) (css:=[[.int .u8 (IntKind.u8.wrap (ε.wrap (48+e)))]]) (xs:=([IntKind.u8.wrap (ε.wrap (48+e))]:List Int)) T (fun _=>⟨[],[],rfl,⟨rfl,rfl⟩,rfl⟩) rfl rfl fun u v T=>?_;obtain ⟨w,j,U⟩:=obind U;refine app_S T 0 rfl (ZbT (Zbi _) slA) rfl rfl j fun x y T=>?_;dsimp at T;refine gzA U fun U=>?_;exact endL
 ·refine Zi slA ?_;refine brZ fun U=>?_;apply brQ U<;>intro U
  ·obtain ⟨a0,k,U⟩:=obind U;refine b2s_S slA k ?_;refine gfA U fun U=>?_;exact tZ
  ·obtain ⟨a1,l,U⟩:=obind U;refine b2s_S slA l ?_;exact tZ
theorem Zu3 {a r} (U:ZaO a=some r)  :zR 54 #[.int .u8 a] h ψ (.bool r):=by
 refine zO Tryz.func54 fun T=>?_;exact brQ U (fun U=>tZ) fun U=>tZ
theorem Zqf {c r} (U:ZfJ c=some r)  :zR 24 #[.string c] h ψ (.tuple #[.int .i64 r.1,.bool r.2]):=by
 refine zU [[8,30,36]] [[4,26],[6],[15,30]] Tryz.func24 fun T=>?_;refine ⟨fun j f=>S ψ h f []/\Zed c j=some r,?_,?_⟩
 ·refine brY fun U=>?_;refine stI U fun l U=>?_;refine brY fun U=>?_;refine ssB U fun o U=>?_;exact tZ
 ·rintro _ j f ⟨T,U⟩;refine ⟨fun g=>S ψ h g []/\Zjj c j=some r,?_,?_⟩
  ·refine brZ fun U=>?_;exact brQ U (fun U=>tZ) fun U=>tZ
  ·rintro _ g ⟨T,U⟩;refine lp2 U (nlS T) fun m n5 i6 u a T U W=>?_;apply brQ U<;>intro U
   ·refine stI U fun v U=>?_;refine cm0 U T (fun s k=>Zu3 s k) fun w x T U=>⟨_,rfl,?_⟩;refine brZ fun U=>?_;refine stI U fun y U=>?_;exact tZ
   ·refine ⟨fun e i=>S ψ h i []/\ZiK c e=some a,?_,?_⟩
    ·exact brQ U (fun U=>tZ) fun U=>tZ
    ·rintro _ e i ⟨T,U⟩;refine cm0 U T (fun s k=>ZdX s k) fun a0 a1 T U=>⟨_,rfl,?_⟩;exact brQ U (fun U=>tZ) fun U=>tZ
theorem ZIo {o r} (U:ZcV o=some r)  :CallsH P 10 #[.string o] h (fun v h'=>∃ w0,v=.tuple #[w0,.int .i64 r.2]/\S ψ h h' [.it (El.ow El.str) [w0] r.1]):=by
 refine zU [] [[5],[8],[11]] Tryz.func10 fun T=>?_;refine cm1 U T (fun s c=>Zf4 s c) fun a e w T U=>⟨_,rfl,?_⟩;refine Zi slA ?_;refine ⟨fun g=>S ψ h g [.it (El.ow El.str) [e] a]/\ZhG a=some r,?_,?_⟩
 ·apply brQ U<;>intro U
  ·exact endX
  ·refine ixS slA U fun x U=>?_;apply brQ U<;>intro U
   ·exact endX
   ·exact endC
 ·rintro _ g ⟨T,U⟩;refine ixS slA U fun y U=>?_;refine cm1 U T (fun s c=>Zf4 s c) fun f i a0 T U=>⟨_,rfl,?_⟩;refine ⟨fun j=>S ψ h j [.it (El.ow El.str) [i] f,.it (El.ow El.str) [e] a]/\ZmK a f=some r,?_,?_⟩
  ·refine Zi slA ?_;apply brQ U<;>intro U
   ·exact endX
   ·refine ixS slA U fun a1 U=>?_;apply brQ U<;>intro U
    ·exact endX
    ·exact endC
  ·rintro _ j ⟨T,U⟩;refine ixS slA U fun a2 U=>?_;refine cm0 U T (fun s c=>Zqf s c) fun u a3 T U=>⟨_,_,rfl,?_⟩;refine ⟨fun k=>S ψ h k [.it (El.ow El.str) [i] f,.it (El.ow El.str) [e] a]/\Zjn a u=some r,?_,?_⟩
   ·apply brQ U<;>intro U
    ·exact endX
    ·refine cm0 U T (fun s c=>Zak s c) fun a4 a5 T U=>⟨_,rfl,?_⟩;apply brQ U<;>intro U
     ·exact endX
     ·exact endC
   ·rintro _ k ⟨T,U⟩;apply brQ U<;>intro U
    ·exact endX
    ·apply brQ U<;>intro U
     ·exact endX
     ·obtain ⟨a6,l,U⟩:=obind U;refine cut_S (some 1) (some (ε.wrap ((a.length:Int)-1))) T 1 rfl l rfl fun a7 T=>?_;dsimp at T;exact endS
theorem ZxL {f x1 r} (U:ZjS f x1=some r)  :zR 26 #[.string f,.int .i64 x1] h ψ (.int .i64 r):=by
 refine zT [[2,6,30],[6,6,36]] Tryz.func26 fun T=>?_;refine lp2 U (nlS T) fun m g i5 j a T U W=>?_;refine brY fun U=>?_;refine stI U fun k U=>?_;obtain ⟨_,c,U⟩:=obind U;refine ⟨Zia c,?_⟩;refine lp2 U (nlS T) fun l i k6 o s T U W=>?_;apply brQ U<;>intro U
 ·obtain ⟨_,e,U⟩:=obind U;refine ⟨Zia e,?_⟩;apply brQ U<;>intro U
  ·exact endX
  ·exact endX
 ·exact endX
theorem ZJO {c r} (U:Zc0 c=some r)  :zR 11 #[.string c] h ψ (.tuple #[.string r.1,.bool r.2]):=by
 refine zS hψ ⟨an [[2,24]],an [[4,24]],[],[(6,⟨[],.fin (rgs [(7,5),(0,7),(12,3)]),false⟩)]⟩ Tryz.func11 fun T=>?_;refine ⟨fun e f=>S ψ h f []/\Zcn c e=some r,?_,?_⟩
 ·refine lp1 U (nlS T) fun m j l a T U W=>?_;apply brQ U<;>intro U
  ·refine stI U fun o U=>?_;refine brZ fun U=>?_;obtain ⟨k,g,rfl⟩:=omap U;obtain rfl:=oI W;exact ⟨nlS T,g⟩
  ·obtain ⟨k,g,rfl⟩:=omap U;obtain rfl:=oI W;exact ⟨nlS T,g⟩
 ·rintro _ e f ⟨T,U⟩;refine brZ fun U=>?_;refine ssC U fun u U=>?_;refine cm0 U T (fun s i=>ZxL s i) fun v w T U=>⟨_,rfl,?_⟩;refine cm0 U T (fun s i=>ZdX s i) fun x y T U=>⟨_,rfl,?_⟩;refine ssC U fun a0 U=>?_;refine ssB U fun a1 U=>?_;exact tZ
theorem Zue {a r} (U:Za7 a=some r)  :zR 55 #[.int .u8 a] h ψ (.bool r):=by
 refine zO Tryz.func55 fun T=>?_;exact brQ U (fun U=>tZ) fun U=>tZ
theorem ZHo {f r} (U:Zku f=some r)  :zR 27 #[.string f] h ψ (.bool r):=by
 refine zU [[4,18]] [[3]] Tryz.func27 fun T=>?_;refine ⟨fun e=>S ψ h e []/\Znt f=some r,?_,?_⟩
 ·refine brZ fun U=>?_;refine brZ fun U=>?_;refine stI U fun g U=>?_;refine cm0 U T (fun s c=>Zue s c) fun i j T U=>⟨_,rfl,?_⟩;exact brQ U (fun U=>tZ) fun U=>tZ
 ·rintro _ e ⟨T,U⟩;refine lp1 U (nlS T) fun m y k a T U W=>?_;refine brY fun U=>?_;refine stI U fun l U=>?_;refine cm0 U T (fun s c=>Zue s c) fun o u T U=>⟨_,rfl,?_⟩;refine brY fun U=>?_;refine stI U fun v U=>?_;refine cm0 U T (fun s c=>Zu3 s c) fun w x T U=>⟨_,rfl,?_⟩;exact brQ U (fun U=>tZ) fun U=>tZ
theorem Zwv  {r} (U:Zep=some r)  :zL 80 #[] h ψ El.str r:=by
 refine zO Tryz.func80 fun T=>?_;refine ZaJ (E:=El.str) (css:=[[.string ⟨#[]⟩],[.string ⟨#[115,113,117,97,114,101]⟩],[.string ⟨#[100,101,115,105,103,110]⟩],[.string ⟨#[104,97,100,97,109,97,114,100]⟩],[.string ⟨#[97,114,114,97,121]⟩],[.string ⟨#[99,111,100,101]⟩],[.string ⟨#[103,114,97,112,104]⟩],[.string ⟨#[103,114,111,117,112]⟩]]) (xs:=([⟨#[]⟩,⟨#[115,113,117,97,114,101]⟩,⟨#[100,101,115,105,103,110]⟩,⟨#[104,97,100,97,109,97,114,100]⟩,⟨#[97,114,114,97,121]⟩,⟨#[99,111,100,101]⟩,⟨#[103,114,97,112,104]⟩,⟨#[103,114,111,117,112]⟩]:List ByteArray)) T (fun _=>⟨[],[],rfl,⟨rfl,rfl⟩,⟨[],[],rfl,⟨rfl,rfl⟩,⟨[],[],rfl,⟨rfl,rfl⟩,⟨[],[],rfl,⟨rfl,rfl⟩,⟨[],[],rfl,⟨rfl,rfl⟩,⟨[],[],rfl,⟨rfl,rfl⟩,⟨[],[],rfl,⟨rfl,rfl⟩,⟨[],[],rfl,⟨rfl,rfl⟩,rfl⟩⟩⟩⟩⟩⟩⟩⟩) rfl rfl fun v1 a T=>?_;exact endS
theorem ZxP {c r} (U:ZkM c=some r)  :zR 56 #[.string c] h ψ (.tuple #[.int .i64 r.1,.bool r.2]):=by
 refine zT [[3,30]] Tryz.func56 fun T=>?_;refine cm1 U T (fun s e=>Zwv s e) fun f g i T U=>⟨_,rfl,?_⟩;refine lp1 (os:=[.it (El.ow El.str) [g] f]) U (pk T [0]) fun m i5 j a T U W=>?_;refine Zi slA ?_;refine brY fun U=>?_;refine ixS slA U fun k U=>?_;refine brZ fun U=>?_;exact endL
theorem ZA2 {l r} (U:Zkg l=some r)  :CallsH P 57 #[.string l] h (fun v h'=>∃ w0,v=.tuple #[w0,.bool r.2]/\S ψ h h' [.it oL [w0] r.1]):=by
 refine zU [[8,31,36]] [[13]] Tryz.func57 fun T=>?_;apply brQ U<;>intro U
 ·refine neA eI fun u w T=>?_;exact endS
 ·refine cm1 U T (fun s e=>Zf4 s e) fun f g x T U=>⟨_,rfl,?_⟩;refine Zi slA ?_;apply brQ U<;>intro U
  ·exact endX
  ·refine neA eI fun y a0 T=>?_;refine lw21 U (fun j k c=>([.it oL [j] c,.it (El.ow El.str) [g] f],c,k)) fun j k a1 c a T U W=>?_;refine Zi slA ?_;apply brQ U<;>intro U
   ·refine ixS slA U fun a2 U=>?_;refine cm0 U T (fun s e=>Zqf s e) fun o a3 T U=>⟨_,_,rfl,?_⟩;refine ⟨fun i=>S ψ h i [.it oL [j] c,.it (El.ow El.str) [g] f]/\Zo5 c k o=some a,?_,?_⟩
    ·apply brQ U<;>intro U
     ·exact endX
     ·refine cm0 U T (fun s e=>Zak s e) fun a4 a5 T U=>⟨_,rfl,?_⟩;apply brQ U<;>intro U
      ·exact endX
      ·exact endC
    ·rintro _ i ⟨T,U⟩;refine puA U 0 fun a6 a7 a8 T U=>?_;exact endL
   ·exact endX
theorem Ztg {c v0 n1 r} (U:Zhj c n1=some r) (e:sc h eI v0 c):zR 144 #[v0,.int .i64 n1] h ψ (.bool r):=by
 refine zT [[2,30]] Tryz.func144 fun T=>?_;refine lp1 U (nlS T) fun m i5 f a T U W=>?_;refine vL e T.le ?_;refine brY fun U=>?_;refine ixI slA U fun g U=>?_;exact brQ U (fun U=>tZ) fun U=>tZ
theorem ZqR {i v0 r} (U:ZeR i=some r) (c:sc h eI v0 i):zR 129 #[v0] h ψ (.bool r):=by
 refine zT [[4,18]] Tryz.func129 fun T=>?_;refine vL c T.le ?_;refine brZ fun U=>?_;refine lp1 U (nlS T) fun m j k a T U W=>?_;refine vL c T.le ?_;refine brY fun U=>?_;refine ixI slA U fun l U=>?_;refine vL c T.le ?_;refine cm0 U T (fun s e=>Zak s e) fun o u T U=>⟨_,rfl,?_⟩;refine brZ fun U=>?_;obtain ⟨v,g,U⟩:=obind U;refine ZgU none (some j) c g rfl fun w f=>?_;refine ixI slA U fun x U=>?_;refine cm0 U T (fun s e=>Ztg s e slA) fun y a0 T U=>⟨_,rfl,?_⟩;exact brQ U (fun U=>tZ) fun U=>tZ
theorem Zv4 {i v0 r} (U:Zhs i=some r) (e:sc h eL v0 i):zR 81 #[v0] h ψ (.bool r):=by
 refine zU [[5,24],[10,30],[14,37,42]] [[4]] Tryz.func81 fun T=>?_;refine vL e T.le ?_;refine ⟨fun g=>S ψ h g []/\ZoS i=some r,?_,?_⟩
 ·refine brZ fun U=>?_;exact brQ U (fun U=>tZ) fun U=>tZ
 ·rintro _ g ⟨T,U⟩;refine lp1 U (nlS T) fun m x4 o a T U W=>?_;apply brQ U<;>intro U
  ·refine ixV e T.le U fun u v f U=>?_;refine vL f T.le ?_;refine brZ fun U=>?_;refine ixV e T.le U fun w x y U=>?_;refine cm0 U T (fun s j=>ZqR s j slA) fun a1 a2 T U=>⟨_,rfl,?_⟩;exact brQ U (fun U=>tZ) fun U=>tZ
  ·refine lp1 U (nlS T) fun a3 y5 a4 a5 T U W=>?_;apply brQ U<;>intro U
   ·refine neA eI fun a6 a7 T=>?_;refine lw21 U (fun k l c=>([.it oL [k] c],c,l)) fun k l a8 c a9 T U W=>?_;apply brQ U<;>intro U
    ·refine ixV e T.le U fun aa ab ac U=>?_;refine ixI slA U fun ad U=>?_;refine puA U 0 fun ae af ag T U=>?_;exact endL
    ·refine cm0 U T (fun s j=>ZqR s j slA) fun ah ai T U=>⟨_,rfl,?_⟩;apply brQ U<;>intro U
     ·exact endX
     ·exact endX
   ·exact endX
theorem ZDw {c v0 f e r} (U:Zlz c f e=some r) (g:sc h eI v0 c):zR 197 #[v0,.int .i64 f,.int .i64 e] h ψ (.bool r):=by
 refine zT [[2,42]] Tryz.func197 fun T=>?_;refine lp1 U (nlS T) fun m w j a T U W=>?_;refine vL g T.le ?_;refine brY fun U=>?_;refine ixI slA U fun k U=>?_;refine cm0 U T (fun s i=>Zak s i) fun l o T U=>⟨_,rfl,?_⟩;refine brZ fun U=>?_;refine brY fun U=>?_;refine ixI slA U fun u U=>?_;refine ixI slA U fun v U=>?_;exact brQ U (fun U=>tZ) fun U=>tZ
theorem ZHd {a v0 points1 r} (U:Zl7 a points1=some r) (c:sc h eI v0 a):zR 130 #[v0,.int .i64 points1] h ψ (.bool r):=by
 refine zO Tryz.func130 fun T=>?_;refine vL c T.le ?_;refine brY fun U=>?_;refine cm0 U T (fun s e=>ZDw s e slA) fun f g T U=>⟨_,rfl,?_⟩;exact tZ
theorem ZdW {c v0 e v1 r} (U:Zbw c e=some r) (i:sc h eI v0 c) (j:sc h eI v1 e):zR 131 #[v0,v1] h ψ (.int .i64 r):=by
 refine zU [[2,30]] [[4],[8]] Tryz.func131 fun T=>?_;refine ⟨fun f=>S ψ h f []/\Zeu c e=some r,?_,?_⟩
 ·refine lp1 U (nlS T) fun m i5 o a T U W=>?_;refine ⟨fun g=>S ψ h g []/\ZiC c e i5=some a,?_,?_⟩
  ·refine vL i T.le ?_;apply brQ U<;>intro U
   ·refine vL j T.le ?_;refine brZ fun U=>?_;obtain ⟨l,k,rfl⟩:=omap U;obtain rfl:=oI W;exact ⟨nlS T,k⟩
   ·obtain ⟨l,k,rfl⟩:=omap U;obtain rfl:=oI W;exact ⟨nlS T,k⟩
  ·rintro _ g ⟨T,U⟩;refine ixI slA U fun s U=>?_;refine ixI slA U fun u U=>?_;refine brZ fun U=>?_;refine ixI slA U fun v U=>?_;refine ixI slA U fun w U=>?_;exact brQ U (fun U=>tZ) fun U=>tZ
 ·rintro _ f ⟨T,U⟩;refine vL i T.le ?_;refine vL j T.le ?_;refine brZ fun U=>?_;refine vL i T.le ?_;refine vL j T.le ?_;exact brQ U (fun U=>tZ) fun U=>tZ
theorem ZI6 {j l g r} (U:Zl4 j=some r) (c:CellsC (hcell h) l [.int .i64 j.Points,g]) (e:sc h eL g j.Blocks):zR 82 #[.pointer (some l)] h ψ (.bool r):=by
 refine zU [[4,18]] [[3]] Tryz.func82 fun T=>?_;refine ⟨fun k=>S ψ h k []/\Zni j=some r,?_,?_⟩
 ·refine kI c T.le 0 ?_;refine cm0 U T (fun s i=>Zak s i) fun r8 o T U=>⟨_,rfl,?_⟩;refine brZ fun U=>?_;refine kV c T.le 1 ?_;refine vL e T.le ?_;exact brQ U (fun U=>tZ) fun U=>tZ
 ·rintro _ k ⟨T,U⟩;refine lp1 U (nlS T) fun m i3 u a T U W=>?_;refine kV c T.le 1 ?_;refine vL e T.le ?_;refine brY fun U=>?_;refine kV c T.le 1 ?_;refine ixV e T.le U fun v w f U=>?_;refine kI c T.le 0 ?_;refine cm0 U T (fun s i=>ZHd s i slA) fun x y T U=>⟨_,rfl,?_⟩;refine brZ fun U=>?_;refine brY fun U=>?_;refine kV c T.le 1 ?_;refine ixV e T.le U fun a0 a1 a2 U=>?_;refine kV c T.le 1 ?_;refine ixV e T.le U fun a3 a4 a5 U=>?_;refine cm0 U T (fun s i=>ZdW s i slA slA) fun a6 a7 T U=>⟨_,rfl,?_⟩;exact brQ U (fun U=>tZ) fun U=>tZ
theorem ZIn {c v0 e v1 r} (U:Zgv c e=some r) (f:sc h eI v0 c) (l:sc h eI v1 e):zR 132 #[v0,v1] h ψ (.int .i64 r):=by
 refine zT [[3,30,36]] Tryz.func132 fun T=>?_;refine lp2 U (nlS T) fun m g o i a T U W=>?_;refine vL f T.le ?_;refine brY fun U=>?_;refine ixI slA U fun j U=>?_;refine ixI slA U fun k U=>?_;exact tZ
theorem ZCm {g v0 r} (U:Zje g=some r) (c:sc h eL v0 g):zR 83 #[v0] h ψ (.bool r):=by
 refine zU [[5,24],[10,30],[15,36],[18,42]] [[4]] Tryz.func83 fun T=>?_;refine vL c T.le ?_;refine ⟨fun e=>S ψ h e []/\ZpQ g=some r,?_,?_⟩
 ·refine brZ fun U=>?_;exact brQ U (fun U=>tZ) fun U=>tZ
 ·rintro _ e ⟨T,U⟩;refine lp1 U (nlS T) fun m y4 j a T U W=>?_;apply brQ U<;>intro U
  ·refine ixV c T.le U fun k l f U=>?_;refine vL f T.le ?_;refine brZ fun U=>?_;refine lp1 U (nlS T) fun o y5 u v T U W=>?_;apply brQ U<;>intro U
   ·refine ixV c T.le U fun w x y U=>?_;refine ixI slA U fun a0 U=>?_;apply brQ U<;>intro U
    ·refine ixV c T.le U fun a1 a2 a3 U=>?_;refine ixI slA U fun a4 U=>?_;apply brQ U<;>intro U
     ·exact endX
     ·exact endX
    ·exact endX
   ·exact endX
  ·refine lp1 U (nlS T) fun a5 y6 a6 a7 T U W=>?_;apply brQ U<;>intro U
   ·refine lp1 U (nlS T) fun a8 y7 a9 aa T U W=>?_;apply brQ U<;>intro U
    ·refine ixV c T.le U fun ab ac ad U=>?_;refine ixV c T.le U fun ae af ag U=>?_;refine cm0 U T (fun s i=>ZIn s i slA slA) fun ah ai T U=>⟨_,rfl,?_⟩;apply brQ U<;>intro U
     ·exact endX
     ·exact endX
    ·exact endX
   ·exact endX
theorem ZG1 {j k i r} (U:ZlO j=some r) (e:CellsC (hcell h) k [.int .i64 j.Kind,.int .i64 j.Size,i]) (a:SlC ψ eL i j.Rows):CallsH P 84 #[.pointer (some k)] h (fun v h'=>∃ w0,v=.agg #[.int .i64 r.Levels,.int .i64 r.Columns,w0]/\S ψ h h' [.it (El.sl eL) [w0] r.Rows]):=by
 refine zS hψ ⟨[],[],[],[(1,⟨kdL [0,0,0,2,0,0,0,2,0,3,4],.fin [9,0,1,2,3,4,5,6,7,8,10],true⟩)]⟩ Tryz.func84 fun T=>?_;refine new_S T fun b2 l T=>?_;refine ⟨fun _=>False,?_⟩;have g:=T;have c:=eX l;refine Zf2 T fun b3 u xE T=>⟨eZ (c.trans xE),?_⟩;replace c:=c.trans xE;refine ZH ?_;refine kI e g.le 1 ?_;refine ZM ?_;refine kV e g.le 2 ?_;refine ZF (a.mono T.leF).one ?_;(iterate 3 refine boxA fun w T=>?_);refine kV e T.le 2 ?_;refine vL a T.leF ?_;apply brQ U<;>intro U
 ·refine kV e T.le 2 ?_;refine ixV a T.leF U fun x y f U=>?_;refine vL f T.leF ?_;refine boxA fun a0 T=>?_;refine lsA ?_;(iterate 3 refine boxA fun o T=>?_);refine lsA ?_;have T:=T.arg a;exact endS
 ·refine lsA ?_;(iterate 3 refine boxA fun s T=>?_);refine lsA ?_;have T:=T.arg a;exact endS
theorem ZBM {levels0 column1 r} (U:Zqx levels0 column1=some r)  :zR 133 #[.int .i64 levels0,.int .i64 column1] h ψ (.bool r):=by
 refine zO Tryz.func133 fun T=>?_;refine cm0 U T (fun s a=>Zak s a) fun f c T U=>⟨_,rfl,?_⟩;refine brY fun U=>?_;refine cm0 U T (fun s a=>Zak s a) fun g e T U=>⟨_,rfl,?_⟩;exact tZ
theorem ZC1 {g l i r} (U:Zmc g=some r) (c:CellsC (hcell h) l [.int .i64 g.Levels,.int .i64 g.Columns,i]) (e:sc h eL i g.Rows):zR 85 #[.pointer (some l)] h ψ (.bool r):=by
 refine zU [[4,18],[9,24]] [[3]] Tryz.func85 fun T=>?_;refine ⟨fun j=>S ψ h j []/\ZqW g=some r,?_,?_⟩
 ·refine lsA ?_;refine cm0 U T (fun s k=>ZBM s k) fun u v T U=>⟨_,rfl,?_⟩;refine brZ fun U=>?_;refine kV c T.le 2 ?_;refine vL e T.le ?_;exact brQ U (fun U=>tZ) fun U=>tZ
 ·rintro _ j ⟨T,U⟩;refine lp1 U (nlS T) fun m y3 w a T U W=>?_;refine kV c T.le 2 ?_;refine vL e T.le ?_;refine brY fun U=>?_;refine kV c T.le 2 ?_;refine ixV e T.le U fun x y f U=>?_;refine vL f T.le ?_;refine kI c T.le 1 ?_;refine brZ fun U=>?_;refine lp1 U (nlS T) fun a0 y4 a1 a2 T U W=>?_;refine kV c T.le 2 ?_;refine ixV e T.le U fun a3 a4 o U=>?_;refine vL o T.le ?_;apply brQ U<;>intro U
  ·refine kV c T.le 2 ?_;refine ixV e T.le U fun a5 a6 a7 U=>?_;refine ixI slA U fun a8 U=>?_;refine kI c T.le 0 ?_;refine cm0 U T (fun s k=>Zak s k) fun a9 aa T U=>⟨_,rfl,?_⟩;apply brQ U<;>intro U
   ·exact endX
   ·exact endX
  ·exact endX
theorem Zo3 {c r} (U:Zb6 c=some r)  :zR 134 #[.int .i64 c] h ψ (.tuple #[.int .i64 r.1,.int .i64 r.2]):=by
 refine zT [[4,24],[8,30,36]] Tryz.func134 fun T=>?_;refine cm0 U T (fun s e=>Zak s e) fun r8 f T U=>⟨_,rfl,?_⟩;refine brZ fun U=>?_;refine lp1 U (nlS T) fun m l g a T U W=>?_;refine gzA U fun U=>?_;refine brZ fun U=>?_;refine lp2 U (nlS T) fun i o u j k T U W=>?_;apply brQ U<;>intro U
 ·refine gzA U fun U=>?_;apply brQ U<;>intro U
  ·exact endX
  ·refine gzA U fun U=>?_;exact endX
 ·exact endX
theorem Zen {g p1 n2 r} (U:Zbf g p1 n2=some r)  :zL 198 #[.int .i64 g,.int .i64 p1,.int .i64 n2] h ψ eI r:=by
 refine zT [[2,0,12,43]] Tryz.func198 fun T=>?_;refine neA eI fun u j T=>?_;refine lw31 U (fun e f i c=>([.it oL [i] c],e,f,c)) fun e f i k c a T U W=>?_;apply brQ U<;>intro U
 ·refine gzA U fun U=>?_;refine puA U 0 fun l o s T U=>?_;refine gzA U fun U=>?_;exact endL
 ·exact endX
theorem Zox {c k1 r} (U:Zft c k1=some r)  :zR 202 #[.int .i64 c,.int .i64 k1] h ψ (.int .i64 r):=by
 refine zT [[2,6,30]] Tryz.func202 fun T=>?_;refine lp2 U (nlS T) fun m e f g a T U W=>?_;exact brQ U (fun U=>tZ) fun U=>tZ
theorem Zhh {a v0 r} (U:ZaZ a=some r) (g:sc h eI v0 a):zL 96 #[v0] h ψ eI r:=by
 refine zO Tryz.func96 fun T=>?_;refine neA eI fun i e T=>?_;obtain ⟨j,c,U⟩:=obind U;refine app_S T 0 rfl (ZbT (Zbi _) slA) rfl rfl c fun k f T=>?_;dsimp at T;exact endS
theorem ZvL {l v0 o v1 u r} (U:ZdD l o u=some r) (f0:sc h eI v0 l) (x:sc h eI v1 o):zL 261 #[v0,v1,.int .i64 u] h ψ eI r:=by
 refine zT [[4,54],[8,66],[12,43]] Tryz.func261 fun T=>?_;refine cm1 U T (fun s y=>Zhh s y slA) fun a0 f a1 T U=>⟨_,rfl,?_⟩;refine vL x T.le ?_;refine Zi slA ?_;refine lw11 U (fun v xs=>([.it oL [f] xs],v,xs)) fun v a2 xs a T U W=>?_;apply brQ U<;>intro U
 ·refine ixI slA U fun a3 U=>?_;refine lw11 U (fun g c=>([.it oL [f] c],g,c)) fun g a4 c a5 T U W=>?_;apply brQ U<;>intro U
  ·refine ixI slA U fun a6 U=>?_;refine ixI slA U fun a7 U=>?_;refine gzA U fun U=>?_;refine ixA slA U fun a8 a9 i j U=>?_;refine st1_S T 0 rfl i j rfl (fun _=>⟨rfl,rfl⟩) fun aa T=>?_;dsimp at T;exact endL
  ·exact endX
 ·refine lw11 U (fun w e=>([.it oL [w] e],e)) fun w ab e ac T U W=>?_;refine Zi slA ?_;apply brQ U<;>intro U
  ·refine Zi slA ?_;obtain ⟨ad,k,U⟩:=obind U;refine cut_S none (some (ε.wrap ((e.length:Int)-1))) T 0 rfl k rfl fun ae T=>?_;dsimp at T;exact endL
  ·exact endX
theorem Zn9 {c v0 p1 r} (U:Zbs c p1=some r) (e:sc h eI v0 c):zR 262 #[v0,.int .i64 p1] h ψ (.int .i64 r):=by
 refine zT [[3,30,36]] Tryz.func262 fun T=>?_;refine vL e T.le ?_;refine lp2 U (nlS T) fun m f j g a T U W=>?_;refine brY fun U=>?_;refine ixI slA U fun i U=>?_;exact tZ
theorem Zrw {e v0 p1 r} (U:Zgq e p1=some r) (f:sc h eI v0 e):zR 199 #[v0,.int .i64 p1] h ψ (.bool r):=by
 refine zT [[3,36],[6,42]] Tryz.func199 fun T=>?_;refine vL f T.le ?_;refine lp1 U (nlS T) fun m d6 g a T U W=>?_;refine brY fun U=>?_;refine lp1 U (nlS T) fun i n7 j k T U W=>?_;refine cm0 U T (fun s c=>Zox s c) fun l o T U=>⟨_,rfl,?_⟩;apply brQ U<;>intro U
 ·refine cm1 U T (fun s c=>Zen s c) fun u v w T U=>⟨_,rfl,?_⟩;refine puA U 0 fun x y a0 T U=>?_;refine cm1 U T (fun s c=>ZvL s c slA slA) fun a1 a2 a3 T U=>⟨_,rfl,?_⟩;refine cm0 U T (fun s c=>Zn9 s c slA) fun a4 a5 T U=>⟨_,rfl,?_⟩;apply brQ U<;>intro U
  ·exact endX
  ·exact endX
 ·exact endX
theorem ZJX {e r} (U:Zhf e=some r)  :CallsH P 135 #[.int .i64 e] h (fun v h'=>∃ w0,v=.agg #[.int .i64 r.Prime,.int .i64 r.Degree,w0]/\S ψ h h' [.it oL [w0] r.Poly]):=by
 refine zT [[4,30]] Tryz.func135 fun T=>?_;refine new_S T fun f i T=>?_;refine cm0 U T (fun s c=>Zo3 s c) fun r9 j T U=>⟨_,_,rfl,?_⟩;refine lp1 (os:=[.box f [.int .i64 0,.int .i64 0,(.slice none 0 0)]]) U (pk T [0]) fun m n5 k a T U W=>?_;refine cm1 U T (fun s c=>Zen s c) fun l o u T U=>⟨_,rfl,?_⟩;refine puA U 0 fun w x y T U=>?_;refine cm0 U T (fun s c=>Zrw s c slA) fun a0 a1 T U=>⟨_,rfl,?_⟩;apply brQ U<;>intro U
 ·refine ZF oneA ?_;(iterate 3 refine boxA fun g T=>?_);refine lsA ?_;exact endX
 ·exact endL
theorem Zvw {g k c r} (U:ZbD g=some r) (e:CellsC (hcell h) k [.int .i64 g.Kind,.int .i64 g.Size,c]) (f:SlC ψ eL c g.Rows):CallsH P 86 #[.pointer (some k)] h (fun v h'=>∃ w0 w1,v=.agg #[.int .i64 r.Field.Prime,.int .i64 r.Field.Degree,w0,w1]/\S ψ h h' [.it oL [w0] r.Field.Poly,.it (El.sl eL) [w1] r.Rows]):=by
 refine zS hψ ⟨[],[],[],[(4,⟨kdL [0,0,0,1,3,0,0,0,2,0,4],.fin (rgs [(0,11)]),true⟩)]⟩ Tryz.func86 fun T=>?_;refine new_S T fun b2 w T=>?_;refine kI e T.le 1 ?_;refine cm0 U T (fun s o=>Zo3 s o) fun x l T U=>⟨_,_,rfl,?_⟩;apply brQ U<;>intro U
 ·(iterate 4 refine boxA fun y T=>?_);refine lsA ?_;exact endX
 ·refine ⟨fun _=>False,?_⟩;have i:=T;have a:=eX l;refine kI e T.le 1 ?_;obtain ⟨a0,j,U⟩:=obind U;refine ce1 T (fun s=>ZJX s.fle j) fun a1 a2 xE T=>⟨_,_,_,rfl,eZ (a.trans xE),?_⟩;replace a:=a.trans xE;refine ZM ?_;refine kV e i.le 2 ?_;refine ZF (f.mono T.leF).one ?_;(iterate 4 refine boxA fun u T=>?_);refine lsA ?_;have T:=T.arg f;exact endS
theorem ZxC {f k g r} (U:Zgn f=some r) (c:CellsC (hcell h) k [.int .i64 f.Prime,.int .i64 f.Degree,g]) (i:sc h eI g f.Poly):zR 200 #[.pointer (some k)] h ψ (.bool r):=by
 refine zU [[8,36]] [[3]] Tryz.func200 fun T=>?_;refine ⟨fun j=>S ψ h j []/\Zko f=some r,?_,?_⟩
 ·refine kI c T.le 0 ?_;refine cm0 U T (fun s e=>Zak s e) fun l o T U=>⟨_,rfl,?_⟩;refine brZ fun U=>?_;refine kI c T.le 1 ?_;refine cm0 U T (fun s e=>Zak s e) fun u v T U=>⟨_,rfl,?_⟩;refine brZ fun U=>?_;refine kV c T.le 2 ?_;refine vL i T.le ?_;refine kI c T.le 1 ?_;refine brZ fun U=>?_;refine lsA ?_;refine ixI slA U fun w U=>?_;exact brQ U (fun U=>tZ) fun U=>tZ
 ·rintro _ j ⟨T,U⟩;refine lsA ?_;refine cm0 U T (fun s e=>Zox s e) fun x y T U=>⟨_,rfl,?_⟩;refine cm0 U T (fun s e=>Zo3 s e) fun a0 a1 T U=>⟨_,_,rfl,?_⟩;refine kI c T.le 0 ?_;refine brZ fun U=>?_;refine lp1 U (nlS T) fun m y6 a2 a T U W=>?_;refine kV c T.le 2 ?_;refine vL i T.le ?_;apply brQ U<;>intro U
  ·refine kV c T.le 2 ?_;refine ixI slA U fun a3 U=>?_;refine cm0 U T (fun s e=>Zak s e) fun a4 a5 T U=>⟨_,rfl,?_⟩;exact brQ U (fun U=>tZ) fun U=>tZ
  ·refine kV c T.le 2 ?_;refine cm0 U T (fun s e=>Zrw s e slA) fun a6 a7 T U=>⟨_,rfl,?_⟩;exact tZ
theorem Zms {c e a r} (U:Zbq c=some r) (i:CellsC (hcell h) e [.int .i64 c.Prime,.int .i64 c.Degree,a]) (f:sc h eI a c.Poly):zR 138 #[.pointer (some e)] h ψ (.int .i64 r):=by
 refine zO Tryz.func138 fun T=>?_;refine lsA ?_;refine cm0 U T (fun s g=>Zox s g) fun j k T U=>⟨_,rfl,?_⟩;exact tZ
theorem ZIT {f i c v1 e r} (U:Zlk f v1=some r) (l:CellsC (hcell h) i [.int .i64 f.Prime,.int .i64 f.Degree,c]) (j:sc h eI c f.Poly) (k:sc h eI e v1):zR 201 #[.pointer (some i),e] h ψ (.bool r):=by
 refine zT [[3,36]] Tryz.func201 fun T=>?_;refine cm0 U T (fun s g=>Zms s g slA slA) fun r8 o T U=>⟨_,rfl,?_⟩;refine lp1 U (nlS T) fun m y u a T U W=>?_;refine vL k T.le ?_;refine brY fun U=>?_;refine ixI slA U fun v U=>?_;refine cm0 U T (fun s g=>Zak s g) fun w x T U=>⟨_,rfl,?_⟩;exact brQ U (fun U=>tZ) fun U=>tZ
theorem ZBK {e l g j v1 r} (U:Zmd e j=some r) (x:CellsC (hcell h) l [.int .i64 e.Prime,.int .i64 e.Degree,g]) (w:sc h eI g e.Poly) (c:sc h eL v1 j):zR 136 #[.pointer (some l),v1] h ψ (.bool r):=by
 refine zU [[4,30]] [[3]] Tryz.func136 fun T=>?_;refine ⟨fun i=>S ψ h i []/\Zpz e j=some r,?_,?_⟩
 ·refine cm0 U T (fun s k=>ZxC s k slA slA) fun r7 y T U=>⟨_,rfl,?_⟩;refine brZ fun U=>?_;refine vL c T.le ?_;refine brZ fun U=>?_;refine vL c T.le ?_;refine brZ fun U=>?_;refine ixV c T.le U fun a0 a1 o U=>?_;refine vL o T.le ?_;refine brZ fun U=>?_;refine ixV c T.le U fun a2 a3 u U=>?_;refine vL u T.le ?_;exact brQ U (fun U=>tZ) fun U=>tZ
 ·rintro _ i ⟨T,U⟩;refine lp1 U (nlS T) fun m i5 a4 a T U W=>?_;refine vL c T.le ?_;refine brY fun U=>?_;refine ixV c T.le U fun a5 a6 f U=>?_;refine vL f T.le ?_;refine ixV c T.le U fun a7 a8 v U=>?_;refine vL v T.le ?_;refine brZ fun U=>?_;refine ixV c T.le U fun a9 aa ab U=>?_;refine cm0 U T (fun s k=>ZIT s k slA slA slA) fun ac ad T U=>⟨_,rfl,?_⟩;exact brQ U (fun U=>tZ) fun U=>tZ
theorem ZA6 {c k1 r} (U:Zjt c k1=some r)  :zR 137 #[.int .i64 c,.int .i64 k1] h ψ (.int .i64 r):=by
 refine zT [[2,6,30]] Tryz.func137 fun T=>?_;refine lp2 U (nlS T) fun m e g f a T U W=>?_;refine brY fun U=>?_;exact brQ U (fun U=>tZ) fun U=>tZ
theorem ZFF {c v0 e v1 r} (U:Zlo c e=some r) (f:sc h eI v0 c) (g:sc h eI v1 e):zR 203 #[v0,v1] h ψ (.bool r):=by
 refine zT [[4,30]] Tryz.func203 fun T=>?_;refine vL f T.le ?_;refine vL g T.le ?_;refine brZ fun U=>?_;refine lp1 U (nlS T) fun m i5 i a T U W=>?_;refine vL f T.le ?_;refine brY fun U=>?_;refine ixI slA U fun j U=>?_;refine ixI slA U fun k U=>?_;exact brQ U (fun U=>tZ) fun U=>tZ
theorem Ztm {e v0 g v1 r} (U:Zio e g=some r) (c:sc h eL v0 e) (i:sc h eL v1 g):zR 139 #[v0,v1] h ψ (.bool r):=by
 refine zT [[4,30]] Tryz.func139 fun T=>?_;refine vL c T.le ?_;refine vL i T.le ?_;refine brZ fun U=>?_;refine lp1 U (nlS T) fun m i5 k a T U W=>?_;refine vL c T.le ?_;refine brY fun U=>?_;refine ixV c T.le U fun l o f U=>?_;refine ixV i T.le U fun u v w U=>?_;refine cm0 U T (fun s j=>ZFF s j slA slA) fun x y T U=>⟨_,rfl,?_⟩;exact brQ U (fun U=>tZ) fun U=>tZ
theorem Znr {e v0 r} (U:Ziu e=some r) (g:sc h eL v0 e):zL 62 #[v0] h ψ eL r:=by
 refine zT [[3,19,24]] Tryz.func62 fun T=>?_;refine neA eL fun v5 l T=>?_;refine lw21 U (fun i j c=>([.it (El.ow eL) [i] c],c,j)) fun i j o c a T U W=>?_;refine vL g T.le ?_;apply brQ U<;>intro U
 ·refine ixV g T.le U fun u v f U=>?_;refine cm1 U T (fun s k=>Zhh s k slA) fun w x y T U=>⟨_,rfl,?_⟩;refine ZF oneA ?_;have T:=frA 0;have T:=T.copyF 0 rfl;refine piA U 1 fun a0 a1 a2 T U=>?_;exact endL
 ·exact endX
theorem Zph {k p0 f y1 y2 r} (U:Ze3 k y1 y2=some r) (g:CellsC (hcell h) p0 [.int .i64 k.Prime,.int .i64 k.Degree,f]) (a7:sc h eI f k.Poly):zR 268 #[.pointer (some p0),.int .i64 y1,.int .i64 y2] h ψ (.int .i64 r):=by
 refine zS hψ ⟨an [[5,60],[8,66]],[],[],[(11,⟨kdL [0,0,0,0,1,0,0,0,1,3,0,0,0,2,4,0],.fin (rgs [(0,16)]),true⟩)]⟩ Tryz.func268 fun T=>?_;refine lsA ?_;refine cm1 U T (fun s i=>Zen s i) fun l o a8 T U=>⟨_,rfl,?_⟩;refine lsA ?_;refine cm1 U T (fun s i=>Zen s i) fun u v a9 T U=>⟨_,rfl,?_⟩;refine kI g T.le 1 ?_;refine mkO eI U fun aa w ab T U=>?_;refine lw11 U (fun x xs=>([.it oL [w] xs,.it oL [v] u,.it oL [o] l],x,xs)) fun x a6 xs a T U W=>?_;refine Zi slA ?_;apply brQ U<;>intro U
 ·refine lw11 U (fun y e=>([.it oL [w] e,.it oL [v] u,.it oL [o] l],y,e)) fun y ac e ad T U W=>?_;refine Zi slA ?_;apply brQ U<;>intro U
  ·refine ixI slA U fun ae U=>?_;refine ixI slA U fun af U=>?_;refine ixI slA U fun ag U=>?_;refine kI g T.le 0 ?_;refine gzA U fun U=>?_;refine ixA slA U fun ah ai a0 a1 U=>?_;refine st1_S T 0 rfl a0 a1 rfl (fun _=>⟨rfl,rfl⟩) fun aj T=>?_;dsimp at T;exact endL
  ·exact endX
 ·refine ⟨fun _=>False,?_⟩;have j:=T;have c:=eX a6;refine lsA ?_;obtain ⟨ak,a2,U⟩:=obind U;refine ce1 T (fun s=>ZvL s.fle a2 slA slA) fun al am xE T=>⟨_,rfl,eZ (c.trans xE),?_⟩;replace c:=c.trans xE;refine ZH ?_;refine kI g j.le 0 ?_;refine cm0 U T (fun s i=>Zn9 s i slA) fun ao ap T U=>⟨_,rfl,?_⟩;exact tZ
theorem ZrK {g i e v1 f c2 r} (U:Zhp g v1 c2=some r) (v:CellsC (hcell h) i [.int .i64 g.Prime,.int .i64 g.Degree,e]) (l:sc h eI e g.Poly) (o:sc h eI f v1):zL 209 #[.pointer (some i),f,.int .i64 c2] h ψ eI r:=by
 refine zT [[3,43,48]] Tryz.func209 fun T=>?_;refine neA eI fun v9 w T=>?_;refine lw21 U (fun j k c=>([.it oL [j] c],c,k)) fun j k x c a T U W=>?_;refine vL o T.le ?_;apply brQ U<;>intro U
 ·refine ixI slA U fun y U=>?_;refine cm0 U T (fun s u=>Zph s u slA slA) fun a0 a1 T U=>⟨_,rfl,?_⟩;refine puA U 0 fun a2 a3 a4 T U=>?_;exact endL
 ·exact endX
theorem ZGX {e f c g r} (U:Zk8 e g=some r) (k:CellsC (hcell h) f [.int .i64 e.Prime,.int .i64 e.Degree,c]) (i:sc h eI c e.Poly):zR 263 #[.pointer (some f),.int .i64 g] h ψ (.int .i64 r):=by
 refine zT [[2,30]] Tryz.func263 fun T=>?_;refine lp1 U (nlS T) fun m u l a T U W=>?_;refine cm0 U T (fun s j=>Zph s j slA slA) fun v o T U=>⟨_,rfl,?_⟩;exact brQ U (fun U=>tZ) fun U=>tZ
theorem ZuD {f l c o u k3 r} (U:Zir f o u k3=some r) (g:CellsC (hcell h) l [.int .i64 f.Prime,.int .i64 f.Degree,c]) (y:sc h eI c f.Poly):zR 269 #[.pointer (some l),.int .i64 o,.int .i64 u,.int .i64 k3] h ψ (.int .i64 r):=by
 refine zT [[4,66]] Tryz.func269 fun T=>?_;refine lsA ?_;refine cm1 U T (fun s e=>Zen s e) fun a0 v a2 T U=>⟨_,rfl,?_⟩;refine lsA ?_;refine cm1 U T (fun s e=>Zen s e) fun w x a3 T U=>⟨_,rfl,?_⟩;refine lw11 U (fun i xs=>([.it oL [x] w,.it oL [v] xs],i,xs)) fun i a4 xs a T U W=>?_;refine Zi slA ?_;apply brQ U<;>intro U
 ·refine ixI slA U fun a5 U=>?_;refine ixI slA U fun a6 U=>?_;refine kI g T.le 0 ?_;refine gzA U fun U=>?_;refine ixA slA U fun a7 a8 j k U=>?_;refine st1_S T 1 rfl j k rfl (fun _=>⟨rfl,rfl⟩) fun a9 T=>?_;dsimp at T;exact endL
 ·refine kI g T.le 0 ?_;refine cm0 U T (fun s e=>Zn9 s e slA) fun aa ab T U=>⟨_,rfl,?_⟩;exact tZ
theorem ZyW {j v g v1 i w2 w x r} (U:Zkk j v1 w2 x=some r) (y:CellsC (hcell h) v [.int .i64 j.Prime,.int .i64 j.Degree,g]) (a3:sc h eI g j.Poly) (f1:sc h eI i v1) (f2:sc h eI w w2):zL 264 #[.pointer (some v),i,w,.int .i64 x] h ψ eI r:=by
 refine zS hψ ⟨an [[3,55,60]],[],[],[(5,⟨kdL [0,0,0,0,0,2,0,0,0,0,1,0,3,0,0,0,2,0,4,4,4,0],.fin (rgs [(6,7),(1,5),(13,7),(0,1),(20,2)]),true⟩)]⟩ Tryz.func264 fun T=>?_;refine neA eI fun a5 a6 T=>?_;refine lw21 U (fun v9 k c=>([.it oL [v9] c],c,k)) fun v9 k a2 c a T U W=>?_;refine vL f1 T.le ?_;apply brQ U<;>intro U
 ·refine ⟨fun _=>False,?_⟩;have f:=T;have e:=eX a2;refine ixI slA U fun a7 U=>?_;obtain ⟨a8,l,U⟩:=obind U;refine ce0 T (fun s=>Zph s.fle l slA slA) fun a9 xE T=>⟨_,rfl,eZ (e.trans xE),?_⟩;replace e:=e.trans xE;refine ixA slA U fun aa ab o u U=>?_;refine ZH ?_;refine ldI_C (f1.mono f.le) o u ?_;refine ZH ?_;refine kI y f.le 0 ?_;refine cm0 U T (fun s hx=>ZuD s hx slA slA) fun ac ad T U=>⟨_,rfl,?_⟩;refine puA U 0 fun ae af ag T U=>?_;exact endL
 ·exact endX
theorem ZAX {k p0 o y1 v1 y2 r} (U:ZoQ k y1 y2=some r) (bj:CellsC (hcell h) p0 [.int .i64 k.Prime,.int .i64 k.Degree,o]) (b3:sc h eI o k.Poly) (f1:sc h eL v1 y1):CallsH P 204 #[.pointer (some p0),v1,.int .i64 y2] h (fun v h'=>∃ w0 w1,v=.tuple #[w0,w1]/\S ψ h h' [.it (El.ow eL) [w0] r.1,.it oL [w1] r.2]):=by
 refine zS hψ ⟨an [[4,55,60],[8,72],[15,84]],an [[6],[10,72]],[],[(11,⟨kdL [0,0,0,0,2,0,0,0,0,1,0,0,1,3,4,0],.fin (rgs [(5,9),(0,5),(14,2)]),true⟩),(18,⟨[],.fin (rgs [(2,14),(0,2),(16,2)]),false⟩)]⟩ Tryz.func204 fun T=>?_;refine cm1 U T (fun s hx=>Znr s hx slA) fun bk g bm T U=>⟨_,rfl,?_⟩;refine neA eI fun bn bo T=>?_;refine lw22 U (fun l j c xs=>([.it oL [l] c,.it (El.ow eL) [g] xs],c,j,xs)) fun l j bp c xs a T U W=>?_;refine ⟨fun a5=>S ψ h a5 [.it oL [l] c,.it (El.ow eL) [g] xs]/\ZlK k c j xs=some a,?_,?_⟩
 ·apply brQ U<;>intro U
  ·refine Zi slA ?_;refine Zi slA ?_;apply brQ U<;>intro U
   ·exact endC
   ·obtain rfl:=oI U;obtain rfl:=oI W;exact endR
  ·obtain rfl:=oI U;obtain rfl:=oI W;exact endR
 ·rintro _ a5 ⟨T,U⟩;refine Zi slA ?_;refine ⟨fun a6 u=>S ψ h u [.it oL [l] c,.it (El.ow eL) [g] xs]/\ZaH k c j xs a6=some a,?_,?_⟩
  ·refine lp1 (os:=[.it oL [l] c,.it (El.ow eL) [g] xs]) U (pk T [0,1]) fun bq b2 b4 br T U w=>?_;refine Zi slA ?_;apply brQ U<;>intro U
   ·refine ixA slA U fun bs bt x y U=>?_;refine ZaN T 1 rfl x y fun bu T=>?_;refine ixI slA U fun bv U=>?_;apply brQ U<;>intro U
    ·exact endL
    ·obtain ⟨xm,hq,rfl⟩:=omap U;obtain rfl:=oI w;exact ⟨pk T [1,2],hq⟩
   ·obtain ⟨xm,hq,rfl⟩:=omap U;obtain rfl:=oI w;exact ⟨pk T [0,1],hq⟩
  ·rintro _ a6 u ⟨T,U⟩;refine Zi slA ?_;apply brQ U<;>intro U
   ·exact endL
   ·refine ⟨fun _=>False,?_⟩;have a0:=T;have e:=eX u;refine ixA slA U fun av bw ad aa U=>?_;refine ZaN T 1 rfl ad aa fun aw T=>?_;refine ixI slA U fun bx U=>?_;obtain ⟨bz,ab,U⟩:=obind U;refine ce0 T (fun s=>ZGX s.fle ab slA slA) fun c0 xE T=>⟨_,rfl,eZ (e.trans xE),?_⟩;replace e:=e.trans xE;refine ixA slA U fun c3 c4 ac ae U=>?_;refine ZM ?_;refine ldV_C (a0.rdL 1 rfl (Zah _)) (CLe.refl _) ac ae fun c5 f=>?_;refine cl1 U T (fun ax _ _ af=>ZrK ax.fle af slA slA (f.mono (CLe.ext e))) fun ay az c6 T U=>⟨_,rfl,?_⟩;refine ixA slA U fun b0 c7 ag ah U=>?_;refine ZaN T 3 rfl ag ah fun b1 T=>?_;refine ixA slA U fun c8 c9 ai aj U=>?_;have T:=T.copyF 0 rfl;refine ZhZ T 4 rfl ai aj rfl fun ca T=>?_;dsimp at T;refine ixA slA U fun cb cc ak al U=>?_;have T:=frA 1;have T:=T.copyF 1 rfl;refine ZhZ T 4 rfl ak al rfl fun b7 T=>?_;dsimp at T;refine lw11 U (fun a7 i=>([.it eL [b1] b0,.it eL [az] ay,.it eL [aw] av,.it oL [l] c,.it (El.ow eL) [g] i],a7,i)) fun a7 b8 i cd T U am=>?_;refine Zi slA ?_;apply brQ U<;>intro U
    ·apply brQ U<;>intro U
     ·refine ixA slA U fun ce cf ao a1 U=>?_;refine ZaN T 4 rfl ao a1 fun cg T=>?_;refine ixA slA U fun ch cj ap a2 U=>?_;refine ZaN T 5 rfl ap a2 fun ck T=>?_;refine ixI slA U fun b9 U=>?_;refine cm1 U T (fun s hx=>ZyW s hx slA slA slA slA) fun ba bb bc T U=>⟨_,rfl,?_⟩;refine ixA slA U fun bd be a3 a4 U=>?_;have T:=frA 0;have T:=T.copyF 0 rfl;refine ZhZ T 7 rfl a3 a4 rfl fun bf T=>?_;dsimp at T;exact endL
     ·exact endL
    ·refine puA U 3 fun bg bh bi T U=>?_;obtain rfl:=oI U;obtain rfl:=oI am;exact endM
theorem ZxQ {c g a i v1 r} (U:Ziq c i=some r) (v:CellsC (hcell h) g [.int .i64 c.Prime,.int .i64 c.Degree,a]) (l:sc h eI a c.Poly) (o:sc h eL v1 i):zL 140 #[.pointer (some g),v1] h ψ eL r:=by
 refine zO Tryz.func140 fun T=>?_;refine ixV o T.le U fun w x f U=>?_;refine vL f T.le ?_;refine cm2 U T (fun s u=>ZAX s u slA slA slA) fun j y k a0 T U=>⟨_,_,rfl,?_⟩;refine Zi slA ?_;obtain ⟨a1,e,U⟩:=obind U;refine cut_S none (some (j.2.length:Int)) T 0 rfl e rfl fun a2 T=>?_;dsimp at T;exact endS
theorem Zxo {i y j k r} (U:ZaG i=some r) (a:CellsC (hcell h) y [.int .i64 i.Field.Prime,.int .i64 i.Field.Degree,j,k]) (a2:sc h eI j i.Field.Poly) (c:sc h eL k i.Rows):zR 87 #[.pointer (some y)] h ψ (.bool r):=by
 refine zS hψ ⟨[],an [[3]],[],[(3,⟨kdL [0,0,0,3,0,0,0,2,0,4,0],.fin (rgs [(0,11)]),true⟩),(5,⟨kdL [0,0,0,0,0,0,1,3,0,0,0,2,4,0],.fin (rgs [(0,14)]),true⟩)]⟩ Tryz.func87 fun T=>?_;refine ⟨fun l=>S ψ h l []/\Zdo i=some r,?_,?_⟩
 ·refine kV a T.le 3 ?_;refine cl0 U T (fun a0 _ _ w=>ZBK a0.fle w (CellsC.part 0 3 slA) slA slA) fun a3 a4 T U=>⟨_,rfl,?_⟩;refine brZ fun U=>?_;refine kV a T.le 3 ?_;refine ixV c T.le U fun a5 a6 f U=>?_;refine vL f T.le ?_;refine brZ fun U=>?_;refine kV a T.le 3 ?_;refine vL c T.le ?_;exact brQ U (fun U=>tZ) fun U=>tZ
 ·rintro _ l ⟨T,U⟩;refine ⟨fun _=>False,?_⟩;have u:=T;have e:=eX l;obtain ⟨a7,o,U⟩:=obind U;refine ce0 T (fun s=>Zms s.fle o (CellsC.part 0 3 slA) slA) fun a8 xE T=>⟨_,rfl,eZ (e.trans xE),?_⟩;replace e:=e.trans xE;refine ZM ?_;refine kV a u.le 3 ?_;refine vL c T.le ?_;refine cm0 U T (fun s o=>ZA6 s o) fun a9 a1 T U=>⟨_,rfl,?_⟩;refine brZ fun U=>?_;refine ⟨fun _=>False,?_⟩;have v:=T;have g:=eX a1;refine kV a T.le 3 ?_;obtain ⟨aa,x,U⟩:=obind U;refine ce1 T (fun s=>ZxQ s.fle x (CellsC.part 0 3 slA) slA slA) fun ab ac xE T=>⟨_,rfl,eZ (g.trans xE),?_⟩;replace g:=g.trans xE;refine ZM ?_;refine kV a v.le 3 ?_;refine cm0 U T (fun s o=>Ztm s o slA slA) fun ad ae T U=>⟨_,rfl,?_⟩;exact tZ
theorem Zzx {c v0 r} (U:ZjH c=some r) (e:sc h eI v0 c):zR 205 #[v0] h ψ (.bool r):=by
 refine zT [[4,18]] Tryz.func205 fun T=>?_;refine vL e T.le ?_;refine brZ fun U=>?_;refine lp1 U (nlS T) fun m l g a T U W=>?_;refine vL e T.le ?_;refine brY fun U=>?_;refine ixI slA U fun i U=>?_;refine cm0 U T (fun s f=>Zak s f) fun j k T U=>⟨_,rfl,?_⟩;exact brQ U (fun U=>tZ) fun U=>tZ
theorem ZC4 {a c r} (U:Zjy a c=some r)  :zR 206 #[.agg #[.int .i64 a.A,.int .i64 a.B],.agg #[.int .i64 c.A,.int .i64 c.B]] h ψ (.bool r):=by
 refine zO Tryz.func206 fun T=>?_;refine new_S T fun g e T=>?_;refine new_S T fun i f T=>?_;refine lsA ?_;refine brZ fun U=>?_;refine lsA ?_;refine brY fun U=>?_;refine lsA ?_;exact tZ
theorem Zse {i c e r} (U:Zig i=some r) (k:sc h eI c i.Colors) (f:sc h Zg e i.Edges):zR 141 #[.agg #[c,e]] h ψ (.bool r):=by
 refine zU [[5,24]] [[3]] Tryz.func141 fun T=>?_;refine new_S T fun v a2 T=>?_;refine ⟨fun j=>S ψ h j [.box v [c,e]]/\Znz i=some r,?_,?_⟩
 ·refine bV T 0 0 ?_;refine cm0 U T (fun s g=>Zzx s g slA) fun r8 w T U=>⟨_,rfl,?_⟩;refine brZ fun U=>?_;refine bV T 0 1 ?_;refine vL f T.le ?_;refine brZ fun U=>?_;exact endC
 ·rintro _ j ⟨T,U⟩;refine bV T 0 0 ?_;refine vL k T.le ?_;refine lp1 (os:=[.box v [c,e]]) U (pk T [0]) fun m i4 a3 a T U W=>?_;refine bV T 0 1 ?_;refine vL f T.le ?_;refine brY fun U=>?_;refine bV T 0 1 ?_;refine ixA slA U fun a4 a5 x g U=>?_;obtain ⟨cs,ck,hr⟩:=f.cells x g rfl;obtain rfl:=Zau hr;refine lsA ?_;refine new_S T fun b5 a6 T=>?_;(iterate 2 refine boxA fun a7 T=>?_);refine bI T 0 0 ?_;refine cm0 U T (fun s g=>Zak s g) fun a8 a9 T U=>⟨_,rfl,?_⟩;refine brZ fun U=>?_;refine lsA ?_;refine cm0 U T (fun s g=>Zak s g) fun aa ab T U=>⟨_,rfl,?_⟩;refine brZ fun U=>?_;apply brQ U<;>intro U
  ·refine bV T 1 1 ?_;refine ixA slA U fun ac ae l o U=>?_;obtain ⟨y,a0,u⟩:=f.cells l o rfl;obtain rfl:=Zau u;refine lsA ?_;refine cm0 U T (fun s g=>ZC4 s g) fun af a1 T U=>⟨_,rfl,?_⟩;refine brZ fun U=>?_;exact endL
  ·exact endL
theorem Zwb {u p0 k r} (U:Zg6 u=some r) (c:CellsC (hcell h) p0 [.int .i64 u.Kind,.int .i64 u.Size,k]) (e:sc h eL k u.Rows):CallsH P 88 #[.pointer (some p0)] h (fun v h'=>∃ w0 w1,v=.tuple #[.agg #[w0,w1],.bool r.2]/\S ψ h h' [.it oL [w0] r.1.Colors,.it (El.ow Zg) [w1] r.1.Edges]):=by
 refine zS hψ ⟨an [[5,30]],[],[],[(9,⟨kdL [0,2,0,0,0,1,0,0,1,0,1,0,0,0,1,0,0,1,0,1,0,3,4,0,4],.fin (rgs [(2,20),(0,2),(22,3)]),true⟩),(10,⟨kdL [2,1,3,4,0],.fin [1,2,0,3,4],true⟩)]⟩ Tryz.func88 fun T=>?_;refine new_S T fun b2 af T=>?_;refine kI c T.le 1 ?_;refine cm0 U T (fun s hx=>Zak s hx) fun ag ah T U=>⟨_,rfl,?_⟩;apply brQ U<;>intro U
 ·(iterate 2 refine boxA fun ai T=>?_);refine lsA ?_;exact endX
 ·refine kI c T.le 1 ?_;refine mkO eI U fun a2 x aj T U=>?_;refine ZF oneA ?_;refine new_S T fun b4 ak T=>?_;(iterate 2 refine boxA fun al T=>?_);have T:=T.nilO (E:=Zg);refine lw12 U (fun y5 xs l=>([.box b4 [x,l],.it oL [x] a2,.box b2 [(.slice none 0 0),(.slice none 0 0)],.it (El.ow Zg) [l] xs],y5,xs)) fun y5 o xs l a T U W=>?_;refine kV c T.le 2 ?_;refine vL e T.le ?_;apply brQ U<;>intro U
  ·refine kV c T.le 2 ?_;refine ixV e T.le U fun am ao f U=>?_;refine vL f T.le ?_;apply brQ U<;>intro U
   ·(iterate 2 refine boxA fun a9 T=>?_);refine lsA ?_;exact endX
   ·refine ⟨fun _=>False,?_⟩;have w:=T;have j:=eX o;refine kV c T.le 2 ?_;refine ixV e T.le U fun ap aq ar U=>?_;refine ixI slA U fun a4 U=>?_;refine kV c T.le 2 ?_;refine ixV e T.le U fun au av aw U=>?_;refine ixI slA U fun a5 U=>?_;refine ZbZ T fun ax aa xE T=>⟨eZ (j.trans xE),?_⟩;replace j:=j.trans xE;refine ZM ?_;refine ldV_K (w.cells 0 rfl) 1 rfl rfl ?_;obtain ⟨ay,y,U⟩:=obind U;refine ZkI T 4 rfl 0 rfl (fun _=>⟨[.int .i64 a4],[.int .i64 a5],[],[],rfl,rfl,⟨rfl,rfl⟩,⟨rfl,rfl⟩⟩) rfl rfl y fun az ab xE T=>?_;refine boxA fun ac T=>?_;exact endL
  ·refine ⟨fun _=>False,?_⟩;have i:=T;have g:=eX o;refine lsA ?_;obtain ⟨b0,a0,U⟩:=obind U;refine ce0 T (fun s=>Zse s.fle a0 slA slA) fun ad xE T=>⟨_,rfl,eZ (g.trans xE),?_⟩;replace g:=g.trans xE;refine ZM ?_;refine ldV_K (i.cells 0 rfl) 0 rfl rfl ?_;refine ZM ?_;refine ldV_K (i.cells 0 rfl) 1 rfl rfl ?_;(iterate 2 refine boxA fun ae T=>?_);refine lsA ?_;exact endX
theorem Zu5 {c v0 p1 v1 r} (U:ZeK c p1=some r) (e:sc h eL v0 c) (w:sc h eI v1 p1):zR 208 #[v0,v1] h ψ (.tuple #[.int .i64 r.1,.bool r.2]):=by
 refine zT [[3,36,42]] Tryz.func208 fun T=>?_;refine vL e T.le ?_;refine lp2 U (nlS T) fun m i g k a T U W=>?_;refine brY fun U=>?_;refine gzA U fun U=>?_;refine ixV e T.le U fun l o f U=>?_;refine cm0 U T (fun s j=>ZdW s j slA slA) fun u v T U=>⟨_,rfl,?_⟩;refine brZ fun U=>?_;exact brQ U (fun U=>tZ) fun U=>tZ
theorem Zys {n0 r} (U:Zm4 n0=some r)  :zL 265 #[.int .i64 n0] h ψ eI r:=by
 refine zT [[3,19,24]] Tryz.func265 fun T=>?_;refine neA eI fun o g T=>?_;refine lw21 U (fun e f c=>([.it oL [e] c],c,f)) fun e f i c a T U W=>?_;apply brQ U<;>intro U
 ·refine puA U 0 fun j k l T U=>?_;exact endL
 ·exact endX
theorem ZJJ {e v0 f v1 r} (U:ZlW e f=some r) (j:sc h eI v0 e) (x:sc h eI v1 f):zL 266 #[v0,v1] h ψ eI r:=by
 refine zT [[3,31,36]] Tryz.func266 fun T=>?_;refine neA eI fun y k T=>?_;refine lw21 U (fun g i c=>([.it oL [g] c],c,i)) fun g i l c a T U W=>?_;refine vL j T.le ?_;apply brQ U<;>intro U
 ·refine ixI slA U fun o U=>?_;refine ixI slA U fun s U=>?_;refine puA U 0 fun u v w T U=>?_;exact endL
 ·exact endX
theorem ZAq {a v0 c p2 j r} (U:ZkN a c p2=some r) (k:SlC ψ eL v0 a) (l:SlC ψ eI j p2):zL 267 #[v0,.int .i64 c,j] h ψ eL r:=by
 refine zO Tryz.func267 fun T=>?_;refine neA eL fun v8 u T=>?_;obtain ⟨v,s,U⟩:=obind U;refine ZgU none (some c) k s rfl fun w f=>?_;have T:=T.arg f;obtain ⟨x,e,U⟩:=obind U;refine app_S T 1 rfl (Zqb 0 rfl) rfl rfl e fun y a0 T=>?_;dsimp at T;refine ZF (l.mono T.leF).one ?_;have T:=T.arg l;refine piA U 1 fun a1 a2 a3 T U=>?_;obtain ⟨a4,g,U⟩:=obind U;refine ZgU (some c) none k g rfl fun a5 o=>?_;have T:=T.arg o;obtain ⟨a6,i,U⟩:=obind U;refine app_S T 2 rfl (Zqb 0 rfl) rfl rfl i fun a7 a8 T=>?_;dsimp at T;exact endS
theorem ZrF {degree0 genera1 v1 i r} (U:ZdM degree0 genera1 i=some r) (f1:sc h eL v1 genera1):CallsH P 207 #[.int .i64 degree0,v1,.int .i64 i] h (fun v h'=>∃ w0,v=.tuple #[w0,.bool r.2]/\S ψ h h' [.it (El.ow eL) [w0] r.1]):=by
 refine zT [[5,55,61,66],[8,55,61,72]] Tryz.func207 fun T=>?_;refine cm1 U T (fun s k=>Zys s k) fun o u a8 T U=>⟨_,rfl,?_⟩;refine ZF oneA ?_;have T:=frA 0;have T:=T.copyF 0 rfl;refine Zme T fun a9 aa T=>?_;refine ZF oneA ?_;have T:=T.copyF 1 rfl;refine Zme T fun ab ac T=>?_;refine lw32 U (fun v9 w x g a3=>([.it (El.ow eL) [w] a3,.it (El.ow eL) [v9] g,.it eL [u] o],g,a3,x)) fun v9 w x ae g a3 a T U W=>?_;refine Zi slA ?_;apply brQ U<;>intro U
 ·refine lw32 U (fun l j y e c=>([.it (El.ow eL) [j] c,.it (El.ow eL) [l] e,.it eL [u] o],e,c,y)) fun l j y af e c ag T U W=>?_;refine vL f1 T.le ?_;apply brQ U<;>intro U
  ·refine ixA slA U fun ah ai ad a1 U=>?_;refine ZaN T 0 rfl ad a1 fun aj T=>?_;refine ixV f1 T.le U fun ak al f U=>?_;refine cm1 U T (fun s k=>ZJJ s k slA slA) fun am ao ap T U=>⟨_,rfl,?_⟩;refine cm0 U T (fun s k=>Zu5 s k slA slA) fun aq ar T U=>⟨_,_,rfl,?_⟩;apply brQ U<;>intro U
   ·exact endL
   ·refine Zi slA ?_;apply brQ U<;>intro U
    ·exact endX
    ·have T:=frA 3;have T:=frA 0;refine cl1 U T (fun a5 a0 _ a2=>ZAq a5.fle a2 (frF a0 3 rfl) (frF a0 0 rfl)) fun au av aw T U=>⟨_,rfl,?_⟩;refine ZF oneA ?_;have T:=T.copyF 1 rfl;refine piA U 3 fun ax ay a7 T U=>?_;exact endL
  ·exact endX
 ·exact endX
theorem ZDs {degree0 i v1 r} (U:Zk4 degree0 i=some r) (j:sc h eL v1 i):CallsH P 142 #[.int .i64 degree0,v1] h (fun v h'=>∃ w0,v=.tuple #[w0,.bool r.2]/\S ψ h h' [.it (El.ow eL) [w0] r.1]):=by
 refine zT [[4,37,43,54]] Tryz.func142 fun T=>?_;refine neA eL fun u w T=>?_;refine cm1 U T (fun s c=>ZrF s c slA) fun x y a0 T U=>⟨_,_,rfl,?_⟩;refine lw32 U (fun k l o g e=>([.it (El.ow eL) [l] e,.it (El.ow eL) [k] g],g,e,o)) fun k l o a1 g e a T U W=>?_;refine vL j T.le ?_;apply brQ U<;>intro U
 ·refine ixV j T.le U fun a2 a3 f U=>?_;refine cm0 U T (fun s c=>Zu5 s c slA slA) fun a4 a5 T U=>⟨_,_,rfl,?_⟩;apply brQ U<;>intro U
  ·exact endL
  ·refine ixV j T.le U fun a6 a7 a8 U=>?_;refine cm1 U T (fun s c=>Zhh s c slA) fun a9 aa ab T U=>⟨_,rfl,?_⟩;refine ZF oneA ?_;have T:=frA 0;have T:=T.copyF 0 rfl;refine piA U 2 fun ac ad ae T U=>?_;refine vL j T.le ?_;refine cm1 U T (fun s c=>ZrF s c slA) fun af ag ah T U=>⟨_,_,rfl,?_⟩;apply brQ U<;>intro U
   ·exact endX
   ·exact endL
 ·refine cm0 U T (fun s c=>Ztm s c slA slA) fun ai aj T U=>⟨_,rfl,?_⟩;exact endX
theorem Zz8 {j l i r} (U:ZmC j=some r) (e:CellsC (hcell h) l [.int .i64 j.Degree,i]) (c:sc h eL i j.Elements):zR 89 #[.pointer (some l)] h ψ (.bool r):=by
 refine zU [[4,18]] [[3]] Tryz.func89 fun T=>?_;refine ⟨fun k=>S ψ h k []/\Zp8 j=some r,?_,?_⟩
 ·refine kI e T.le 0 ?_;refine cm0 U T (fun s g=>Zak s g) fun u v T U=>⟨_,rfl,?_⟩;refine brZ fun U=>?_;refine kV e T.le 1 ?_;refine vL c T.le ?_;refine brZ fun U=>?_;refine kV e T.le 1 ?_;refine vL c T.le ?_;exact brQ U (fun U=>tZ) fun U=>tZ
 ·rintro _ k ⟨T,U⟩;refine lp1 U (nlS T) fun m y3 w a T U W=>?_;refine kV e T.le 1 ?_;refine vL c T.le ?_;apply brQ U<;>intro U
  ·refine kV e T.le 1 ?_;refine ixV c T.le U fun x y f U=>?_;refine cm0 U T (fun s g=>ZqR s g slA) fun a0 a1 T U=>⟨_,rfl,?_⟩;refine brZ fun U=>?_;refine kV e T.le 1 ?_;refine ixV c T.le U fun a2 a3 o U=>?_;refine vL o T.le ?_;refine kI e T.le 0 ?_;refine brZ fun U=>?_;refine brY fun U=>?_;refine kV e T.le 1 ?_;refine ixV c T.le U fun a4 a5 a6 U=>?_;refine kV e T.le 1 ?_;refine ixV c T.le U fun a7 a8 a9 U=>?_;refine cm0 U T (fun s g=>ZdW s g slA slA) fun aa ab T U=>⟨_,rfl,?_⟩;exact brQ U (fun U=>tZ) fun U=>tZ
  ·refine lsA ?_;refine cm1 U T (fun s g=>ZDs s g slA) fun ac ad ae T U=>⟨_,_,rfl,?_⟩;exact tZ
theorem ZtF {f y e r} (U:ZaA f=some r) (c:CellsC (hcell h) y [.int .i64 f.Kind,.int .i64 f.Size,e]) (a:SlC ψ eL e f.Rows):zR 58 #[.pointer (some y)] h ψ (.bool r):=by
 refine zO Tryz.func58 fun T=>?_;refine kI c T.le 0 ?_;apply brQ U<;>intro U
 ·refine kV c T.le 2 ?_;refine cl0 U T (fun s _ _ hx=>Zv4 s.fle hx (a.mono T.leF)) fun al am T U=>⟨_,rfl,?_⟩;refine brY fun U=>?_;refine kV c T.le 2 ?_;refine vL a T.leF ?_;refine kI c T.le 1 ?_;exact tZ
 ·apply brQ U<;>intro U
  ·refine lsA ?_;refine ZF (a.mono T.leF).one ?_;refine new_S T fun ao ap T=>?_;refine cl0 U T (fun a0 _ _ j=>ZI6 a0.fle j (T.cells 0 rfl) (a.mono T.leF)) fun aq ar T U=>⟨_,rfl,?_⟩;exact tZ
  ·apply brQ U<;>intro U
   ·refine kV c T.le 2 ?_;refine cl0 U T (fun a1 _ _ k=>ZCm a1.fle k (a.mono T.leF)) fun au av T U=>⟨_,rfl,?_⟩;refine brY fun U=>?_;refine kV c T.le 2 ?_;refine vL a T.leF ?_;refine kI c T.le 1 ?_;exact tZ
   ·apply brQ U<;>intro U
    ·refine cl1 U T (fun g _ _ l=>ZG1 g.fle l slA (a.mono g.bas)) fun aw ax ay T U=>⟨_,_,_,rfl,?_⟩;refine new_S T fun b3 az T=>?_;(iterate 3 refine boxA fun a9 T=>?_);refine kV c T.le 2 ?_;refine vL a T.leF ?_;refine brY fun U=>?_;refine cl0 U T (fun a2 _ _ o=>ZC1 a2.fle o (T.cells 0 rfl) slA) fun b0 aa T U=>⟨_,rfl,?_⟩;exact tZ
    ·apply brQ U<;>intro U
     ·refine cl2 U T (fun i _ _ u=>Zvw i.fle u slA (a.mono i.bas)) fun b1 b2 a6 ab T U=>⟨_,_,_,_,rfl,?_⟩;refine new_S T fun b4 ac T=>?_;(iterate 4 refine boxA fun ad T=>?_);refine cl0 U T (fun a3 _ _ v=>Zxo a3.fle v (T.cells 0 rfl) slA slA) fun b6 ae T U=>⟨_,rfl,?_⟩;exact tZ
     ·apply brQ U<;>intro U
      ·refine cl2 U T (fun a4 _ _ w=>Zwb a4.fle w slA (a.mono T.leF)) fun b7 b8 a7 af T U=>⟨_,_,_,rfl,?_⟩;refine new_S T fun b5 ag T=>?_;(iterate 2 refine boxA fun ah T=>?_);exact tZ
      ·refine brY fun U=>?_;refine lsA ?_;refine ZF (a.mono T.leF).one ?_;refine new_S T fun b9 ai T=>?_;refine cl0 U T (fun a5 _ _ x=>Zz8 a5.fle x (T.cells 0 rfl) (a.mono T.leF)) fun aj ak T U=>⟨_,rfl,?_⟩;exact tZ
theorem Znf {c v0 r} (U:ZgV c=some r) (g:sc h eI v0 c):zR 90 #[v0] h ψ (.string r):=by
 refine zU [[7,20,24]] [[13,20]] Tryz.func90 fun T=>?_;refine vL g T.le ?_;refine brZ fun U=>?_;refine vL g T.le ?_;refine brZ fun U=>?_;refine lp2 U (nlS T) fun m j k l a T U W=>?_;refine vL g T.le ?_;refine brY fun U=>?_;refine ixI slA U fun o U=>?_;refine cm0 U T (fun s i=>Zak s i) fun u v T U=>⟨_,rfl,?_⟩;refine brZ fun U=>?_;refine ⟨fun e f=>S ψ h f []/\Zh4 c k e=some a,?_,?_⟩
 ·refine brY fun U=>?_;refine gfA U fun U=>?_;exact tZ
 ·rintro _ e f ⟨T,U⟩;refine ixI slA U fun w U=>?_;refine cm0 U T (fun s i=>ZdX s i) fun x y T U=>⟨_,rfl,?_⟩;refine gfA U fun U=>?_;exact tZ
theorem ZE5 {l p0 o r} (U:Zlx l=some r) (c:CellsC (hcell h) p0 [.int .i64 l.Kind,.int .i64 l.Size,o]) (e:sc h eL o l.Rows):zR 59 #[.pointer (some p0)] h ψ (.string r):=by
 refine zS hψ ⟨an [[5,20,24]],an [[9,20]],[(1,[6])],[(1,⟨kdL [3,0,0,0,2,0,3,0,0,0,0,2,3,0,0,0],.sg [0] (.both (.fin (rgs [(1,6),(8,5),(7,1),(13,3)])) (.fin (rgs [(8,5),(1,7),(13,3)]))),true⟩)]⟩ Tryz.func59 fun T=>?_;obtain ⟨y,u,U⟩:=obind U;obtain ⟨ao,g,U⟩:=obind U;obtain ⟨ap,v,U⟩:=obind U;refine ⟨fun _=>False,?_⟩;have f:=T;have a:=eX h;refine ce1 T (fun s=>Zwv s.fle u) fun i aq xE T=>⟨_,rfl,eZ (a.trans xE),?_⟩;replace a:=a.trans xE;refine ⟨?_,?_⟩
 ·refine ZH ?_;refine kI c f.le 0 ?_;refine ZZ slA g fun a9 a0=>?_;refine ldS_C slA a0 g ?_;refine ⟨eZ a,?_⟩;refine ZH ?_;refine kI c f.le 1 ?_;refine ce0 T (fun s=>ZdX s.fle v) fun ah xE T=>⟨_,rfl,eZ (a.trans xE),?_⟩;replace a:=a.trans xE;refine gfA U fun U=>?_;refine gfA U fun U=>?_;refine gfA U fun U=>?_;refine kV c T.le 2 ?_;refine vL e T.le ?_;apply brQ U<;>intro U
  ·refine gfA U fun U=>?_;exact tZ
  ·refine lp2 (os:=[.it (El.ow El.str) [i] y]) U (pk T [0]) fun ar a5 a1 ai a6 T U W=>?_;refine kV c T.le 2 ?_;refine vL e T.le ?_;apply brQ U<;>intro U
   ·refine ⟨fun j w=>S ψ h w [.it (El.ow El.str) [i] y]/\Zfn l a1 j=some a6,?_,?_⟩
    ·apply brQ U<;>intro U
     ·refine gfA U fun U=>?_;exact endC
     ·exact endC
    ·rintro _ j w ⟨T,U⟩;refine kV c T.le 2 ?_;refine ixV e T.le U fun aa ab au U=>?_;refine cm0 U T (fun s u=>Znf s u slA) fun ac aj T U=>⟨_,rfl,?_⟩;refine gfA U fun U=>?_;exact endL
   ·exact endX
 ·refine ZH ?_;refine kI c f.le 1 ?_;refine ce0 T (fun s=>ZdX s.fle v) fun ak xE T=>⟨_,rfl,eZ (a.trans xE),?_⟩;replace a:=a.trans xE;refine ZH ?_;refine kI c f.le 0 ?_;refine ZZ slA g fun ad a2=>?_;refine ldS_C slA a2 g ?_;refine ⟨eZ a,?_⟩;refine gfA U fun U=>?_;refine gfA U fun U=>?_;refine gfA U fun U=>?_;refine kV c T.le 2 ?_;refine vL e T.le ?_;apply brQ U<;>intro U
  ·refine gfA U fun U=>?_;exact tZ
  ·refine lp2 (os:=[.it (El.ow El.str) [i] y]) U (pk T [0]) fun av a7 a3 al a8 T U W=>?_;refine kV c T.le 2 ?_;refine vL e T.le ?_;apply brQ U<;>intro U
   ·refine ⟨fun k x=>S ψ h x [.it (El.ow El.str) [i] y]/\Zfn l a3 k=some a8,?_,?_⟩
    ·apply brQ U<;>intro U
     ·refine gfA U fun U=>?_;exact endC
     ·exact endC
    ·rintro _ k x ⟨T,U⟩;refine kV c T.le 2 ?_;refine ixV e T.le U fun ae af aw U=>?_;refine cm0 U T (fun s u=>Znf s u slA) fun ag am T U=>⟨_,rfl,?_⟩;refine gfA U fun U=>?_;exact endL
   ·exact endX
theorem Zyw {w r} (U:Zmm w=some r)  :CallsH P 28 #[.string w] h (fun v h'=>∃ w0,v=.tuple #[.agg #[.int .i64 r.1.Kind,.int .i64 r.1.Size,w0],.bool r.2]/\S ψ h h' [.it (El.ow eL) [w0] r.1.Rows]):=by
 refine zU [[14,66]] [[8],[20]] Tryz.func28 fun T=>?_;refine new_S T fun b2 aw T=>?_;refine cm1 U T (fun s c=>Zf4 s c) fun f j ax T U=>⟨_,rfl,?_⟩;refine Zi slA ?_;apply brQ U<;>intro U
 ·(iterate 3 refine boxA fun ay T=>?_);refine lsA ?_;exact endX
 ·refine ixS slA U fun az U=>?_;refine cm0 U T (fun s c=>ZxP s c) fun g b0 T U=>⟨_,_,rfl,?_⟩;refine ixS slA U fun b1 U=>?_;refine cm0 U T (fun s c=>Zqf s c) fun i b3 T U=>⟨_,_,rfl,?_⟩;refine ⟨fun y=>S ψ h y [.it (El.ow El.str) [j] f,.box b2 [.int .i64 0,.int .i64 0,(.slice none 0 0)]]/\ZkZ w f g i=some r,?_,?_⟩
  ·apply brQ U<;>intro U
   ·(iterate 3 refine boxA fun ab T=>?_);refine lsA ?_;exact endX
   ·apply brQ U<;>intro U
    ·(iterate 3 refine boxA fun ac T=>?_);refine lsA ?_;exact endX
    ·exact endC
  ·rintro _ y ⟨T,U⟩;refine new_S T fun b9 ad T=>?_;(iterate 3 refine boxA fun ae T=>?_);refine ⟨fun k=>∃ xs l,S ψ h k [.box b9 [.int .i64 g.1,.int .i64 i.1,l],.it (El.ow El.str) [j] f,.box b2 [.int .i64 0,.int .i64 0,(.slice none 0 0)],.it (El.ow eL) [l] xs]/\Zin w g i xs=some r,?_,?_⟩
   ·refine ixS slA U fun b4 U=>?_;apply brQ U<;>intro U
    ·refine ixS slA U fun b5 U=>?_;refine cm1 U T (fun s c=>Zf4 s c) fun a8 a9 af T U=>⟨_,rfl,?_⟩;refine Zi slA ?_;apply brQ U<;>intro U
     ·(iterate 3 refine boxA fun ag T=>?_);refine lsA ?_;exact endX
     ·have T:=T.nilO (E:=eL);refine lw12 U (fun a0 e o=>([.it (El.ow El.str) [a9] a8,.box b9 [.int .i64 g.1,.int .i64 i.1,o],.it (El.ow El.str) [j] f,.box b2 [.int .i64 0,.int .i64 0,(.slice none 0 0)],.it (El.ow eL) [o] e],a0,e)) fun a0 ah e o a T U W=>?_;refine Zi slA ?_;apply brQ U<;>intro U
      ·refine ixS slA U fun b6 U=>?_;refine cm1 U T (fun s c=>ZA2 s c) fun b7 b8 ai T U=>⟨_,_,rfl,?_⟩;apply brQ U<;>intro U
       ·(iterate 3 refine boxA fun aj T=>?_);refine lsA ?_;exact endX
       ·refine bV T 2 2 ?_;refine ZF oneA ?_;have T:=frA 0;have T:=T.copyF 0 rfl;obtain ⟨ba,x,U⟩:=obind U;refine Zdp T 5 rfl rfl rfl x fun bb ak T=>?_;refine boxA fun al T=>?_;exact endL
      ·obtain ⟨xm,hq,rfl⟩:=omap U;obtain rfl:=oI W;exact ⟨_,_,pk T [1,2,3,4],hq⟩
    ·exact endX
   ·rintro _ k ⟨xs,l,T,U⟩;obtain ⟨bc,a4,U⟩:=obind U;obtain ⟨ao,bd,u,a1⟩:=id T;refine (ZtF (CLe.refl _) a4 (T.cells 0 rfl) slA).mono fun be ap ⟨a5,a2⟩=>⟨_,a5,?_⟩;replace T:=join0 u a1 (a2.weak u.fle);clear a2 u a1;apply brQ U<;>intro U
    ·(iterate 3 refine boxA fun aq T=>?_);refine lsA ?_;exact endX
    ·refine cl0 U T (fun aa _ _ a6=>ZE5 aa.fle a6 (T.cells 0 rfl) slA) fun bf ar T U=>⟨_,rfl,?_⟩;apply brQ U<;>intro U
     ·(iterate 3 refine boxA fun au T=>?_);refine lsA ?_;exact endX
     ·refine lsA ?_;(iterate 3 refine boxA fun av T=>?_);refine lsA ?_;exact endS
theorem ZFz {c r} (U:Zdv c=some r)  :CallsH P 12 #[.string c] h (fun v h'=>∃ w0,v=.tuple #[.agg #[.string r.1.Name,.int .i64 r.1.Object.Kind,.int .i64 r.1.Object.Size,w0,.string r.1.Key],.bool r.2]/\S ψ h h' [.it (El.ow eL) [w0] r.1.Object.Rows]):=by
 refine zS hψ ⟨an [[2,24]],an [[4,24],[6]],[],[(7,⟨[],.fin [0,1,2,3,4,6,5,7],false⟩)]⟩ Tryz.func12 fun T=>?_;refine new_S T fun i a1 T=>?_;refine ⟨fun e f=>S ψ h f [.box i [.string ⟨#[]⟩,.int .i64 0,.int .i64 0,(.slice none 0 0),.string ⟨#[]⟩]]/\Zdc c e=some r,?_,?_⟩
 ·refine lp1 (os:=[.box i [.string ⟨#[]⟩,.int .i64 0,.int .i64 0,(.slice none 0 0),.string ⟨#[]⟩]]) U (pk T [0]) fun m l o a T U W=>?_;apply brQ U<;>intro U
  ·refine stI U fun a2 U=>?_;apply brQ U<;>intro U
   ·exact endL
   ·obtain ⟨u,j,rfl⟩:=omap U;obtain rfl:=oI W;exact ⟨pk T [0],j⟩
  ·obtain ⟨u,j,rfl⟩:=omap U;obtain rfl:=oI W;exact ⟨pk T [0],j⟩
 ·rintro _ e f ⟨T,U⟩;refine ⟨fun g=>S ψ h g [.box i [.string ⟨#[]⟩,.int .i64 0,.int .i64 0,(.slice none 0 0),.string ⟨#[]⟩]]/\ZmX c e=some r,?_,?_⟩
  ·apply brQ U<;>intro U
   ·(iterate 5 refine boxA fun w T=>?_);refine lsA ?_;exact endX
   ·refine ssC U fun a3 U=>?_;refine cm0 U T (fun s k=>ZHo s k) fun a4 x T U=>⟨_,rfl,?_⟩;apply brQ U<;>intro U
    ·(iterate 5 refine boxA fun y T=>?_);refine lsA ?_;exact endX
    ·exact endC
  ·rintro _ g ⟨T,U⟩;refine ssB U fun a5 U=>?_;refine cm1 U T (fun s k=>Zyw s k) fun a6 a7 a8 T U=>⟨_,_,_,_,rfl,?_⟩;refine new_S T fun b5 a9 T=>?_;(iterate 3 refine boxA fun aa T=>?_);refine ssC U fun ab U=>?_;refine lsA ?_;(iterate 5 refine boxA fun a0 T=>?_);refine lsA ?_;exact endS
theorem ZG6 {y v0 y1 r} (U:ZjB y y1=some r) (f0:sc h eL v0 y):CallsH P 143 #[v0,.bool y1] h (fun v h'=>∃ w0 w1,v=.agg #[w0,w1]/\S ψ h h' [.it oL [w0] r.Colors,.it (El.ow Zg) [w1] r.Edges]):=by
 refine zU [[4,42],[11,54],[15,60],[18,66],[21,72]] [[9,48],[24,507]] Tryz.func143 fun T=>?_;refine new_S T fun k ao T=>?_;refine vL f0 T.le ?_;refine new_S T fun l ap T=>?_;(iterate 2 refine boxA fun aq T=>?_);have T:=T.nilO (E:=eI);refine lw12 U (fun y7 xs i=>([.box l [i,(.slice none 0 0)],.box k [(.slice none 0 0),(.slice none 0 0)],.it oL [i] xs],y7,xs)) fun y7 ar xs i a T U W=>?_;apply brQ U<;>intro U
 ·refine ⟨fun y8 a3=>S ψ h a3 [.box l [i,(.slice none 0 0)],.box k [(.slice none 0 0),(.slice none 0 0)],.it oL [i] xs]/\Zlw y7 xs y8=some a,?_,?_⟩
  ·apply brQ U<;>intro U
   ·refine gzA U fun U=>?_;exact endC
   ·exact endC
  ·rintro _ y8 a3 ⟨T,U⟩;refine bV T 0 0 ?_;obtain ⟨au,hx,U⟩:=obind U;refine ZaY T 2 rfl (fun _=>⟨rfl,rfl⟩) rfl rfl hx fun av aw T=>?_;refine boxA fun ax T=>?_;exact endL
 ·refine lw12 U (fun y9 e c=>([.box l [c,(.slice none 0 0)],.box k [(.slice none 0 0),(.slice none 0 0)],.it oL [c] e],y9,e)) fun y9 ae e c ay T U W=>?_;apply brQ U<;>intro U
  ·refine bV T 0 0 ?_;obtain ⟨az,a6,U⟩:=obind U;refine ZaY T 2 rfl (fun _=>⟨rfl,rfl⟩) rfl rfl a6 fun b0 af T=>?_;refine boxA fun ag T=>?_;exact endL
  ·have T:=T.nilO (E:=Zg);refine lw12 U (fun u o a0=>([.box l [c,a0],.box k [(.slice none 0 0),(.slice none 0 0)],.it oL [c] e,.it (El.ow Zg) [a0] o],u,o)) fun u ah o a0 b1 T U W=>?_;apply brQ U<;>intro U
   ·refine lw12 U (fun w s a1=>([.box l [c,a1],.box k [(.slice none 0 0),(.slice none 0 0)],.it oL [c] e,.it (El.ow Zg) [a1] s],w,s)) fun w ai s a1 b2 T U W=>?_;apply brQ U<;>intro U
    ·refine lw12 U (fun x g j=>([.box l [c,j],.box k [(.slice none 0 0),(.slice none 0 0)],.it oL [c] e,.it (El.ow Zg) [j] g],x,g)) fun x aj g j ac T U W=>?_;apply brQ U<;>intro U
     ·refine ⟨fun a4 a2=>S ψ h a2 [.box l [c,j],.box k [(.slice none 0 0),(.slice none 0 0)],.it oL [c] e,.it (El.ow Zg) [j] g]/\ZcS y u w x g a4=some ac,?_,?_⟩
      ·apply brQ U<;>intro U
       ·exact endC
       ·apply brQ U<;>intro U
        ·exact endC
        ·refine ixV f0 T.le U fun b3 b5 f U=>?_;refine ixI slA U fun b7 U=>?_;exact endC
      ·rintro _ a4 a2 ⟨T,U⟩;apply brQ U<;>intro U
       ·refine bV T 0 1 ?_;obtain ⟨b8,a7,U⟩:=obind U;refine ZaY T 3 rfl (fun _=>⟨[.int .i64 u],[.int .i64 (ε.wrap ((ε.wrap ((ε.wrap (3*(y.length:Int)))+(ε.wrap (w*(y.length:Int)))))+x))],[],[],rfl,rfl,⟨rfl,rfl⟩,⟨rfl,rfl⟩⟩) rfl rfl a7 fun b9 ak T=>?_;refine boxA fun al T=>?_;exact endL
       ·exact endL
     ·exact endX
    ·exact endX
   ·refine lsA ?_;(iterate 2 refine boxA fun am T=>?_);refine lsA ?_;exact endX
theorem ZAU {c v0 classe1 r} (U:Zf1 c classe1=some r) (f:sc h eL v0 c):CallsH P 91 #[v0,.bool classe1] h (fun v h'=>∃ w0 w1,v=.tuple #[.agg #[w0,w1],.int .i64 r.2]/\S ψ h h' [.it oL [w0] r.1.Colors,.it (El.ow Zg) [w1] r.1.Edges]):=by
 refine zO Tryz.func91 fun T=>?_;refine new_S T fun x i T=>?_;refine cm0 U T (fun s a=>Zv4 s a slA) fun y j T U=>⟨_,rfl,?_⟩;apply brQ U<;>intro U
 ·(iterate 2 refine boxA fun k T=>?_);refine lsA ?_;exact endX
 ·refine vL f T.le ?_;apply brQ U<;>intro U
  ·(iterate 2 refine boxA fun l T=>?_);refine lsA ?_;exact endX
  ·refine cm2 U T (fun s a=>ZG6 s a slA) fun o u e w T U=>⟨_,_,rfl,?_⟩;(iterate 2 refine boxA fun g T=>?_);refine lsA ?_;exact endS
theorem ZD3 {x p0 k r} (U:ZkG x=some r) (l:CellsC (hcell h) p0 [.int .i64 x.Points,k]) (g:sc h eL k x.Blocks):CallsH P 92 #[.pointer (some p0)] h (fun v h'=>∃ w0 w1,v=.tuple #[.agg #[w0,w1],.int .i64 r.2]/\S ψ h h' [.it oL [w0] r.1.Colors,.it (El.ow Zg) [w1] r.1.Edges]):=by
 refine zT [[6,36],[10,42],[14,48],[17,54]] Tryz.func92 fun T=>?_;refine new_S T fun y ak T=>?_;refine lsA ?_;refine vL g T.le ?_;apply brQ U<;>intro U
 ·(iterate 2 refine boxA fun al T=>?_);refine lsA ?_;exact endX
 ·refine new_S T fun b5 am T=>?_;(iterate 2 refine boxA fun ao T=>?_);have T:=T.nilO (E:=eI);refine lw12 U (fun y6 xs o=>([.box b5 [o,(.slice none 0 0)],.box y [(.slice none 0 0),(.slice none 0 0)],.it oL [o] xs],y6,xs)) fun y6 ap xs o a T U W=>?_;apply brQ U<;>intro U
  ·refine bV T 0 0 ?_;obtain ⟨aq,hx,U⟩:=obind U;refine ZaY T 2 rfl (fun _=>⟨rfl,rfl⟩) rfl rfl hx fun ar au T=>?_;refine boxA fun a9 T=>?_;exact endL
  ·refine lw12 U (fun y7 c e=>([.box b5 [e,(.slice none 0 0)],.box y [(.slice none 0 0),(.slice none 0 0)],.it oL [e] c],y7,c)) fun y7 aa c e av T U W=>?_;refine kV l T.le 1 ?_;refine vL g T.le ?_;apply brQ U<;>intro U
   ·refine bV T 0 0 ?_;obtain ⟨aw,a2,U⟩:=obind U;refine ZaY T 2 rfl (fun _=>⟨rfl,rfl⟩) rfl rfl a2 fun ax ab T=>?_;refine boxA fun ac T=>?_;exact endL
   ·have T:=T.nilO (E:=Zg);refine lw12 U (fun y8 i u=>([.box b5 [e,u],.box y [(.slice none 0 0),(.slice none 0 0)],.it oL [e] c,.it (El.ow Zg) [u] i],y8,i)) fun y8 ad i u ay T U W=>?_;apply brQ U<;>intro U
    ·refine lw12 U (fun y9 j w=>([.box b5 [e,w],.box y [(.slice none 0 0),(.slice none 0 0)],.it oL [e] c,.it (El.ow Zg) [w] j],y9,j)) fun y9 ae j w az T U W=>?_;refine kV l T.le 1 ?_;refine vL g T.le ?_;apply brQ U<;>intro U
     ·refine kV l T.le 1 ?_;refine ixV g T.le U fun b0 b1 f U=>?_;refine cm0 U T (fun s hx=>Ztg s hx slA) fun b3 af T U=>⟨_,rfl,?_⟩;apply brQ U<;>intro U
      ·refine bV T 0 1 ?_;obtain ⟨b4,a5,U⟩:=obind U;refine ZaY T 3 rfl (fun _=>⟨[.int .i64 y8],[.int .i64 (ε.wrap (x.Points+y9))],[],[],rfl,rfl,⟨rfl,rfl⟩,⟨rfl,rfl⟩⟩) rfl rfl a5 fun b6 ag T=>?_;refine boxA fun ah T=>?_;exact endL
      ·exact endL
     ·exact endX
    ·refine bV T 0 1 ?_;refine Zi slA ?_;apply brQ U<;>intro U
     ·(iterate 2 refine boxA fun ai T=>?_);refine lsA ?_;exact endX
     ·refine lsA ?_;(iterate 2 refine boxA fun aj T=>?_);refine lsA ?_;exact endX
theorem ZES {e k c l v1 o u r} (U:ZjI e l o=some r) (a2:CellsC (hcell h) k [.int .i64 e.Prime,.int .i64 e.Degree,c]) (y:sc h eI c e.Poly) (v:sc h eI v1 l) (f2:sc h eI u o):zL 210 #[.pointer (some k),v1,u] h ψ eI r:=by
 refine zS hψ ⟨an [[3,48]],[],[],[(7,⟨[],.fin (rgs [(2,10),(0,2),(12,2)]),false⟩)]⟩ Tryz.func210 fun T=>?_;refine vL v T.le ?_;refine mkO eI U fun a3 w a4 T U=>?_;refine lw11 U (fun x xs=>([.it oL [w] xs],x,xs)) fun x a5 xs a T U W=>?_;refine vL v T.le ?_;apply brQ U<;>intro U
 ·refine ixI slA U fun a6 U=>?_;apply brQ U<;>intro U
  ·refine ixI slA U fun a7 U=>?_;refine ixA slA U fun a8 a9 f g U=>?_;refine st1_S T 0 rfl f g rfl (fun _=>⟨rfl,rfl⟩) fun aa T=>?_;dsimp at T;exact endL
  ·refine ixI slA U fun ab U=>?_;refine ixI slA U fun ac U=>?_;refine cm0 U T (fun s hx=>ZuD s hx slA slA) fun ad ae T U=>⟨_,rfl,?_⟩;refine ixA slA U fun af ag i j U=>?_;refine st1_S T 0 rfl i j rfl (fun _=>⟨rfl,rfl⟩) fun ah T=>?_;dsimp at T;exact endL
 ·exact endX
theorem ZDo {k p0 l o r} (U:ZjU k=some r) (u:CellsC (hcell h) p0 [.int .i64 k.Field.Prime,.int .i64 k.Field.Degree,l,o]) (ag:sc h eI l k.Field.Poly) (c:sc h eL o k.Rows):zL 145 #[.pointer (some p0)] h ψ eL r:=by
 refine zS hψ ⟨an [[4,19,30],[8,37,42],[13,49,54],[16,49,60]],[],[],[(10,⟨[],.fin (rgs [(1,13),(0,1),(14,2)]),false⟩),(18,⟨[],.fin (rgs [(1,13),(0,1),(14,2)]),false⟩)]⟩ Tryz.func145 fun T=>?_;refine kV u T.le 3 ?_;refine ixV c T.le U fun am ao f U=>?_;refine vL f T.le ?_;refine mkO eI U fun g i ap T U=>?_;refine ZF oneA ?_;have T:=frA 0;have T:=T.copyF 0 rfl;refine Zme T fun aq ar T=>?_;refine cl0 U T (fun s _ _ a1=>Zms s.fle a1 (CellsC.part 0 3 slA) slA) fun au av T U=>⟨_,rfl,?_⟩;refine lw21 U (fun v y5 j=>([.it (El.ow eL) [v] j,.it eL [i] g],j,y5)) fun v y5 aw j a T U W=>?_;refine kV u T.le 3 ?_;refine vL c T.le ?_;apply brQ U<;>intro U
 ·refine neA eL fun ax ay T=>?_;refine lw21 U (fun y y7 w=>([.it (El.ow eL) [y] w,.it (El.ow eL) [v] j,.it eL [i] g],w,y7)) fun y y7 az w b0 T U W=>?_;apply brQ U<;>intro U
  ·refine kV u T.le 3 ?_;refine ixV c T.le U fun b1 b2 b3 U=>?_;refine cl1 U T (fun ac _ _ a2=>ZrK ac.fle a2 (CellsC.part 0 3 slA) slA slA) fun b4 b5 b6 T U=>⟨_,rfl,?_⟩;refine ZF oneA ?_;have T:=frA 0;have T:=T.copyF 0 rfl;refine piA U 1 fun b7 b8 b9 T U=>?_;exact endL
  ·refine neA eL fun ba ah T=>?_;refine lw21 U (fun v8 y9 y8=>([.it (El.ow eL) [v8] y8,.it (El.ow eL) [y] w,.it (El.ow eL) [v] j,.it eL [i] g],y8,y9)) fun v8 y9 ai y8 bb T U W=>?_;refine Zi slA ?_;apply brQ U<;>intro U
   ·refine lw21 U (fun x a0 e=>([.it (El.ow eL) [x] e,.it (El.ow eL) [y] w,.it (El.ow eL) [v] j,.it eL [i] g],e,a0)) fun x a0 aj e bc T U W=>?_;apply brQ U<;>intro U
    ·refine ixA slA U fun bd be a4 a5 U=>?_;refine ZaN T 2 rfl a4 a5 fun bf T=>?_;refine ixA slA U fun bg bh a6 a7 U=>?_;refine ZaN T 2 rfl a6 a7 fun bi T=>?_;refine cl1 U T (fun af _ _ a8=>ZES af.fle a8 (CellsC.part 0 3 slA) slA slA slA) fun bj bk ak T U=>⟨_,rfl,?_⟩;refine ZF oneA ?_;have T:=frA 0;have T:=T.copyF 0 rfl;refine piA U 3 fun bm bn al T U=>?_;exact endL
    ·exact endX
   ·exact endX
 ·exact endX
end
end Go.Proofs.YtdmledeildfidaaGreatDoor
