import Derived.Test.YtahnjnfpjcfklaaGreatDoorVcLw
import Derived.Test.YtahnjnfpjcfklaaGreatDoorVcAu
import Derived.Test.YtahnjnfpjcfklaaGreatDoorVcDn
import Derived.Test.YtahnjnfpjcfklaaGreatDoorVcRd
import Derived.Test.YtahnjnfpjcfklaaGreatDoorVcTxt
import Derived.Test.YtahnjnfpjcfklaaGreatDoorVcQ
import Derived.Test.YtahnjnfpjcfklaaGreatDoorPuFns
import Derived.Test.YtahnjnfpjcfklaaGreatDoorVcFns
import Derived.Test.YtahnjnfpjcfklaaGreatDoorVcFld
import Derived.Test.YtahnjnfpjcfklaaGreatDoorVcCl
import Derived.Test.YtahnjnfpjcfklaaGreatDoorVcCpt
import Derived.Test.YtahnjnfpjcfklaaGreatDoorVcGrow
import Derived.Test.YtahnjnfpjcfklaaGreatDoorVcSortI
import Derived.Test.YtahnjnfpjcfklaaGreatDoorVcSortK
import Derived.Test.YtahnjnfpjcfklaaGreatDoorVcLay
namespace Go.Proofs.YtahnjnfpjcfklaaGreatDoor
open Go Go.Vc
set_option linter.unusedVariables false
set_option linter.unusedSimpArgs false
set_option maxRecDepth 20000
def Zyn:El Za:=El.iso (El.pair (El.ow (El.int .u8)) (El.pair eI (El.int .u64))) (fun x=>(x.qcode,x.qat,x.qseed)) (Za.mk ([]:List Int) (0:Int) (0:Int)) rfl
def ZnG:El Za:=El.iso (El.pair (El.sl (El.int .u8)) (El.pair eI (El.int .u64))) (fun x=>(x.qcode,x.qat,x.qseed)) (Za.mk ([]:List Int) (0:Int) (0:Int)) rfl
theorem frzo_T_spec_l00Src:Frz Zyn ZnG:=Zah (ZK (ZR (Zi _)) (ZK (Zi _) (Zi _)))
theorem frzf_T_spec_l00Src:Frz ZnG ZnG:=Zah (ZK (Zaj _) (ZK (Zi _) (Zi _)))
def Zzx:El ZD:=El.iso (El.pair eI (El.pair eI (El.ow oL))) (fun x=>(x.Levels,x.Columns,x.Rows)) (ZD.mk (0:Int) (0:Int) ([]:List (List Int))) rfl
def Zoc:El ZD:=El.iso (El.pair eI (El.pair eI (El.sl eL))) (fun x=>(x.Levels,x.Columns,x.Rows)) (ZD.mk (0:Int) (0:Int) ([]:List (List Int))) rfl
theorem frzo_T_impl_Array:Frz Zzx Zoc:=Zah (ZK (Zi _) (ZK (Zi _) (ZR (ZR (Zi _)))))
theorem frzf_T_impl_Array:Frz Zoc Zoc:=Zah (ZK (Zi _) (ZK (Zi _) (Zaj _)))
def Zqq:El Zb:=El.iso (El.pair eI (El.pair eI oL)) (fun x=>(x.Prime,x.Degree,x.Poly)) (Zb.mk (0:Int) (0:Int) ([]:List Int)) rfl
def Zje:El Zb:=El.iso (El.pair eI (El.pair eI eL)) (fun x=>(x.Prime,x.Degree,x.Poly)) (Zb.mk (0:Int) (0:Int) ([]:List Int)) rfl
theorem frzo_T_impl_Field:Frz Zqq Zje:=Zah (ZK (Zi _) (ZK (Zi _) (ZR (Zi _))))
theorem frzf_T_impl_Field:Frz Zje Zje:=Zah (ZK (Zi _) (ZK (Zi _) (Zaj _)))
def ZHg:El ZU:=El.iso (El.pair Zqq (El.ow oL)) (fun x=>(x.Field,x.Rows)) (ZU.mk (Zb.mk (0:Int) (0:Int) ([]:List Int)) ([]:List (List Int))) rfl
def Zpa:El ZU:=El.iso (El.pair Zje (El.sl eL)) (fun x=>(x.Field,x.Rows)) (ZU.mk (Zb.mk (0:Int) (0:Int) ([]:List Int)) ([]:List (List Int))) rfl
theorem frzo_T_impl_Code:Frz ZHg Zpa:=Zah (ZK frzo_T_impl_Field (ZR (ZR (Zi _))))
theorem frzf_T_impl_Code:Frz Zpa Zpa:=Zah (ZK frzf_T_impl_Field (Zaj _))
def Zwu:El Zw:=El.iso (El.pair eI (El.ow oL)) (fun x=>(x.Points,x.Blocks)) (Zw.mk (0:Int) ([]:List (List Int))) rfl
def Zpb:El Zw:=El.iso (El.pair eI (El.sl eL)) (fun x=>(x.Points,x.Blocks)) (Zw.mk (0:Int) ([]:List (List Int))) rfl
theorem frzo_T_impl_Design:Frz Zwu Zpb:=Zah (ZK (Zi _) (ZR (ZR (Zi _))))
theorem frzf_T_impl_Design:Frz Zpb Zpb:=Zah (ZK (Zi _) (Zaj _))
def ZBf:El Zf:=El.iso (El.pair eI (El.pair eI (El.ow oL))) (fun x=>(x.Kind,x.Size,x.Rows)) (Zf.mk (0:Int) (0:Int) ([]:List (List Int))) rfl
def Zlr:El Zf:=El.iso (El.pair eI (El.pair eI (El.sl eL))) (fun x=>(x.Kind,x.Size,x.Rows)) (Zf.mk (0:Int) (0:Int) ([]:List (List Int))) rfl
theorem frzo_T_impl_Object:Frz ZBf Zlr:=Zah (ZK (Zi _) (ZK (Zi _) (ZR (ZR (Zi _)))))
theorem frzf_T_impl_Object:Frz Zlr Zlr:=Zah (ZK (Zi _) (ZK (Zi _) (Zaj _)))
def ZtQ:El Zd:=El.iso (El.pair eI eI) (fun x=>(x.A,x.B)) (Zd.mk (0:Int) (0:Int)) rfl
def Zx:El Zd:=El.iso (El.pair eI eI) (fun x=>(x.A,x.B)) (Zd.mk (0:Int) (0:Int)) rfl
theorem frzo_T_impl_Edge:Frz ZtQ Zx:=Zah (ZK (Zi _) (Zi _))
theorem frzf_T_impl_Edge:Frz Zx Zx:=Zah (ZK (Zi _) (Zi _))
theorem ZpM:Plain Zx:=ZGd (Zye (ZdK _) (ZdK _))
theorem ZaI {φ:CM} {L:Rws} {cs:List Value} {x:Zd} (h:Zx.R φ L cs x):cs=[.int .i64 x.A,.int .i64 x.B]:=by
  obtain ⟨_,_,_,_,rfl,_,a,e⟩:=h;obtain ⟨_,rfl⟩:=a;obtain ⟨_,rfl⟩:=e;rfl
def Zpr:El Zc:=El.iso (El.pair oL (El.ow ZtQ)) (fun x=>(x.Colors,x.Edges)) (Zc.mk ([]:List Int) ([]:List Zd)) rfl
def Zhl:El Zc:=El.iso (El.pair eL (El.sl Zx)) (fun x=>(x.Colors,x.Edges)) (Zc.mk ([]:List Int) ([]:List Zd)) rfl
theorem frzo_T_impl_Graph:Frz Zpr Zhl:=Zah (ZK (ZR (Zi _)) (ZR frzo_T_impl_Edge))
theorem frzf_T_impl_Graph:Frz Zhl Zhl:=Zah (ZK (Zaj _) (Zaj _))
def Zzd:El Zai:=El.iso (El.pair eI (El.ow oL)) (fun x=>(x.Degree,x.Elements)) (Zai.mk (0:Int) ([]:List (List Int))) rfl
def ZmG:El Zai:=El.iso (El.pair eI (El.sl eL)) (fun x=>(x.Degree,x.Elements)) (Zai.mk (0:Int) ([]:List (List Int))) rfl
theorem frzo_T_impl_Group:Frz Zzd ZmG:=Zah (ZK (Zi _) (ZR (ZR (Zi _))))
theorem frzf_T_impl_Group:Frz ZmG ZmG:=Zah (ZK (Zi _) (Zaj _))
def ZyP:El Z7:=El.iso (El.pair eI (El.pair (El.ow oL) (El.pair (El.ow oL) (El.pair (El.ow oL) oL)))) (fun x=>(x.qq,x.qadd,x.qsub,x.qmul,x.qinv)) (Z7.mk (0:Int) ([]:List (List Int)) ([]:List (List Int)) ([]:List (List Int)) ([]:List Int)) rfl
def ZpO:El Z7:=El.iso (El.pair eI (El.pair (El.sl eL) (El.pair (El.sl eL) (El.pair (El.sl eL) eL)))) (fun x=>(x.qq,x.qadd,x.qsub,x.qmul,x.qinv)) (Z7.mk (0:Int) ([]:List (List Int)) ([]:List (List Int)) ([]:List (List Int)) ([]:List Int)) rfl
theorem frzo_T_impl_arithmetic:Frz ZyP ZpO:=Zah (ZK (Zi _) (ZK (ZR (ZR (Zi _))) (ZK (ZR (ZR (Zi _))) (ZK (ZR (ZR (Zi _))) (ZR (Zi _))))))
theorem frzf_T_impl_arithmetic:Frz ZpO ZpO:=Zah (ZK (Zi _) (ZK (Zaj _) (ZK (Zaj _) (ZK (Zaj _) (Zaj _)))))
def ZuN:El Zad:=El.iso (El.pair eI El.bool) (fun x=>(x.qleft,x.qspent)) (Zad.mk (0:Int) false) rfl
def Zjx:El Zad:=El.iso (El.pair eI El.bool) (fun x=>(x.qleft,x.qspent)) (Zad.mk (0:Int) false) rfl
theorem frzo_T_impl_counter:Frz ZuN Zjx:=Zah (ZK (Zi _) ZdZ)
theorem frzf_T_impl_counter:Frz Zjx Zjx:=Zah (ZK (Zi _) ZdZ)
def ZAg:El ZE:=El.iso (El.pair ZuN (El.pair Zpr (El.pair (El.ow oL) (El.pair eI (El.pair eI (El.pair Zpr (El.ow oL))))))) (fun x=>(x.qcounter,x.qgraph,x.qlists,x.qnodes,x.qleaves,x.qform,x.qbest)) (ZE.mk (Zad.mk (0:Int) false) (Zc.mk ([]:List Int) ([]:List Zd)) ([]:List (List Int)) (0:Int) (0:Int) (Zc.mk ([]:List Int) ([]:List Zd)) ([]:List (List Int))) rfl
def ZpZ:El ZE:=El.iso (El.pair Zjx (El.pair Zhl (El.pair (El.sl eL) (El.pair eI (El.pair eI (El.pair Zhl (El.sl eL))))))) (fun x=>(x.qcounter,x.qgraph,x.qlists,x.qnodes,x.qleaves,x.qform,x.qbest)) (ZE.mk (Zad.mk (0:Int) false) (Zc.mk ([]:List Int) ([]:List Zd)) ([]:List (List Int)) (0:Int) (0:Int) (Zc.mk ([]:List Int) ([]:List Zd)) ([]:List (List Int))) rfl
theorem frzo_T_impl_explorer:Frz ZAg ZpZ:=Zah (ZK frzo_T_impl_counter (ZK frzo_T_impl_Graph (ZK (ZR (ZR (Zi _))) (ZK (Zi _) (ZK (Zi _) (ZK frzo_T_impl_Graph (ZR (ZR (Zi _)))))))))
theorem frzf_T_impl_explorer:Frz ZpZ ZpZ:=Zah (ZK frzf_T_impl_counter (ZK frzf_T_impl_Graph (ZK (Zaj _) (ZK (Zi _) (ZK (Zi _) (ZK frzf_T_impl_Graph (Zaj _)))))))
theorem zS {ψ:CM} {f:FuncId} {fn:Func} {g:List Value} {h:Heap} {R:Value->Heap->Prop} (hψ:CLe ψ (hcell h)) (A:Ann) (j:P.funcs[f]?=some fn) (a:S ψ h h []->vcFn ctx A fn g h R)
    (e:((match fn.body with|some c=>aOk ctx A c&&cOk fn.ntmps c|none=>false)&&Nat.ble g.length fn.ntmps)=true:=by kernel_rfl):CallsH P f g.toArray h R:=zv A j (a (S.start hψ)) e
theorem zU {ψ:CM} {f:FuncId} {fn:Func} {g:List Value} {h:Heap} {R:Value->Heap->Prop} (l c:List (List Nat)) (j:P.funcs[f]?=some fn) (a:S ψ h h []->vcFn ctx ⟨an l,an c,[],[]⟩ fn g h R) (hψ:CLe ψ (hcell h):=by exact hψ)
    (e:((match fn.body with|some k=>aOk ctx ⟨an l,an c,[],[]⟩ k&&cOk fn.ntmps k|none=>false)&&Nat.ble g.length fn.ntmps)=true:=by kernel_rfl):CallsH P f g.toArray h R:=zv _ j (a (S.start hψ)) e
theorem zT {ψ:CM} {f:FuncId} {fn:Func} {g:List Value} {h:Heap} {R:Value->Heap->Prop} (l:List (List Nat)) (j:P.funcs[f]?=some fn) (a:S ψ h h []->vcFn ctx ⟨an l,[],[],[]⟩ fn g h R) (hψ:CLe ψ (hcell h):=by exact hψ)
    (e:((match fn.body with|some k=>aOk ctx ⟨an l,[],[],[]⟩ k&&cOk fn.ntmps k|none=>false)&&Nat.ble g.length fn.ntmps)=true:=by kernel_rfl):CallsH P f g.toArray h R:=zv _ j (a (S.start hψ)) e
theorem zO {ψ:CM} {f:FuncId} {fn:Func} {g:List Value} {h:Heap} {R:Value->Heap->Prop} (j:P.funcs[f]?=some fn) (a:S ψ h h []->vcFn ctx annO fn g h R) (hψ:CLe ψ (hcell h):=by exact hψ)
    (e:((match fn.body with|some k=>aOk ctx annO k&&cOk fn.ntmps k|none=>false)&&Nat.ble g.length fn.ntmps)=true:=by kernel_rfl):CallsH P f g.toArray h R:=zv _ j (a (S.start hψ)) e
theorem frzA {α:Type} {E a:El α} (h:Frz E a:=by first|exact Zi _|exact ZdZ|exact Zyl|exact Zaj _|exact ZR frzA|exact frzo_T_spec_l00Src|exact frzf_T_spec_l00Src|exact frzo_T_impl_Array|exact frzf_T_impl_Array|exact frzo_T_impl_Field|exact frzf_T_impl_Field|exact frzo_T_impl_Code|exact frzf_T_impl_Code|exact frzo_T_impl_Design|exact frzf_T_impl_Design|exact frzo_T_impl_Object|exact frzf_T_impl_Object|exact frzo_T_impl_Edge|exact frzf_T_impl_Edge|exact frzo_T_impl_Graph|exact frzf_T_impl_Graph|exact frzo_T_impl_Group|exact frzf_T_impl_Group|exact frzo_T_impl_arithmetic|exact frzf_T_impl_arithmetic|exact frzo_T_impl_counter|exact frzf_T_impl_counter|exact frzo_T_impl_explorer|exact frzf_T_impl_explorer|fail):Frz E a:=h
abbrev zR (f:FuncId) (a:Array Value) (h:Heap) (ψ:CM) (u:Value):Prop:=CallsH P f a h fun v h'=>v=u/\S ψ h h' []
abbrev zL {α:Type} (f:FuncId) (a:Array Value) (h:Heap) (ψ:CM) (E:El α) (r:List α):Prop:=CallsH P f a h fun v h'=>∃ w0:Value,v=w0/\S ψ h h' [.it (El.ow E) [w0] r]
set_option maxHeartbeats 4000000
attribute [local irreducible] CallsQ vLen vIdx IntKind.wrap hcell vNew vNewS vSliceS vStore1 vAppend vMake vCopy vB2S vS2B vNilS vSliceStr
section
variable {ψ:CM} {h:Heap} (hψ:CLe ψ (hcell h))
include hψ
theorem ZBT {a v0 e v1 r} (N:ZlO a e=some r) (f:sc h (El.int .u8) v0 a) (g:sc h (El.int .u8) v1 e):zR 4 #[v0,v1] h ψ (.bool r):=by
 refine zO Tryz.func4 fun C=>?_;refine vL f C.le ?_;refine brZ fun N=>?_;refine vL g C.le ?_;exact tZ
theorem ZsJ {a v0 r} (N:Zh4 a=some r) (f:SlC ψ (El.int .u8) v0 a):CallsH P 16 #[v0] h (fun v j=>∃ e w1,v=.pointer (some ⟨e,0,none⟩)/\S ψ h j [.box e [w1,.int .i64 r.qat,.int .u64 r.qseed],.it (El.sl (El.int .u8)) [w1] r.qcode]):=by
 refine zO Tryz.func16 fun C=>?_;refine Zh (f.mono C.leF).one ?_;refine new_S C fun i g C=>?_;have C:=C.arg f;exact endS
end
theorem ZtJ {ψ:CM} {i h:Heap} {os:List Ob} {f:Za} {j:Nat} {a:List Value} {e:Value} {r:Int×Za} (N:Zey f=some r) (C:S ψ i h (.box j (e::.int .i64 f.qat::.int .u64 f.qseed::a)::os)) (g:SlC (UB ψ i) (El.int .u8) e f.qcode):CallsH P 101 #[.pointer (some ⟨j,0,none⟩)] h (fun v x=>v=.int .i64 r.1/\S ψ i x (.box j (e::.int .i64 r.2.qat::.int .u64 r.2.qseed::a)::os)):=by
 refine zv ⟨[],an [[4,18]],[],[]⟩ Tryz.func101 ?_;refine ⟨fun l k=>S ψ i k (.box j (e::.int .i64 f.qat::.int .u64 f.qseed::a)::os)/\Zha f l=some r,?_,?_⟩
 ·refine lsA ?_;refine vL g C.leU ?_;apply brQ N<;>intro N
  ·refine lsA ?_;refine ixI slA N fun s N=>?_;exact ⟨pkT C 1 [0],N⟩
  ·exact ⟨pkT C 1 [0],N⟩
 ·rintro _ l k ⟨C,N⟩;refine bI C 0 1 ?_;refine boxA fun u C=>?_;refine bI C 0 2 ?_;refine boxA fun w C=>?_;refine lsA ?_;refine vL g C.leU ?_;apply brQ N<;>intro N
  ·obtain rfl:=oI N;exact ⟨rfl,pkT C 1 [0]⟩
  ·refine bI C 0 2 ?_;obtain ⟨_,o,N⟩:=obind N;refine ⟨Zup o,?_⟩;obtain rfl:=oI N;exact ⟨rfl,pkT C 1 [0]⟩
theorem ZH {ψ:CM} {o h:Heap} {os:List Ob} {i:Za} {u:Nat} {e:List Value} {a:Value} {n1:Int} {r:Int×Za} (N:ZF i n1=some r) (C:S ψ o h (.box u (a::.int .i64 i.qat::.int .u64 i.qseed::e)::os)) (g:SlC (UB ψ o) (El.int .u8) a i.qcode):CallsH P 47 #[.pointer (some ⟨u,0,none⟩),.int .i64 n1] h (fun v h'=>v=.int .i64 r.1/\S ψ o h' (.box u (a::.int .i64 r.2.qat::.int .u64 r.2.qseed::e)::os)):=by
 refine zv annO Tryz.func47 ?_;apply brQ N<;>intro N
 ·obtain rfl:=oI N;exact ⟨rfl,pkT C 1 [0]⟩
 ·obtain ⟨r9,y,N⟩:=obind N;obtain ⟨φ,L,s,j⟩:=id C;refine (ZtJ y (s.upS j) (g.mono s.ubU)).mono fun a4 a5 ⟨eq,t⟩=>⟨_,eq,?_⟩;replace C:=s.downS t;clear t s j;apply brQ N<;>intro N
  ·obtain ⟨a6,w,N⟩:=obind N;obtain ⟨a3,a7,f,k⟩:=id C;refine (ZtJ w (f.upS k) (g.mono f.ubU)).mono fun a8 a9 ⟨x,l⟩=>⟨_,x,?_⟩;replace C:=f.downS l;clear l f k;refine gzA N fun N=>?_;obtain rfl:=oI N;exact ⟨rfl,pkT C 1 [0]⟩
  ·refine gzA N fun N=>?_;obtain rfl:=oI N;exact ⟨rfl,pkT C 1 [0]⟩
section
variable {ψ:CM} {h:Heap} (hψ:CLe ψ (hcell h))
include hψ
theorem Zdp {a v0 r} (N:ZaM a=some r) (i:sc h eI v0 a):zL 169 #[v0] h ψ eI r:=by
 refine zO Tryz.func169 fun C=>?_;refine neA eI fun j f C=>?_;obtain ⟨k,e,N⟩:=obind N;refine app_S C 0 rfl (Zf3 (ZdK _) slA) rfl rfl e fun l g C=>?_;dsimp at C;exact endS
theorem ZsQ {g v0 r} (N:Zfx g=some r) (i:sc h eL v0 g):zL 176 #[v0] h ψ eL r:=by
 refine zT [[3,19,24]] Tryz.func176 fun C=>?_;refine neA eL fun v5 o C=>?_;refine lw21 N (fun j k e=>([.it (El.ow eL) [j] e],e,k)) fun j k u e a C N O=>?_;refine vL i C.le ?_;apply brQ N<;>intro N
 ·refine ixV i C.le N fun v w f N=>?_;refine cm1 N C (fun s l=>Zdp s l slA) fun x y a2 C N=>⟨_,rfl,?_⟩;refine Zh oneA ?_;have C:=frA 0;have C:=C.copyF 0 rfl;refine piA N 1 fun a3 a4 a5 C N=>?_;exact endL
 ·exact endX
theorem Zay {n0 e a r} (N:Zak n0 e a=some r)  :zR 183 #[.int .i64 n0,.int .i64 e,.int .i64 a] h ψ (.bool r):=by
 refine zO Tryz.func183 fun C=>?_;exact brQ N (fun N=>tZ) fun N=>tZ
theorem Zu0 {levels0 column1 r} (N:ZfA levels0 column1=some r)  :zR 182 #[.int .i64 levels0,.int .i64 column1] h ψ (.bool r):=by
 refine zO Tryz.func182 fun C=>?_;refine cm0 N C (fun s a=>Zay s a) fun g e C N=>⟨_,rfl,?_⟩;refine brY fun N=>?_;refine cm0 N C (fun s a=>Zay s a) fun i f C N=>⟨_,rfl,?_⟩;exact tZ
theorem Zsh {i o j r} (N:Zhv i=some r) (e:CellsC (hcell h) o [.int .i64 i.Levels,.int .i64 i.Columns,j]) (g:sc h eL j i.Rows):zR 112 #[.pointer (some o)] h ψ (.bool r):=by
 refine zU [[4,18],[9,24]] [[3]] Tryz.func112 fun C=>?_;refine ⟨fun k=>S ψ h k []/\ZlM i=some r,?_,?_⟩
 ·refine lsA ?_;refine cm0 N C (fun s l=>Zu0 s l) fun v w C N=>⟨_,rfl,?_⟩;refine brZ fun N=>?_;refine kV e C.le 2 ?_;refine vL g C.le ?_;exact brQ N (fun N=>tZ) fun N=>tZ
 ·rintro _ k ⟨C,N⟩;refine lp1 N (nlS C) fun m y3 x a C N O=>?_;refine kV e C.le 2 ?_;refine vL g C.le ?_;refine brY fun N=>?_;refine kV e C.le 2 ?_;refine ixV g C.le N fun y a2 f N=>?_;refine vL f C.le ?_;refine kI e C.le 1 ?_;refine brZ fun N=>?_;refine lp1 N (nlS C) fun a3 y4 a4 a5 C N O=>?_;refine kV e C.le 2 ?_;refine ixV g C.le N fun a6 a7 u N=>?_;refine vL u C.le ?_;apply brQ N<;>intro N
  ·refine kV e C.le 2 ?_;refine ixV g C.le N fun a8 a9 aa N=>?_;refine ixI slA N fun ab N=>?_;refine kI e C.le 0 ?_;refine cm0 N C (fun s l=>Zay s l) fun ac ad C N=>⟨_,rfl,?_⟩;apply brQ N<;>intro N
   ·exact endX
   ·exact endX
  ·exact endX
theorem Ztj {a0 v0 e v1 r} (N:ZfT a0 e=some r) (f:sc h eI v0 a0) (g:sc h eI v1 e):zR 72 #[v0,v1] h ψ (.bool r):=by
 refine zT [[4,30]] Tryz.func72 fun C=>?_;refine vL f C.le ?_;refine vL g C.le ?_;refine brZ fun N=>?_;refine lp1 N (nlS C) fun m l i a C N O=>?_;refine vL f C.le ?_;refine brY fun N=>?_;refine ixI slA N fun j N=>?_;refine ixI slA N fun k N=>?_;exact brQ N (fun N=>tZ) fun N=>tZ
theorem Zk8 {a0 v0 g v1 r} (N:Zeo a0 g=some r) (e:sc h eL v0 a0) (i:sc h eL v1 g):zR 27 #[v0,v1] h ψ (.bool r):=by
 refine zT [[4,30]] Tryz.func27 fun C=>?_;refine vL e C.le ?_;refine vL i C.le ?_;refine brZ fun N=>?_;refine lp1 N (nlS C) fun m i5 k a C N O=>?_;refine vL e C.le ?_;refine brY fun N=>?_;refine ixV e C.le N fun l o f N=>?_;refine ixV i C.le N fun u v w N=>?_;refine cm0 N C (fun s j=>Ztj s j slA slA) fun x y C N=>⟨_,rfl,?_⟩;exact brQ N (fun N=>tZ) fun N=>tZ
theorem ZnI {e k1 r} (N:ZeW e k1=some r)  :zR 190 #[.int .i64 e,.int .i64 k1] h ψ (.int .i64 r):=by
 refine zT [[2,6,30]] Tryz.func190 fun C=>?_;refine lp2 N (nlS C) fun m f g i a C N O=>?_;exact brQ N (fun N=>tZ) fun N=>tZ
theorem ZdW {e f a r} (N:Zbh e=some r) (j:CellsC (hcell h) f [.int .i64 e.Prime,.int .i64 e.Degree,a]) (g:sc h eI a e.Poly):zR 122 #[.pointer (some f)] h ψ (.int .i64 r):=by
 refine zO Tryz.func122 fun C=>?_;refine lsA ?_;refine cm0 N C (fun s i=>ZnI s i) fun k l C N=>⟨_,rfl,?_⟩;exact tZ
theorem Zek {a0 p1 n2 r} (N:Zbe a0 p1 n2=some r)  :zL 192 #[.int .i64 a0,.int .i64 p1,.int .i64 n2] h ψ eI r:=by
 refine zT [[2,0,12,43]] Tryz.func192 fun C=>?_;refine neA eI fun u j C=>?_;refine lw31 N (fun f g i e=>([.it oL [i] e],f,g,e)) fun f g i k e a C N O=>?_;apply brQ N<;>intro N
 ·refine gzA N fun N=>?_;refine puA N 0 fun l o s C N=>?_;refine gzA N fun N=>?_;exact endL
 ·exact endX
theorem ZlI {e v0 p1 r} (N:Zbf e p1=some r) (f:sc h eI v0 e):zR 255 #[v0,.int .i64 p1] h ψ (.int .i64 r):=by
 refine zT [[3,30,36]] Tryz.func255 fun C=>?_;refine vL f C.le ?_;refine lp2 N (nlS C) fun m g k i a C N O=>?_;refine brY fun N=>?_;refine ixI slA N fun j N=>?_;exact tZ
theorem Zma {g o e a1 u k3 r} (N:Zc5 g a1 u k3=some r) (i:CellsC (hcell h) o [.int .i64 g.Prime,.int .i64 g.Degree,e]) (y:sc h eI e g.Poly):zR 185 #[.pointer (some o),.int .i64 a1,.int .i64 u,.int .i64 k3] h ψ (.int .i64 r):=by
 refine zT [[4,66]] Tryz.func185 fun C=>?_;refine lsA ?_;refine cm1 N C (fun s f=>Zek s f) fun a2 v a3 C N=>⟨_,rfl,?_⟩;refine lsA ?_;refine cm1 N C (fun s f=>Zek s f) fun w x a4 C N=>⟨_,rfl,?_⟩;refine lw11 N (fun j xs=>([.it oL [x] w,.it oL [v] xs],j,xs)) fun j a5 xs a C N O=>?_;refine Zy slA ?_;apply brQ N<;>intro N
 ·refine ixI slA N fun a6 N=>?_;refine ixI slA N fun a7 N=>?_;refine kI i C.le 0 ?_;refine gzA N fun N=>?_;refine ixA slA N fun a8 a9 k l N=>?_;refine st1_S C 1 rfl k l rfl (fun _=>⟨rfl,rfl⟩) fun aa C=>?_;dsimp at C;exact endL
 ·refine kI i C.le 0 ?_;refine cm0 N C (fun s f=>ZlI s f slA) fun ab ac C N=>⟨_,rfl,?_⟩;exact tZ
theorem ZuU {o v0 u v1 v r} (N:Zdj o u v=some r) (f0:sc h eI v0 o) (y:sc h eI v1 u):zL 256 #[v0,v1,.int .i64 v] h ψ eI r:=by
 refine zT [[4,54],[8,66],[12,43]] Tryz.func256 fun C=>?_;refine cm1 N C (fun s hx=>Zdp s hx slA) fun a3 g a4 C N=>⟨_,rfl,?_⟩;refine vL y C.le ?_;refine Zy slA ?_;refine lw11 N (fun w xs=>([.it oL [g] xs],w,xs)) fun w a5 xs a C N O=>?_;apply brQ N<;>intro N
 ·refine ixI slA N fun a6 N=>?_;refine lw11 N (fun i e=>([.it oL [g] e],i,e)) fun i a7 e a8 C N O=>?_;apply brQ N<;>intro N
  ·refine ixI slA N fun a9 N=>?_;refine ixI slA N fun aa N=>?_;refine gzA N fun N=>?_;refine ixA slA N fun ab ac j k N=>?_;refine st1_S C 0 rfl j k rfl (fun _=>⟨rfl,rfl⟩) fun ad C=>?_;dsimp at C;exact endL
  ·exact endX
 ·refine lw11 N (fun x f=>([.it oL [x] f],f)) fun x ae f af C N O=>?_;refine Zy slA ?_;apply brQ N<;>intro N
  ·refine Zy slA ?_;obtain ⟨ag,l,N⟩:=obind N;refine cut_S none (some (IntKind.i64.wrap ((f.length:Int)-1))) C 0 rfl l rfl fun ah C=>?_;dsimp at C;exact endL
  ·exact endX
theorem Zfy {l p0 g y1 y2 r} (N:Zce l y1 y2=some r) (i:CellsC (hcell h) p0 [.int .i64 l.Prime,.int .i64 l.Degree,g]) (aa:sc h eI g l.Poly):zR 186 #[.pointer (some p0),.int .i64 y1,.int .i64 y2] h ψ (.int .i64 r):=by
 refine zS hψ ⟨an [[5,60],[8,66]],[],[],[(11,⟨kdL [0,0,0,0,1,0,0,0,1,3,0,0,0,2,4,0],.fin (rgs [(0,16)]),true⟩)]⟩ Tryz.func186 fun C=>?_;refine lsA ?_;refine cm1 N C (fun s j=>Zek s j) fun o u ab C N=>⟨_,rfl,?_⟩;refine lsA ?_;refine cm1 N C (fun s j=>Zek s j) fun v w ac C N=>⟨_,rfl,?_⟩;refine kI i C.le 1 ?_;refine mkO eI N fun ad x ae C N=>?_;refine lw11 N (fun y xs=>([.it oL [x] xs,.it oL [w] v,.it oL [u] o],y,xs)) fun y a9 xs a C N O=>?_;refine Zy slA ?_;apply brQ N<;>intro N
 ·refine lw11 N (fun a2 f=>([.it oL [x] f,.it oL [w] v,.it oL [u] o],a2,f)) fun a2 af f ag C N O=>?_;refine Zy slA ?_;apply brQ N<;>intro N
  ·refine ixI slA N fun ah N=>?_;refine ixI slA N fun ai N=>?_;refine ixI slA N fun aj N=>?_;refine kI i C.le 0 ?_;refine gzA N fun N=>?_;refine ixA slA N fun ak al a3 a4 N=>?_;refine st1_S C 0 rfl a3 a4 rfl (fun _=>⟨rfl,rfl⟩) fun am C=>?_;dsimp at C;exact endL
  ·exact endX
 ·refine ⟨fun _=>False,?_⟩;have k:=C;have e:=eX a9;refine lsA ?_;obtain ⟨ao,a5,N⟩:=obind N;refine ce1 C (fun s=>ZuU s.fle a5 slA slA) fun ap aq xE C=>⟨_,rfl,eZ (e.trans xE),?_⟩;replace e:=e.trans xE;refine ZT ?_;refine kI i k.le 0 ?_;refine cm0 N C (fun s j=>ZlI s j slA) fun ar au C N=>⟨_,rfl,?_⟩;exact tZ
theorem ZoK {k w i v1 j w2 x y r} (N:ZgV k v1 w2 y=some r) (a2:CellsC (hcell h) w [.int .i64 k.Prime,.int .i64 k.Degree,i]) (a6:sc h eI i k.Poly) (f1:sc h eI j v1) (f2:sc h eI x w2):zL 195 #[.pointer (some w),j,x,.int .i64 y] h ψ eI r:=by
 refine zS hψ ⟨an [[3,55,60]],[],[],[(5,⟨kdL [0,0,0,0,0,2,0,0,0,0,1,0,3,0,0,0,2,0,4,4,4,0],.fin (rgs [(6,7),(1,5),(13,7),(0,1),(20,2)]),true⟩)]⟩ Tryz.func195 fun C=>?_;refine neA eI fun a8 a9 C=>?_;refine lw21 N (fun v9 l e=>([.it oL [v9] e],e,l)) fun v9 l a5 e a C N O=>?_;refine vL f1 C.le ?_;apply brQ N<;>intro N
 ·refine ⟨fun _=>False,?_⟩;have g:=C;have f:=eX a5;refine ixI slA N fun aa N=>?_;obtain ⟨ab,o,N⟩:=obind N;refine ce0 C (fun s=>Zfy s.fle o slA slA) fun ac xE C=>⟨_,rfl,eZ (f.trans xE),?_⟩;replace f:=f.trans xE;refine ixA slA N fun ad ae u v N=>?_;refine ZT ?_;refine ldI_C (f1.mono g.le) u v ?_;refine ZT ?_;refine kI a2 g.le 0 ?_;refine cm0 N C (fun s hx=>Zma s hx slA slA) fun af ag C N=>⟨_,rfl,?_⟩;refine puA N 0 fun ah ai aj C N=>?_;exact endL
 ·exact endX
theorem ZDg {i j f v1 g c2 r} (N:ZiR i v1 c2=some r) (w:CellsC (hcell h) j [.int .i64 i.Prime,.int .i64 i.Degree,f]) (o:sc h eI f i.Poly) (u:sc h eI g v1):zL 260 #[.pointer (some j),g,.int .i64 c2] h ψ eI r:=by
 refine zT [[3,43,48]] Tryz.func260 fun C=>?_;refine neA eI fun v9 x C=>?_;refine lw21 N (fun k l e=>([.it oL [k] e],e,l)) fun k l y e a C N O=>?_;refine vL u C.le ?_;apply brQ N<;>intro N
 ·refine ixI slA N fun a2 N=>?_;refine cm0 N C (fun s v=>Zfy s v slA slA) fun a3 a4 C N=>⟨_,rfl,?_⟩;refine puA N 0 fun a5 a6 a7 C N=>?_;exact endL
 ·exact endX
theorem ZDL {f g e a1 r} (N:ZkB f a1=some r) (k:CellsC (hcell h) g [.int .i64 f.Prime,.int .i64 f.Degree,e]) (i:sc h eI e f.Poly):zR 261 #[.pointer (some g),.int .i64 a1] h ψ (.int .i64 r):=by
 refine zT [[2,30]] Tryz.func261 fun C=>?_;refine lp1 N (nlS C) fun m u l a C N O=>?_;refine cm0 N C (fun s j=>Zfy s j slA slA) fun v o C N=>⟨_,rfl,?_⟩;exact brQ N (fun N=>tZ) fun N=>tZ
theorem ZAA {l p0 u y1 v1 y2 r} (N:Zn8 l y1 y2=some r) (bn:CellsC (hcell h) p0 [.int .i64 l.Prime,.int .i64 l.Degree,u]) (b6:sc h eI u l.Poly) (f1:sc h eL v1 y1):CallsH P 197 #[.pointer (some p0),v1,.int .i64 y2] h (fun v h'=>∃ w0 w1,v=.tuple #[w0,w1]/\S ψ h h' [.it (El.ow eL) [w0] r.1,.it oL [w1] r.2]):=by
 refine zS hψ ⟨an [[4,55,60],[8,72],[15,84]],an [[6],[10,72]],[],[(11,⟨kdL [0,0,0,0,2,0,0,0,0,1,0,0,1,3,4,0],.fin (rgs [(5,9),(0,5),(14,2)]),true⟩),(18,⟨[],.fin (rgs [(2,14),(0,2),(16,2)]),false⟩)]⟩ Tryz.func197 fun C=>?_;refine cm1 N C (fun s hx=>ZsQ s hx slA) fun bo i bp C N=>⟨_,rfl,?_⟩;refine neA eI fun bq br C=>?_;refine lw22 N (fun o k e xs=>([.it oL [o] e,.it (El.ow eL) [i] xs],e,k,xs)) fun o k bs e xs a C N O=>?_;refine ⟨fun a8=>S ψ h a8 [.it oL [o] e,.it (El.ow eL) [i] xs]/\ZhR l e k xs=some a,?_,?_⟩
 ·apply brQ N<;>intro N
  ·refine Zy slA ?_;refine Zy slA ?_;apply brQ N<;>intro N
   ·exact endC
   ·obtain rfl:=oI N;obtain rfl:=oI O;exact endR
  ·obtain rfl:=oI N;obtain rfl:=oI O;exact endR
 ·rintro _ a8 ⟨C,N⟩;refine Zy slA ?_;refine ⟨fun a9 w=>S ψ h w [.it oL [o] e,.it (El.ow eL) [i] xs]/\ZaE l e k xs a9=some a,?_,?_⟩
  ·refine lp1 (os:=[.it oL [o] e,.it (El.ow eL) [i] xs]) N (pk C [0,1]) fun bt b5 b7 bu C N x=>?_;refine Zy slA ?_;apply brQ N<;>intro N
   ·refine ixA slA N fun bv bw y a2 N=>?_;refine Zb9 C 1 rfl y a2 fun bx C=>?_;refine ixI slA N fun bz N=>?_;apply brQ N<;>intro N
    ·exact endL
    ·obtain ⟨xm,hq,rfl⟩:=omap N;obtain rfl:=oI x;exact ⟨pk C [1,2],hq⟩
   ·obtain ⟨xm,hq,rfl⟩:=omap N;obtain rfl:=oI x;exact ⟨pk C [0,1],hq⟩
  ·rintro _ a9 w ⟨C,N⟩;refine Zy slA ?_;apply brQ N<;>intro N
   ·exact endL
   ·refine ⟨fun _=>False,?_⟩;have a3:=C;have g:=eX w;refine ixA slA N fun ay c0 ad ae N=>?_;refine Zb9 C 1 rfl ad ae fun az C=>?_;refine ixI slA N fun c3 N=>?_;obtain ⟨c4,af,N⟩:=obind N;refine ce0 C (fun s=>ZDL s.fle af slA slA) fun c5 xE C=>⟨_,rfl,eZ (g.trans xE),?_⟩;replace g:=g.trans xE;refine ixA slA N fun c6 c7 ag ah N=>?_;refine Z4 ?_;refine ldV_C (a3.rdL 1 rfl (Zaj _)) (CLe.refl _) ag ah fun c8 f=>?_;refine cl1 N C (fun b0 _ _ ai=>ZDg b0.fle ai slA slA (f.mono (CLe.ext g))) fun b1 b2 c9 C N=>⟨_,rfl,?_⟩;refine ixA slA N fun b3 ca aj ak N=>?_;refine Zb9 C 3 rfl aj ak fun b4 C=>?_;refine ixA slA N fun cb cc al am N=>?_;have C:=C.copyF 0 rfl;refine ZfE C 4 rfl al am rfl fun cd C=>?_;dsimp at C;refine ixA slA N fun ce cf ao ap N=>?_;have C:=frA 1;have C:=C.copyF 1 rfl;refine ZfE C 4 rfl ao ap rfl fun ba C=>?_;dsimp at C;refine lw11 N (fun aa j=>([.it eL [b4] b3,.it eL [b2] b1,.it eL [az] ay,.it oL [o] e,.it (El.ow eL) [i] j],aa,j)) fun aa bb j cg C N aq=>?_;refine Zy slA ?_;apply brQ N<;>intro N
    ·apply brQ N<;>intro N
     ·refine ixA slA N fun ch ci ar a4 N=>?_;refine Zb9 C 4 rfl ar a4 fun cj C=>?_;refine ixA slA N fun ck cm au a5 N=>?_;refine Zb9 C 5 rfl au a5 fun cn C=>?_;refine ixI slA N fun bc N=>?_;refine cm1 N C (fun s hx=>ZoK s hx slA slA slA slA) fun bd be bf C N=>⟨_,rfl,?_⟩;refine ixA slA N fun bg bh a6 a7 N=>?_;have C:=frA 0;have C:=C.copyF 0 rfl;refine ZfE C 7 rfl a6 a7 rfl fun bi C=>?_;dsimp at C;exact endL
     ·exact endL
    ·refine puA N 3 fun bj bk bm C N=>?_;obtain rfl:=oI N;obtain rfl:=oI aq;exact endM
theorem ZpN {e i a j v1 r} (N:Zhz e j=some r) (w:CellsC (hcell h) i [.int .i64 e.Prime,.int .i64 e.Degree,a]) (o:sc h eI a e.Poly) (u:sc h eL v1 j):zL 128 #[.pointer (some i),v1] h ψ eL r:=by
 refine zO Tryz.func128 fun C=>?_;refine ixV u C.le N fun x y f N=>?_;refine vL f C.le ?_;refine cm2 N C (fun s v=>ZAA s v slA slA slA) fun k a2 l a3 C N=>⟨_,_,rfl,?_⟩;refine Zy slA ?_;obtain ⟨a4,g,N⟩:=obind N;refine cut_S none (some (k.2.length:Int)) C 0 rfl g rfl fun a5 C=>?_;dsimp at C;exact endS
theorem ZmS {e r} (N:Zcj e=some r)  :zR 191 #[.int .i64 e] h ψ (.tuple #[.int .i64 r.1,.int .i64 r.2]):=by
 refine zT [[4,24],[8,30,36]] Tryz.func191 fun C=>?_;refine cm0 N C (fun s f=>Zay s f) fun o g C N=>⟨_,rfl,?_⟩;refine brZ fun N=>?_;refine lp1 N (nlS C) fun m u i a C N O=>?_;refine gzA N fun N=>?_;refine brZ fun N=>?_;refine lp2 N (nlS C) fun j v w k l C N O=>?_;apply brQ N<;>intro N
 ·refine gzA N fun N=>?_;apply brQ N<;>intro N
  ·exact endX
  ·refine gzA N fun N=>?_;exact endX
 ·exact endX
theorem Zqc {f v0 p1 r} (N:Zgs f p1=some r) (g:sc h eI v0 f):zR 193 #[v0,.int .i64 p1] h ψ (.bool r):=by
 refine zT [[3,36],[6,42]] Tryz.func193 fun C=>?_;refine vL g C.le ?_;refine lp1 N (nlS C) fun m d6 i a C N O=>?_;refine brY fun N=>?_;refine lp1 N (nlS C) fun j n7 k l C N O=>?_;refine cm0 N C (fun s e=>ZnI s e) fun o u C N=>⟨_,rfl,?_⟩;apply brQ N<;>intro N
 ·refine cm1 N C (fun s e=>Zek s e) fun v w x C N=>⟨_,rfl,?_⟩;refine puA N 0 fun y a2 a3 C N=>?_;refine cm1 N C (fun s e=>ZuU s e slA slA) fun a4 a5 a6 C N=>⟨_,rfl,?_⟩;refine cm0 N C (fun s e=>ZlI s e slA) fun a7 a8 C N=>⟨_,rfl,?_⟩;apply brQ N<;>intro N
  ·exact endX
  ·exact endX
 ·exact endX
theorem ZFf {g l i r} (N:Zhq g=some r) (e:CellsC (hcell h) l [.int .i64 g.Prime,.int .i64 g.Degree,i]) (j:sc h eI i g.Poly):zR 258 #[.pointer (some l)] h ψ (.bool r):=by
 refine zU [[8,36]] [[3]] Tryz.func258 fun C=>?_;refine ⟨fun k=>S ψ h k []/\ZkS g=some r,?_,?_⟩
 ·refine kI e C.le 0 ?_;refine cm0 N C (fun s f=>Zay s f) fun o u C N=>⟨_,rfl,?_⟩;refine brZ fun N=>?_;refine kI e C.le 1 ?_;refine cm0 N C (fun s f=>Zay s f) fun v w C N=>⟨_,rfl,?_⟩;refine brZ fun N=>?_;refine kV e C.le 2 ?_;refine vL j C.le ?_;refine kI e C.le 1 ?_;refine brZ fun N=>?_;refine lsA ?_;refine ixI slA N fun x N=>?_;exact brQ N (fun N=>tZ) fun N=>tZ
 ·rintro _ k ⟨C,N⟩;refine lsA ?_;refine cm0 N C (fun s f=>ZnI s f) fun y a2 C N=>⟨_,rfl,?_⟩;refine cm0 N C (fun s f=>ZmS s f) fun a3 a4 C N=>⟨_,_,rfl,?_⟩;refine kI e C.le 0 ?_;refine brZ fun N=>?_;refine lp1 N (nlS C) fun m y6 a5 a C N O=>?_;refine kV e C.le 2 ?_;refine vL j C.le ?_;apply brQ N<;>intro N
  ·refine kV e C.le 2 ?_;refine ixI slA N fun a6 N=>?_;refine cm0 N C (fun s f=>Zay s f) fun a7 a8 C N=>⟨_,rfl,?_⟩;exact brQ N (fun N=>tZ) fun N=>tZ
  ·refine kV e C.le 2 ?_;refine cm0 N C (fun s f=>Zqc s f slA) fun a9 aa C N=>⟨_,rfl,?_⟩;exact tZ
theorem ZxF {g j e v1 f r} (N:Zkj g v1=some r) (o:CellsC (hcell h) j [.int .i64 g.Prime,.int .i64 g.Degree,e]) (k:sc h eI e g.Poly) (l:sc h eI f v1):zR 259 #[.pointer (some j),f] h ψ (.bool r):=by
 refine zT [[3,36]] Tryz.func259 fun C=>?_;refine cm0 N C (fun s i=>ZdW s i slA slA) fun r8 u C N=>⟨_,rfl,?_⟩;refine lp1 N (nlS C) fun m i6 v a C N O=>?_;refine vL l C.le ?_;refine brY fun N=>?_;refine ixI slA N fun w N=>?_;refine cm0 N C (fun s i=>Zay s i) fun x y C N=>⟨_,rfl,?_⟩;exact brQ N (fun N=>tZ) fun N=>tZ
theorem ZyE {g o i k v1 r} (N:Zkp g k=some r) (y:CellsC (hcell h) o [.int .i64 g.Prime,.int .i64 g.Degree,i]) (x:sc h eI i g.Poly) (e:sc h eL v1 k):zR 188 #[.pointer (some o),v1] h ψ (.bool r):=by
 refine zU [[4,30]] [[3]] Tryz.func188 fun C=>?_;refine ⟨fun j=>S ψ h j []/\Zl1 g k=some r,?_,?_⟩
 ·refine cm0 N C (fun s l=>ZFf s l slA slA) fun r7 a2 C N=>⟨_,rfl,?_⟩;refine brZ fun N=>?_;refine vL e C.le ?_;refine brZ fun N=>?_;refine vL e C.le ?_;refine brZ fun N=>?_;refine ixV e C.le N fun a3 a4 u N=>?_;refine vL u C.le ?_;refine brZ fun N=>?_;refine ixV e C.le N fun a5 a6 v N=>?_;refine vL v C.le ?_;exact brQ N (fun N=>tZ) fun N=>tZ
 ·rintro _ j ⟨C,N⟩;refine lp1 N (nlS C) fun m i5 a7 a C N O=>?_;refine vL e C.le ?_;refine brY fun N=>?_;refine ixV e C.le N fun a8 a9 f N=>?_;refine vL f C.le ?_;refine ixV e C.le N fun aa ab w N=>?_;refine vL w C.le ?_;refine brZ fun N=>?_;refine ixV e C.le N fun ac ad ae N=>?_;refine cm0 N C (fun s l=>ZxF s l slA slA slA) fun af ag C N=>⟨_,rfl,?_⟩;exact brQ N (fun N=>tZ) fun N=>tZ
theorem Zqi {e k1 r} (N:Zd5 e k1=some r)  :zR 189 #[.int .i64 e,.int .i64 k1] h ψ (.int .i64 r):=by
 refine zT [[2,6,30]] Tryz.func189 fun C=>?_;refine lp2 N (nlS C) fun m f i g a C N O=>?_;refine brY fun N=>?_;exact brQ N (fun N=>tZ) fun N=>tZ
theorem ZqE {j p0 k l r} (N:ZeM j=some r) (a:CellsC (hcell h) p0 [.int .i64 j.Field.Prime,.int .i64 j.Field.Degree,k,l]) (a5:sc h eI k j.Field.Poly) (e:sc h eL l j.Rows):zR 121 #[.pointer (some p0)] h ψ (.bool r):=by
 refine zS hψ ⟨[],an [[3]],[],[(3,⟨kdL [0,0,0,3,0,0,0,2,0,4,0],.fin (rgs [(0,11)]),true⟩),(5,⟨kdL [0,0,0,0,0,0,1,3,0,0,0,2,4,0],.fin (rgs [(0,14)]),true⟩)]⟩ Tryz.func121 fun C=>?_;refine ⟨fun o=>S ψ h o []/\ZnQ j=some r,?_,?_⟩
 ·refine kV a C.le 3 ?_;refine cl0 N C (fun a3 _ _ x=>ZyE a3.fle x (CellsC.part 0 3 slA) slA slA) fun a6 a7 C N=>⟨_,rfl,?_⟩;refine brZ fun N=>?_;refine kV a C.le 3 ?_;refine ixV e C.le N fun a8 a9 f N=>?_;refine vL f C.le ?_;refine brZ fun N=>?_;refine kV a C.le 3 ?_;refine vL e C.le ?_;exact brQ N (fun N=>tZ) fun N=>tZ
 ·rintro _ o ⟨C,N⟩;refine ⟨fun _=>False,?_⟩;have v:=C;have g:=eX o;obtain ⟨aa,u,N⟩:=obind N;refine ce0 C (fun s=>ZdW s.fle u (CellsC.part 0 3 slA) slA) fun ab xE C=>⟨_,rfl,eZ (g.trans xE),?_⟩;replace g:=g.trans xE;refine Z4 ?_;refine kV a v.le 3 ?_;refine vL e C.le ?_;refine cm0 N C (fun s u=>Zqi s u) fun ac a4 C N=>⟨_,rfl,?_⟩;refine brZ fun N=>?_;refine ⟨fun _=>False,?_⟩;have w:=C;have i:=eX a4;refine kV a C.le 3 ?_;obtain ⟨ad,y,N⟩:=obind N;refine ce1 C (fun s=>ZpN s.fle y (CellsC.part 0 3 slA) slA slA) fun ae af xE C=>⟨_,rfl,eZ (i.trans xE),?_⟩;replace i:=i.trans xE;refine Z4 ?_;refine kV a w.le 3 ?_;refine cm0 N C (fun s u=>Zk8 s u slA slA) fun ag ah C N=>⟨_,rfl,?_⟩;exact tZ
theorem ZC3 {e v0 n1 r} (N:Zkm e n1=some r) (f:sc h eI v0 e):zR 325 #[v0,.int .i64 n1] h ψ (.bool r):=by
 refine zT [[2,30]] Tryz.func325 fun C=>?_;refine lp1 N (nlS C) fun m j g a C N O=>?_;refine vL f C.le ?_;refine brY fun N=>?_;refine ixI slA N fun i N=>?_;exact brQ N (fun N=>tZ) fun N=>tZ
theorem Zpx {j v0 r} (N:Zeu j=some r) (e:sc h eI v0 j):zR 297 #[v0] h ψ (.bool r):=by
 refine zT [[4,18]] Tryz.func297 fun C=>?_;refine vL e C.le ?_;refine brZ fun N=>?_;refine lp1 N (nlS C) fun m k l a C N O=>?_;refine vL e C.le ?_;refine brY fun N=>?_;refine ixI slA N fun o N=>?_;refine vL e C.le ?_;refine cm0 N C (fun s g=>Zay s g) fun u v C N=>⟨_,rfl,?_⟩;refine brZ fun N=>?_;obtain ⟨w,i,N⟩:=obind N;refine Zg4 none (some k) e i rfl fun x f=>?_;refine ixI slA N fun y N=>?_;refine cm0 N C (fun s g=>ZC3 s g slA) fun a2 a3 C N=>⟨_,rfl,?_⟩;exact brQ N (fun N=>tZ) fun N=>tZ
theorem ZEj {a0 v0 r} (N:Zij a0=some r) (g:sc h eL v0 a0):zR 246 #[v0] h ψ (.bool r):=by
 refine zU [[5,24],[10,30],[14,37,42]] [[4]] Tryz.func246 fun C=>?_;refine vL g C.le ?_;refine ⟨fun i=>S ψ h i []/\Zmx a0=some r,?_,?_⟩
 ·refine brZ fun N=>?_;exact brQ N (fun N=>tZ) fun N=>tZ
 ·rintro _ i ⟨C,N⟩;refine lp1 N (nlS C) fun m x4 o a C N O=>?_;apply brQ N<;>intro N
  ·refine ixV g C.le N fun u v f N=>?_;refine vL f C.le ?_;refine brZ fun N=>?_;refine ixV g C.le N fun w x y N=>?_;refine cm0 N C (fun s j=>Zpx s j slA) fun a2 a3 C N=>⟨_,rfl,?_⟩;exact brQ N (fun N=>tZ) fun N=>tZ
  ·refine lp1 N (nlS C) fun a4 y5 a5 a6 C N O=>?_;apply brQ N<;>intro N
   ·refine neA eI fun a7 a8 C=>?_;refine lw21 N (fun k l e=>([.it oL [k] e],e,l)) fun k l a9 e aa C N O=>?_;apply brQ N<;>intro N
    ·refine ixV g C.le N fun ab ac ad N=>?_;refine ixI slA N fun ae N=>?_;refine puA N 0 fun af ag ah C N=>?_;exact endL
    ·refine cm0 N C (fun s j=>Zpx s j slA) fun ai aj C N=>⟨_,rfl,?_⟩;apply brQ N<;>intro N
     ·exact endX
     ·exact endX
   ·exact endX
theorem ZhV {a0 v0 e v1 r} (N:Zcc a0 e=some r) (i:sc h eI v0 a0) (j:sc h eI v1 e):zR 168 #[v0,v1] h ψ (.int .i64 r):=by
 refine zU [[2,30]] [[4],[8]] Tryz.func168 fun C=>?_;refine ⟨fun f=>S ψ h f []/\Zcv a0 e=some r,?_,?_⟩
 ·refine lp1 N (nlS C) fun m l s a C N O=>?_;refine ⟨fun g=>S ψ h g []/\Zdu a0 e l=some a,?_,?_⟩
  ·refine vL i C.le ?_;apply brQ N<;>intro N
   ·refine vL j C.le ?_;refine brZ fun N=>?_;obtain ⟨o,k,rfl⟩:=omap N;obtain rfl:=oI O;exact ⟨nlS C,k⟩
   ·obtain ⟨o,k,rfl⟩:=omap N;obtain rfl:=oI O;exact ⟨nlS C,k⟩
  ·rintro _ g ⟨C,N⟩;refine ixI slA N fun u N=>?_;refine ixI slA N fun v N=>?_;refine brZ fun N=>?_;refine ixI slA N fun w N=>?_;refine ixI slA N fun x N=>?_;exact brQ N (fun N=>tZ) fun N=>tZ
 ·rintro _ f ⟨C,N⟩;refine vL i C.le ?_;refine vL j C.le ?_;refine brZ fun N=>?_;refine vL i C.le ?_;refine vL j C.le ?_;exact brQ N (fun N=>tZ) fun N=>tZ
theorem ZGk {e v0 g f r} (N:Zi0 e g f=some r) (i:sc h eI v0 e):zR 326 #[v0,.int .i64 g,.int .i64 f] h ψ (.bool r):=by
 refine zT [[2,42]] Tryz.func326 fun C=>?_;refine lp1 N (nlS C) fun m x k a C N O=>?_;refine vL i C.le ?_;refine brY fun N=>?_;refine ixI slA N fun l N=>?_;refine cm0 N C (fun s j=>Zay s j) fun o u C N=>⟨_,rfl,?_⟩;refine brZ fun N=>?_;refine brY fun N=>?_;refine ixI slA N fun v N=>?_;refine ixI slA N fun w N=>?_;exact brQ N (fun N=>tZ) fun N=>tZ
theorem ZCW {a v0 points1 r} (N:Zh8 a points1=some r) (e:sc h eI v0 a):zR 298 #[v0,.int .i64 points1] h ψ (.bool r):=by
 refine zO Tryz.func298 fun C=>?_;refine vL e C.le ?_;refine brY fun N=>?_;refine cm0 N C (fun s f=>ZGk s f slA) fun g i C N=>⟨_,rfl,?_⟩;exact tZ
theorem ZIi {k o i r} (N:Zkw k=some r) (e:CellsC (hcell h) o [.int .i64 k.Points,i]) (g:sc h eL i k.Blocks):zR 247 #[.pointer (some o)] h ψ (.bool r):=by
 refine zU [[4,18]] [[3]] Tryz.func247 fun C=>?_;refine ⟨fun l=>S ψ h l []/\Zl5 k=some r,?_,?_⟩
 ·refine kI e C.le 0 ?_;refine cm0 N C (fun s j=>Zay s j) fun r8 u C N=>⟨_,rfl,?_⟩;refine brZ fun N=>?_;refine kV e C.le 1 ?_;refine vL g C.le ?_;exact brQ N (fun N=>tZ) fun N=>tZ
 ·rintro _ l ⟨C,N⟩;refine lp1 N (nlS C) fun m i3 v a C N O=>?_;refine kV e C.le 1 ?_;refine vL g C.le ?_;refine brY fun N=>?_;refine kV e C.le 1 ?_;refine ixV g C.le N fun w x f N=>?_;refine kI e C.le 0 ?_;refine cm0 N C (fun s j=>ZCW s j slA) fun y a2 C N=>⟨_,rfl,?_⟩;refine brZ fun N=>?_;refine brY fun N=>?_;refine kV e C.le 1 ?_;refine ixV g C.le N fun a3 a4 a5 N=>?_;refine kV e C.le 1 ?_;refine ixV g C.le N fun a6 a7 a8 N=>?_;refine cm0 N C (fun s j=>ZhV s j slA slA) fun a9 aa C N=>⟨_,rfl,?_⟩;exact brQ N (fun N=>tZ) fun N=>tZ
theorem ZGO {a0 v0 e v1 r} (N:Zgj a0 e=some r) (f:sc h eI v0 a0) (l:sc h eI v1 e):zR 299 #[v0,v1] h ψ (.int .i64 r):=by
 refine zT [[3,30,36]] Tryz.func299 fun C=>?_;refine lp2 N (nlS C) fun m g o i a C N O=>?_;refine vL f C.le ?_;refine brY fun N=>?_;refine ixI slA N fun j N=>?_;refine ixI slA N fun k N=>?_;exact tZ
theorem ZHw {i v0 r} (N:Zii i=some r) (e:sc h eL v0 i):zR 248 #[v0] h ψ (.bool r):=by
 refine zU [[5,24],[10,30],[15,36],[18,42]] [[4]] Tryz.func248 fun C=>?_;refine vL e C.le ?_;refine ⟨fun g=>S ψ h g []/\Zpm i=some r,?_,?_⟩
 ·refine brZ fun N=>?_;exact brQ N (fun N=>tZ) fun N=>tZ
 ·rintro _ g ⟨C,N⟩;refine lp1 N (nlS C) fun m y4 k a C N O=>?_;apply brQ N<;>intro N
  ·refine ixV e C.le N fun l o f N=>?_;refine vL f C.le ?_;refine brZ fun N=>?_;refine lp1 N (nlS C) fun u y5 v w C N O=>?_;apply brQ N<;>intro N
   ·refine ixV e C.le N fun x y a2 N=>?_;refine ixI slA N fun a3 N=>?_;apply brQ N<;>intro N
    ·refine ixV e C.le N fun a4 a5 a6 N=>?_;refine ixI slA N fun a7 N=>?_;apply brQ N<;>intro N
     ·exact endX
     ·exact endX
    ·exact endX
   ·exact endX
  ·refine lp1 N (nlS C) fun a8 y6 a9 aa C N O=>?_;apply brQ N<;>intro N
   ·refine lp1 N (nlS C) fun ab y7 ac ad C N O=>?_;apply brQ N<;>intro N
    ·refine ixV e C.le N fun ae af ag N=>?_;refine ixV e C.le N fun ah ai aj N=>?_;refine cm0 N C (fun s j=>ZGO s j slA slA) fun ak al C N=>⟨_,rfl,?_⟩;apply brQ N<;>intro N
     ·exact endX
     ·exact endX
    ·exact endX
   ·exact endX
theorem ZCB {k l j r} (N:ZkL k=some r) (g:CellsC (hcell h) l [.int .i64 k.Kind,.int .i64 k.Size,j]) (a:SlC ψ eL j k.Rows):CallsH P 249 #[.pointer (some l)] h (fun v h'=>∃ w0,v=.agg #[.int .i64 r.Levels,.int .i64 r.Columns,w0]/\S ψ h h' [.it (El.sl eL) [w0] r.Rows]):=by
 refine zS hψ ⟨[],[],[],[(1,⟨kdL [0,0,0,2,0,0,0,2,0,3,4],.fin [9,0,1,2,3,4,5,6,7,8,10],true⟩)]⟩ Tryz.func249 fun C=>?_;refine new_S C fun b2 o C=>?_;refine ⟨fun _=>False,?_⟩;have i:=C;have e:=eX o;refine Zmv C fun b3 w xE C=>⟨eZ (e.trans xE),?_⟩;replace e:=e.trans xE;refine ZT ?_;refine kI g i.le 1 ?_;refine Z4 ?_;refine kV g i.le 2 ?_;refine Zh (a.mono C.leF).one ?_;(iterate 3 refine boxA fun x C=>?_);refine kV g C.le 2 ?_;refine vL a C.leF ?_;apply brQ N<;>intro N
 ·refine kV g C.le 2 ?_;refine ixV a C.leF N fun y a2 f N=>?_;refine vL f C.leF ?_;refine boxA fun a3 C=>?_;refine lsA ?_;(iterate 3 refine boxA fun s C=>?_);refine lsA ?_;have C:=C.arg a;exact endS
 ·refine lsA ?_;(iterate 3 refine boxA fun u C=>?_);refine lsA ?_;have C:=C.arg a;exact endS
theorem Zfm {f r} (N:ZbR f=some r)  :CallsH P 124 #[.int .i64 f] h (fun v h'=>∃ w0,v=.agg #[.int .i64 r.Prime,.int .i64 r.Degree,w0]/\S ψ h h' [.it oL [w0] r.Poly]):=by
 refine zT [[4,30]] Tryz.func124 fun C=>?_;refine new_S C fun g j C=>?_;refine cm0 N C (fun s e=>ZmS s e) fun r9 k C N=>⟨_,_,rfl,?_⟩;refine lp1 (os:=[.box g [.int .i64 0,.int .i64 0,(.slice none 0 0)]]) N (pk C [0]) fun m n5 l a C N O=>?_;refine cm1 N C (fun s e=>Zek s e) fun o u w C N=>⟨_,rfl,?_⟩;refine puA N 0 fun x y a2 C N=>?_;refine cm0 N C (fun s e=>Zqc s e slA) fun a3 a4 C N=>⟨_,rfl,?_⟩;apply brQ N<;>intro N
 ·refine Zh oneA ?_;(iterate 3 refine boxA fun i C=>?_);refine lsA ?_;exact endX
 ·exact endL
theorem ZGP {i l e r} (N:Zgt i=some r) (f:CellsC (hcell h) l [.int .i64 i.Kind,.int .i64 i.Size,e]) (g:SlC ψ eL e i.Rows):CallsH P 250 #[.pointer (some l)] h (fun v h'=>∃ w0 w1,v=.agg #[.int .i64 r.Field.Prime,.int .i64 r.Field.Degree,w0,w1]/\S ψ h h' [.it oL [w0] r.Field.Poly,.it (El.sl eL) [w1] r.Rows]):=by
 refine zS hψ ⟨[],[],[],[(4,⟨kdL [0,0,0,1,3,0,0,0,2,0,4],.fin (rgs [(0,11)]),true⟩)]⟩ Tryz.func250 fun C=>?_;refine new_S C fun b2 x C=>?_;refine kI f C.le 1 ?_;refine cm0 N C (fun s u=>ZmS s u) fun y o C N=>⟨_,_,rfl,?_⟩;apply brQ N<;>intro N
 ·(iterate 4 refine boxA fun a2 C=>?_);refine lsA ?_;exact endX
 ·refine ⟨fun _=>False,?_⟩;have j:=C;have a:=eX o;refine kI f C.le 1 ?_;obtain ⟨a3,k,N⟩:=obind N;refine ce1 C (fun s=>Zfm s.fle k) fun a4 a5 xE C=>⟨_,_,_,rfl,eZ (a.trans xE),?_⟩;replace a:=a.trans xE;refine Z4 ?_;refine kV f j.le 2 ?_;refine Zh (g.mono C.leF).one ?_;(iterate 4 refine boxA fun w C=>?_);refine lsA ?_;have C:=C.arg g;exact endS
theorem ZEE {e v0 r} (N:Zjk e=some r) (f:sc h eI v0 e):zR 198 #[v0] h ψ (.bool r):=by
 refine zT [[4,18]] Tryz.func198 fun C=>?_;refine vL f C.le ?_;refine brZ fun N=>?_;refine lp1 N (nlS C) fun m o i a C N O=>?_;refine vL f C.le ?_;refine brY fun N=>?_;refine ixI slA N fun j N=>?_;refine cm0 N C (fun s g=>Zay s g) fun k l C N=>⟨_,rfl,?_⟩;exact brQ N (fun N=>tZ) fun N=>tZ
theorem ZCr {a0 a r} (N:ZjV a0 a=some r)  :zR 199 #[.agg #[.int .i64 a0.A,.int .i64 a0.B],.agg #[.int .i64 a.A,.int .i64 a.B]] h ψ (.bool r):=by
 refine zO Tryz.func199 fun C=>?_;refine new_S C fun g e C=>?_;refine new_S C fun i f C=>?_;refine lsA ?_;refine brZ fun N=>?_;refine lsA ?_;refine brY fun N=>?_;refine lsA ?_;exact tZ
theorem ZrG {j e f r} (N:ZgT j=some r) (l:sc h eI e j.Colors) (g:sc h Zx f j.Edges):zR 129 #[.agg #[e,f]] h ψ (.bool r):=by
 refine zU [[5,24]] [[3]] Tryz.func129 fun C=>?_;refine new_S C fun w a5 C=>?_;refine ⟨fun k=>S ψ h k [.box w [e,f]]/\ZoH j=some r,?_,?_⟩
 ·refine bV C 0 0 ?_;refine cm0 N C (fun s i=>ZEE s i slA) fun r8 x C N=>⟨_,rfl,?_⟩;refine brZ fun N=>?_;refine bV C 0 1 ?_;refine vL g C.le ?_;refine brZ fun N=>?_;exact endC
 ·rintro _ k ⟨C,N⟩;refine bV C 0 0 ?_;refine vL l C.le ?_;refine lp1 (os:=[.box w [e,f]]) N (pk C [0]) fun m i4 a6 a C N O=>?_;refine bV C 0 1 ?_;refine vL g C.le ?_;refine brY fun N=>?_;refine bV C 0 1 ?_;refine ixA slA N fun a7 a8 y i N=>?_;obtain ⟨cs,ck,hr⟩:=g.cells y i rfl;obtain rfl:=ZaI hr;refine lsA ?_;refine new_S C fun b5 a9 C=>?_;(iterate 2 refine boxA fun aa C=>?_);refine bI C 0 0 ?_;refine cm0 N C (fun s i=>Zay s i) fun ab ac C N=>⟨_,rfl,?_⟩;refine brZ fun N=>?_;refine lsA ?_;refine cm0 N C (fun s i=>Zay s i) fun ae af C N=>⟨_,rfl,?_⟩;refine brZ fun N=>?_;apply brQ N<;>intro N
  ·refine bV C 1 1 ?_;refine ixA slA N fun ag ah o u N=>?_;obtain ⟨a2,a3,v⟩:=g.cells o u rfl;obtain rfl:=ZaI v;refine lsA ?_;refine cm0 N C (fun s i=>ZCr s i) fun ai a4 C N=>⟨_,rfl,?_⟩;refine brZ fun N=>?_;exact endL
  ·exact endL
theorem ZHY {w p0 l r} (N:ZjJ w=some r) (e:CellsC (hcell h) p0 [.int .i64 w.Kind,.int .i64 w.Size,l]) (g:sc h eL l w.Rows):CallsH P 251 #[.pointer (some p0)] h (fun v h'=>∃ w0 w1,v=.tuple #[.agg #[w0,w1],.bool r.2]/\S ψ h h' [.it oL [w0] r.1.Colors,.it (El.ow Zx) [w1] r.1.Edges]):=by
 refine zS hψ ⟨an [[5,30]],[],[],[(9,⟨kdL [0,2,0,0,0,1,0,0,1,0,1,0,0,0,1,0,0,1,0,1,0,3,4,0,4],.fin (rgs [(2,20),(0,2),(22,3)]),true⟩),(10,⟨kdL [2,1,3,4,0],.fin [1,2,0,3,4],true⟩)]⟩ Tryz.func251 fun C=>?_;refine new_S C fun b2 ai C=>?_;refine kI e C.le 1 ?_;refine cm0 N C (fun s hx=>Zay s hx) fun aj ak C N=>⟨_,rfl,?_⟩;apply brQ N<;>intro N
 ·(iterate 2 refine boxA fun al C=>?_);refine lsA ?_;exact endX
 ·refine kI e C.le 1 ?_;refine mkO eI N fun a5 y am C N=>?_;refine Zh oneA ?_;refine new_S C fun b4 ao C=>?_;(iterate 2 refine boxA fun ap C=>?_);have C:=C.nilO (E:=Zx);refine lw12 N (fun y5 xs o=>([.box b4 [y,o],.it oL [y] a5,.box b2 [(.slice none 0 0),(.slice none 0 0)],.it (El.ow Zx) [o] xs],y5,xs)) fun y5 u xs o a C N O=>?_;refine kV e C.le 2 ?_;refine vL g C.le ?_;apply brQ N<;>intro N
  ·refine kV e C.le 2 ?_;refine ixV g C.le N fun aq ar f N=>?_;refine vL f C.le ?_;apply brQ N<;>intro N
   ·(iterate 2 refine boxA fun ac C=>?_);refine lsA ?_;exact endX
   ·refine ⟨fun _=>False,?_⟩;have x:=C;have k:=eX u;refine kV e C.le 2 ?_;refine ixV g C.le N fun au av aw N=>?_;refine ixI slA N fun a7 N=>?_;refine kV e C.le 2 ?_;refine ixV g C.le N fun ax ay az N=>?_;refine ixI slA N fun a8 N=>?_;refine ZeN C fun b0 ad xE C=>⟨eZ (k.trans xE),?_⟩;replace k:=k.trans xE;refine Z4 ?_;refine ldV_K (x.cells 0 rfl) 1 rfl rfl ?_;obtain ⟨b1,a2,N⟩:=obind N;refine Zk3 C 4 rfl 0 rfl (fun _=>⟨[.int .i64 a7],[.int .i64 a8],[],[],rfl,rfl,⟨rfl,rfl⟩,⟨rfl,rfl⟩⟩) rfl rfl a2 fun b3 ae xE C=>?_;refine boxA fun af C=>?_;exact endL
  ·refine ⟨fun _=>False,?_⟩;have j:=C;have i:=eX u;refine lsA ?_;obtain ⟨b5,a3,N⟩:=obind N;refine ce0 C (fun s=>ZrG s.fle a3 slA slA) fun ag xE C=>⟨_,rfl,eZ (i.trans xE),?_⟩;replace i:=i.trans xE;refine Z4 ?_;refine ldV_K (j.cells 0 rfl) 0 rfl rfl ?_;refine Z4 ?_;refine ldV_K (j.cells 0 rfl) 1 rfl rfl ?_;(iterate 2 refine boxA fun ah C=>?_);refine lsA ?_;exact endX
theorem ZpP {n0 r} (N:ZeE n0=some r)  :zL 94 #[.int .i64 n0] h ψ eI r:=by
 refine zT [[3,19,24]] Tryz.func94 fun C=>?_;refine neA eI fun s i C=>?_;refine lw21 N (fun f g e=>([.it oL [f] e],e,g)) fun f g j e a C N O=>?_;apply brQ N<;>intro N
 ·refine puA N 0 fun k l o C N=>?_;exact endL
 ·exact endX
theorem ZGV {f v0 g v1 r} (N:Zks f g=some r) (k:sc h eI v0 f) (y:sc h eI v1 g):zL 203 #[v0,v1] h ψ eI r:=by
 refine zT [[3,31,36]] Tryz.func203 fun C=>?_;refine neA eI fun v7 l C=>?_;refine lw21 N (fun i j e=>([.it oL [i] e],e,j)) fun i j o e a C N O=>?_;refine vL k C.le ?_;apply brQ N<;>intro N
 ·refine ixI slA N fun s N=>?_;refine ixI slA N fun u N=>?_;refine puA N 0 fun v w x C N=>?_;exact endL
 ·exact endX
theorem ZvG {e v0 p1 v1 r} (N:Zej e p1=some r) (g:sc h eL v0 e) (x:sc h eI v1 p1):zR 204 #[v0,v1] h ψ (.tuple #[.int .i64 r.1,.bool r.2]):=by
 refine zT [[3,36,42]] Tryz.func204 fun C=>?_;refine vL g C.le ?_;refine lp2 N (nlS C) fun m j i l a C N O=>?_;refine brY fun N=>?_;refine gzA N fun N=>?_;refine ixV g C.le N fun o u f N=>?_;refine cm0 N C (fun s k=>ZhV s k slA slA) fun v w C N=>⟨_,rfl,?_⟩;refine brZ fun N=>?_;exact brQ N (fun N=>tZ) fun N=>tZ
theorem ZH6 {a v0 e p2 k r} (N:ZjW a e p2=some r) (l:SlC ψ eL v0 a) (o:SlC ψ eI k p2):zL 205 #[v0,.int .i64 e,k] h ψ eL r:=by
 refine zO Tryz.func205 fun C=>?_;refine neA eL fun v8 v C=>?_;obtain ⟨w,u,N⟩:=obind N;refine Zg4 none (some e) l u rfl fun x f=>?_;have C:=C.arg f;obtain ⟨y,g,N⟩:=obind N;refine app_S C 1 rfl (ZnS 0 rfl) rfl rfl g fun a2 a3 C=>?_;dsimp at C;refine Zh (o.mono C.leF).one ?_;have C:=C.arg o;refine piA N 1 fun a4 a5 a6 C N=>?_;obtain ⟨a7,i,N⟩:=obind N;refine Zg4 (some e) none l i rfl fun a8 s=>?_;have C:=C.arg s;obtain ⟨a9,j,N⟩:=obind N;refine app_S C 2 rfl (ZnS 0 rfl) rfl rfl j fun aa ab C=>?_;dsimp at C;exact endS
theorem ZoM {degree0 genera1 v1 j r} (N:Zcx degree0 genera1 j=some r) (f1:sc h eL v1 genera1):CallsH P 132 #[.int .i64 degree0,v1,.int .i64 j] h (fun v h'=>∃ w0,v=.tuple #[w0,.bool r.2]/\S ψ h h' [.it (El.ow eL) [w0] r.1]):=by
 refine zT [[5,55,61,66],[8,55,61,72]] Tryz.func132 fun C=>?_;refine cm1 N C (fun s l=>ZpP s l) fun u w ab C N=>⟨_,rfl,?_⟩;refine Zh oneA ?_;have C:=frA 0;have C:=C.copyF 0 rfl;refine Zck C fun ac ae C=>?_;refine Zh oneA ?_;have C:=C.copyF 1 rfl;refine Zck C fun af ag C=>?_;refine lw32 N (fun v9 x y i a6=>([.it (El.ow eL) [x] a6,.it (El.ow eL) [v9] i,.it eL [w] u],i,a6,y)) fun v9 x y ah i a6 a C N O=>?_;refine Zy slA ?_;apply brQ N<;>intro N
 ·refine lw32 N (fun o k a2 g e=>([.it (El.ow eL) [k] e,.it (El.ow eL) [o] g,.it eL [w] u],g,e,a2)) fun o k a2 ai g e aj C N O=>?_;refine vL f1 C.le ?_;apply brQ N<;>intro N
  ·refine ixA slA N fun ak al ad a4 N=>?_;refine Zb9 C 0 rfl ad a4 fun am C=>?_;refine ixV f1 C.le N fun ao ap f N=>?_;refine cm1 N C (fun s l=>ZGV s l slA slA) fun aq ar au C N=>⟨_,rfl,?_⟩;refine cm0 N C (fun s l=>ZvG s l slA slA) fun av aw C N=>⟨_,_,rfl,?_⟩;apply brQ N<;>intro N
   ·exact endL
   ·refine Zy slA ?_;apply brQ N<;>intro N
    ·exact endX
    ·have C:=frA 3;have C:=frA 0;refine cl1 N C (fun a8 a3 _ a5=>ZH6 a8.fle a5 (frF a3 3 rfl) (frF a3 0 rfl)) fun ax ay az C N=>⟨_,rfl,?_⟩;refine Zh oneA ?_;have C:=C.copyF 1 rfl;refine piA N 3 fun b0 b1 aa C N=>?_;exact endL
  ·exact endX
 ·exact endX
theorem ZIo {degree0 j v1 r} (N:ZiZ degree0 j=some r) (k:sc h eL v1 j):CallsH P 300 #[.int .i64 degree0,v1] h (fun v h'=>∃ w0,v=.tuple #[w0,.bool r.2]/\S ψ h h' [.it (El.ow eL) [w0] r.1]):=by
 refine zT [[4,37,43,54]] Tryz.func300 fun C=>?_;refine neA eL fun w x C=>?_;refine cm1 N C (fun s e=>ZoM s e slA) fun y a2 a3 C N=>⟨_,_,rfl,?_⟩;refine lw32 N (fun l o u i g=>([.it (El.ow eL) [o] g,.it (El.ow eL) [l] i],i,g,u)) fun l o u a4 i g a C N O=>?_;refine vL k C.le ?_;apply brQ N<;>intro N
 ·refine ixV k C.le N fun a5 a6 f N=>?_;refine cm0 N C (fun s e=>ZvG s e slA slA) fun a7 a8 C N=>⟨_,_,rfl,?_⟩;apply brQ N<;>intro N
  ·exact endL
  ·refine ixV k C.le N fun a9 aa ab N=>?_;refine cm1 N C (fun s e=>Zdp s e slA) fun ac ad ae C N=>⟨_,rfl,?_⟩;refine Zh oneA ?_;have C:=frA 0;have C:=C.copyF 0 rfl;refine piA N 2 fun af ag ah C N=>?_;refine vL k C.le ?_;refine cm1 N C (fun s e=>ZoM s e slA) fun ai aj ak C N=>⟨_,_,rfl,?_⟩;apply brQ N<;>intro N
   ·exact endX
   ·exact endL
 ·refine cm0 N C (fun s e=>Zk8 s e slA slA) fun al am C N=>⟨_,rfl,?_⟩;exact endX
theorem ZBz {k o j r} (N:Zkh k=some r) (g:CellsC (hcell h) o [.int .i64 k.Degree,j]) (e:sc h eL j k.Elements):zR 252 #[.pointer (some o)] h ψ (.bool r):=by
 refine zU [[4,18]] [[3]] Tryz.func252 fun C=>?_;refine ⟨fun l=>S ψ h l []/\Zmz k=some r,?_,?_⟩
 ·refine kI g C.le 0 ?_;refine cm0 N C (fun s i=>Zay s i) fun v w C N=>⟨_,rfl,?_⟩;refine brZ fun N=>?_;refine kV g C.le 1 ?_;refine vL e C.le ?_;refine brZ fun N=>?_;refine kV g C.le 1 ?_;refine vL e C.le ?_;exact brQ N (fun N=>tZ) fun N=>tZ
 ·rintro _ l ⟨C,N⟩;refine lp1 N (nlS C) fun m y3 x a C N O=>?_;refine kV g C.le 1 ?_;refine vL e C.le ?_;apply brQ N<;>intro N
  ·refine kV g C.le 1 ?_;refine ixV e C.le N fun y a2 f N=>?_;refine cm0 N C (fun s i=>Zpx s i slA) fun a3 a4 C N=>⟨_,rfl,?_⟩;refine brZ fun N=>?_;refine kV g C.le 1 ?_;refine ixV e C.le N fun a5 a6 u N=>?_;refine vL u C.le ?_;refine kI g C.le 0 ?_;refine brZ fun N=>?_;refine brY fun N=>?_;refine kV g C.le 1 ?_;refine ixV e C.le N fun a7 a8 a9 N=>?_;refine kV g C.le 1 ?_;refine ixV e C.le N fun aa ab ac N=>?_;refine cm0 N C (fun s i=>ZhV s i slA slA) fun ad ae C N=>⟨_,rfl,?_⟩;exact brQ N (fun N=>tZ) fun N=>tZ
  ·refine lsA ?_;refine cm1 N C (fun s i=>ZIo s i slA) fun af ag ah C N=>⟨_,_,rfl,?_⟩;exact tZ
theorem Zzr {g p0 f r} (N:Zc9 g=some r) (e:CellsC (hcell h) p0 [.int .i64 g.Kind,.int .i64 g.Size,f]) (a:SlC ψ eL f g.Rows):zR 177 #[.pointer (some p0)] h ψ (.bool r):=by
 refine zO Tryz.func177 fun C=>?_;refine kI e C.le 0 ?_;apply brQ N<;>intro N
 ·refine kV e C.le 2 ?_;refine cl0 N C (fun s _ _ hx=>ZEj s.fle hx (a.mono C.leF)) fun ap aq C N=>⟨_,rfl,?_⟩;refine brY fun N=>?_;refine kV e C.le 2 ?_;refine vL a C.leF ?_;refine kI e C.le 1 ?_;exact tZ
 ·apply brQ N<;>intro N
  ·refine lsA ?_;refine Zh (a.mono C.leF).one ?_;refine new_S C fun ar au C=>?_;refine cl0 N C (fun a3 _ _ k=>ZIi a3.fle k (C.cells 0 rfl) (a.mono C.leF)) fun av aw C N=>⟨_,rfl,?_⟩;exact tZ
  ·apply brQ N<;>intro N
   ·refine kV e C.le 2 ?_;refine cl0 N C (fun a4 _ _ l=>ZHw a4.fle l (a.mono C.leF)) fun ax ay C N=>⟨_,rfl,?_⟩;refine brY fun N=>?_;refine kV e C.le 2 ?_;refine vL a C.leF ?_;refine kI e C.le 1 ?_;exact tZ
   ·apply brQ N<;>intro N
    ·refine cl1 N C (fun i _ _ o=>ZCB i.fle o slA (a.mono i.bas)) fun az b0 b1 C N=>⟨_,_,_,rfl,?_⟩;refine new_S C fun b3 b2 C=>?_;(iterate 3 refine boxA fun ac C=>?_);refine kV e C.le 2 ?_;refine vL a C.leF ?_;refine brY fun N=>?_;refine cl0 N C (fun a5 _ _ u=>Zsh a5.fle u (C.cells 0 rfl) slA) fun b6 ad C N=>⟨_,rfl,?_⟩;exact tZ
    ·apply brQ N<;>intro N
     ·refine cl2 N C (fun j _ _ v=>ZGP j.fle v slA (a.mono j.bas)) fun b7 b8 a9 ae C N=>⟨_,_,_,_,rfl,?_⟩;refine new_S C fun b4 af C=>?_;(iterate 4 refine boxA fun ag C=>?_);refine cl0 N C (fun a6 _ _ w=>ZqE a6.fle w (C.cells 0 rfl) slA slA) fun b9 ah C N=>⟨_,rfl,?_⟩;exact tZ
     ·apply brQ N<;>intro N
      ·refine cl2 N C (fun a7 _ _ x=>ZHY a7.fle x slA (a.mono C.leF)) fun ba bb aa ai C N=>⟨_,_,_,rfl,?_⟩;refine new_S C fun b5 aj C=>?_;(iterate 2 refine boxA fun ak C=>?_);exact tZ
      ·refine brY fun N=>?_;refine lsA ?_;refine Zh (a.mono C.leF).one ?_;refine new_S C fun bc al C=>?_;refine cl0 N C (fun a8 _ _ y=>ZBz a8.fle y (C.cells 0 rfl) (a.mono C.leF)) fun am ao C N=>⟨_,rfl,?_⟩;exact tZ
theorem Zdk {a e f o r} (N:Zbz a e f=some r) (f2:sc h eL o f):CallsH P 102 #[.int .i64 a,.int .i64 e,o] h (fun v h'=>∃ w0,v=.tuple #[.agg #[.int .i64 r.1.Kind,.int .i64 r.1.Size,w0],.int .i64 r.2]/\S ψ h h' [.it (El.ow eL) [w0] r.1.Rows]):=by
 refine zO Tryz.func102 fun C=>?_;refine new_S C fun b6 a2 C=>?_;refine cm1 N C (fun s u=>ZsQ s u slA) fun a3 a4 a5 C N=>⟨_,rfl,?_⟩;refine Zh oneA ?_;refine new_S C fun b8 a6 C=>?_;(iterate 3 refine boxA fun a7 C=>?_);obtain ⟨a8,k,N⟩:=obind N;obtain ⟨w,a9,g,i⟩:=id C;refine (Zzr (CLe.refl _) k (C.cells 0 rfl) slA).mono fun aa ab ⟨l,j⟩=>⟨_,l,?_⟩;replace C:=join0 g i (j.weak g.fle);clear j g i;apply brQ N<;>intro N
 ·(iterate 3 refine boxA fun x C=>?_);refine lsA ?_;exact endX
 ·refine lsA ?_;(iterate 3 refine boxA fun y C=>?_);refine lsA ?_;exact endS
theorem ZHn {a0 v0 r} (N:Zn5 a0=some r) (a:sc h eL v0 a0):CallsH P 48 #[v0] h (fun v o=>∃ w0,v=.tuple #[.agg #[.int .i64 r.1.Kind,.int .i64 r.1.Size,w0],.int .i64 r.2]/\S ψ h o [.it (El.ow eL) [w0] r.1.Rows]):=by
 refine zO Tryz.func48 fun C=>?_;refine new_S C fun j f C=>?_;refine vL a C.le ?_;refine cm1 N C (fun s e=>Zdk s e slA) fun k l g C N=>⟨_,_,_,_,rfl,?_⟩;(iterate 3 refine boxA fun i C=>?_);refine lsA ?_;exact endS
end
theorem Zep {ψ:CM} {j h:Heap} {os:List Ob} {k:Za} {l:Nat} {e:List Value} {f:Value} {n1:Int} {r:(List Int)×Za} (N:Zbg k n1=some r) (C:S ψ j h (.box l (f::.int .i64 k.qat::.int .u64 k.qseed::e)::os)) (y:SlC (UB ψ j) (El.int .u8) f k.qcode):CallsH P 43 #[.pointer (some ⟨l,0,none⟩),.int .i64 n1] h (fun v h'=>∃ w0,v=w0/\S ψ j h' (.it oL [w0] r.1::.box l (f::.int .i64 r.2.qat::.int .u64 r.2.qseed::e)::os)):=by
 refine zv ⟨an [[3,36]],[],[],[]⟩ Tryz.func43 ?_;refine cm1 N C (fun s hx=>ZpP s hx) fun ad o ae C N=>⟨_,rfl,?_⟩;obtain ⟨a9,hn⟩:=ZN N;refine ⟨fun n i6 u=>∃ q g xs,S ψ j u (.it oL [o] xs::.box l (f::.int .i64 q::.int .u64 g::e)::os)/\loopN (Zf8 k) n (i6,q,g,xs)=some r,⟨a9,_,_,_,pkT C 2 [0,1],hn⟩,?_⟩;rintro n _ i6 u ⟨q,g,xs,C,hn⟩;obtain ⟨m,a,rfl,N,O⟩:=ZM hn;apply brQ N<;>intro N
 ·have C:S ψ j u (.box l (f::.int .i64 q::.int .u64 g::e)::.it oL [o] xs::os):=pkT C 2 [1,0];obtain ⟨af,a3,N⟩:=obind N;obtain ⟨ac,ag,i,w⟩:=id C;refine (ZH a3 (i.upS w) (y.mono i.ubU)).mono fun ah ai ⟨a4,x⟩=>⟨_,a4,?_⟩;replace C:=i.downS x;clear x i w;refine ixI slA N fun aj N=>?_;refine ixI slA N fun ak N=>?_;refine ixA slA N fun al am a5 a6 N=>?_;refine st1_S C 1 rfl a5 a6 rfl (fun _=>⟨rfl,rfl⟩) fun ao C=>?_;dsimp at C;refine ixA slA N fun ap aq a7 a8 N=>?_;refine st1_S C 1 rfl a7 a8 rfl (fun _=>⟨rfl,rfl⟩) fun ar C=>?_;dsimp at C;obtain rfl:=oI N;exact ⟨_,ltS,_,_,_,pkT C 2 [1,0],O⟩
 ·obtain rfl:=oI N;obtain rfl:=oI O;exact ⟨o,rfl,pkT C 2 [0,1]⟩
section
variable {ψ:CM} {h:Heap} (hψ:CLe ψ (hcell h))
include hψ
theorem ZjO {f column1 r} (N:ZdH f column1=some r)  :zL 178 #[.int .i64 f,.int .i64 column1] h ψ oL r:=by
 refine zT [[3,31,36]] Tryz.func178 fun C=>?_;refine neA oL fun x j C=>?_;refine lw21 N (fun g i e=>([.it (El.ow oL) [g] e],e,i)) fun g i k e a C N O=>?_;apply brQ N<;>intro N
 ·refine mkO eI N fun l o s C N=>?_;refine Zh oneA ?_;refine piA N 0 fun u v w C N=>?_;exact endL
 ·exact endX
theorem ZbK {n0 r} (N:ZaP n0=some r)  :zL 103 #[.int .i64 n0] h ψ oL r:=by
 refine zT [[3,24],[6,30]] Tryz.func103 fun C=>?_;refine cm1 N C (fun s u=>ZjO s u) fun r8 j w C N=>⟨_,rfl,?_⟩;refine lw11 N (fun k xs=>([.it (El.ow oL) [j] xs],k,xs)) fun k x xs a C N O=>?_;apply brQ N<;>intro N
 ·refine lw11 N (fun l e=>([.it (El.ow oL) [j] e],l,e)) fun l y e a2 C N O=>?_;apply brQ N<;>intro N
  ·refine ixA slA N fun a3 a4 v f N=>?_;refine Zaq C 0 rfl v f fun a5 o=>?_;refine gzA N fun N=>?_;refine ixA (C.rowC 0 rfl o f (Zi _)) N fun a6 a7 g i N=>?_;refine ZbV C 0 rfl o f g i rfl (fun _=>⟨rfl,rfl⟩) fun a8 C=>?_;dsimp at C;exact endL
  ·exact endX
 ·exact endX
end
theorem ZbF {ψ:CM} {i h:Heap} {os:List Ob} {f:Za} {j:Nat} {e:List Value} {a:Value} {n1:Int} {r:Bool×Za} (N:ZaN f n1=some r) (C:S ψ i h (.box j (a::.int .i64 f.qat::.int .u64 f.qseed::e)::os)) (k:SlC (UB ψ i) (El.int .u8) a f.qcode):CallsH P 104 #[.pointer (some ⟨j,0,none⟩),.int .i64 n1] h (fun v h'=>v=.bool r.1/\S ψ i h' (.box j (a::.int .i64 r.2.qat::.int .u64 r.2.qseed::e)::os)):=by
 refine zv annO Tryz.func104 ?_;obtain ⟨x,l,N⟩:=obind N;obtain ⟨φ,L,s,g⟩:=id C;refine (ZH l (s.upS g) (k.mono s.ubU)).mono fun u w ⟨o,t⟩=>⟨_,o,?_⟩;replace C:=s.downS t;clear t s g;obtain rfl:=oI N;exact ⟨rfl,pkT C 1 [0]⟩
section
variable {ψ:CM} {h:Heap} (hψ:CLe ψ (hcell h))
include hψ
theorem ZfM {l v0 o v1 r} (N:ZcA l o=some r) (u:sc h eL v0 l) (v:sc h eL v1 o):zL 105 #[v0,v1] h ψ oL r:=by
 refine zT [[5,48],[8,54]] Tryz.func105 fun C=>?_;refine vL u C.le ?_;refine vL v C.le ?_;refine cm1 N C (fun s hx=>ZjO s hx) fun a4 j a5 C N=>⟨_,rfl,?_⟩;refine lw11 N (fun w xs=>([.it (El.ow oL) [j] xs],w,xs)) fun w a6 xs a C N O=>?_;apply brQ N<;>intro N
 ·refine lw11 N (fun x e=>([.it (El.ow oL) [j] e],x,e)) fun x a7 e a8 C N O=>?_;apply brQ N<;>intro N
  ·refine ixA slA N fun a9 aa ad g N=>?_;refine Zaq C 0 rfl ad g fun ab y=>?_;refine gzA N fun N=>?_;refine ixV u C.le N fun ac ae f N=>?_;refine gzA N fun N=>?_;refine ixI slA N fun af N=>?_;refine gzA N fun N=>?_;refine ixV v C.le N fun ag ah ai N=>?_;refine gzA N fun N=>?_;refine ixI slA N fun aj N=>?_;refine ixA (C.rowC 0 rfl y g (Zi _)) N fun ak al k i N=>?_;refine ZbV C 0 rfl y g k i rfl (fun _=>⟨rfl,rfl⟩) fun am C=>?_;dsimp at C;exact endL
  ·exact endX
 ·exact endX
theorem Zp3 {a0 v0 r} (N:ZfJ a0=some r) (g:sc h eL v0 a0):zL 120 #[v0] h ψ oL r:=by
 refine zT [[3,19,24]] Tryz.func120 fun C=>?_;refine neA oL fun v5 l C=>?_;refine lw21 N (fun i j e=>([.it (El.ow oL) [i] e],e,j)) fun i j o e a C N O=>?_;refine vL g C.le ?_;apply brQ N<;>intro N
 ·refine ixV g C.le N fun u v f N=>?_;refine cm1 N C (fun s k=>Zdp s k slA) fun w x y C N=>⟨_,rfl,?_⟩;refine Zh oneA ?_;refine piA N 0 fun a2 a3 a4 C N=>?_;exact endL
 ·exact endX
end
theorem Zzh {ψ:CM} {u h:Heap} {os:List Ob} {w:Za} {b0:Nat} {e:List Value} {g:Value} {y1:List (List Int)} {v1:Value} {r:(List (List Int))×Za} (N:ZhX w y1=some r) (C:S ψ u h (.box b0 (g::.int .i64 w.qat::.int .u64 w.qseed::e)::os)) (x:SlC (UB ψ u) (El.int .u8) g w.qcode) (f1:SlC (UB ψ u) eL v1 y1):CallsH P 106 #[.pointer (some ⟨b0,0,none⟩),v1] h (fun v h'=>∃ w0,v=w0/\S ψ u h' (.it (El.ow oL) [w0] r.1::.box b0 (g::.int .i64 r.2.qat::.int .u64 r.2.qseed::e)::os)):=by
 refine zv ⟨an [[10,54,66],[20,84,90]],[],[],[]⟩ Tryz.func106 ?_;refine vL f1 C.leU ?_;refine cm1 N C (fun s hx=>Zp3 s hx slA) fun bi i bj C N=>⟨_,rfl,?_⟩;have C:S ψ u bj (.box b0 (g::.int .i64 w.qat::.int .u64 w.qseed::e)::.it (El.ow oL) [i] bi::os):=pkT C 2 [1,0];obtain ⟨a7,b3,N⟩:=obind N;obtain ⟨bp,bt,a2,ak⟩:=id C;refine (ZH b3 (a2.upS ak) (x.mono a2.ubU)).mono fun bu bv ⟨b4,al⟩=>⟨_,b4,?_⟩;replace C:=a2.downS al;clear al a2 ak;obtain ⟨a8,b5,N⟩:=obind N;obtain ⟨bq,bw,a3,am⟩:=id C;refine (ZH b5 (a3.upS am) (x.mono a3.ubU)).mono fun bx bz ⟨b6,ao⟩=>⟨_,b6,?_⟩;replace C:=a3.downS ao;clear ao a3 am;apply brQ N<;>intro N
 ·obtain rfl:=oI N;exact ⟨i,rfl,pkT C 2 [1,0]⟩
 ·obtain ⟨o,b7,N⟩:=obind N;obtain ⟨br,c0,a4,ap⟩:=id C;refine (ZH b7 (a4.upS ap) (x.mono a4.ubU)).mono fun c3 c4 ⟨b8,aq⟩=>⟨_,b8,?_⟩;replace C:=a4.downS aq;clear aq a4 ap;refine ixV f1 C.leU N fun c5 c6 f N=>?_;refine ixI slA N fun bk N=>?_;obtain ⟨bm,hn⟩:=ZN N;refine ⟨fun n y9 aa ar=>∃ xs,S ψ u ar (.box b0 (g::.int .i64 o.2.qat::.int .u64 o.2.qseed::e)::.it (El.ow oL) [i] xs::os)/\loopN (Zl0 w y1 a7 a8 o bk) n (y9,aa,xs)=some r,⟨bm,_,pkT C 2 [0,1],hn⟩,?_⟩;rintro n _ y9 aa ar ⟨xs,C,hn⟩;obtain ⟨m,a,rfl,N,O⟩:=ZM hn;apply brQ N<;>intro N
  ·refine ixA slA N fun c7 c8 ba ab N=>?_;refine Zaq C 1 rfl ba ab fun c9 hd=>?_;refine ixI (C.rowC 1 rfl hd ab (Zi _)) N fun au N=>?_;refine ixA slA N fun ca cb bb ac N=>?_;refine Zaq C 1 rfl bb ac fun cc bc=>?_;refine ixI (C.rowC 1 rfl bc ac (Zi _)) N fun av N=>?_;refine ixA slA N fun aw cd bd j N=>?_;refine Zaq C 1 rfl bd j fun ce ad=>?_;refine ixA (C.rowC 1 rfl ad j (Zi _)) N fun cf cg be ag N=>?_;refine ZbV C 1 rfl ad j be ag rfl (fun _=>⟨rfl,rfl⟩) fun ch C=>?_;dsimp at C;refine ixA slA N fun ax ci bf k N=>?_;refine Zaq C 1 rfl bf k fun cj ae=>?_;refine ixA (C.rowC 1 rfl ae k (Zi _)) N fun ck cm ah ai N=>?_;refine ZbV C 1 rfl ae k ah ai rfl (fun _=>⟨rfl,rfl⟩) fun cn C=>?_;dsimp at C;apply brQ N<;>intro N
   ·obtain rfl:=oI N;obtain rfl:=oI O;exact ⟨i,rfl,pkT C 2 [1,0]⟩
   ·obtain ⟨bn,y⟩:=ZN N;refine ⟨fun ay az b1 b2=>S ψ u b2 (.box b0 (g::.int .i64 o.2.qat::.int .u64 o.2.qseed::e)::.it (El.ow oL) [i] ((xs.set (a7.1:Int).toNat (aw.set (y9:Int).toNat av)).set (a8.1:Int).toNat (ax.set (y9:Int).toNat au))::os)/\loopN (ZlU y1 a7 a8 y9 aa xs au av aw ax) ay (az,b1)=some a,⟨bn,pkT C 2 [0,1],y⟩,?_⟩;rintro ay _ az b1 b2 ⟨C,y⟩;obtain ⟨co,cp,rfl,N,l⟩:=ZM y;apply brQ N<;>intro N
    ·apply brQ N<;>intro N
     ·refine ixA slA N fun cq cr aj a5 N=>?_;refine Zaq C 1 rfl aj a5 fun cs bg=>?_;refine ixI (C.rowC 1 rfl bg a5 (Zi _)) N fun ct N=>?_;apply brQ N<;>intro N
      ·obtain rfl:=oI N;exact ⟨_,ltS,pkT C 2 [0,1],l⟩
      ·obtain rfl:=oI N;exact ⟨_,ltS,pkT C 2 [0,1],l⟩
     ·obtain rfl:=oI N;exact ⟨_,ltS,pkT C 2 [0,1],l⟩
    ·obtain rfl:=oI N;obtain rfl:=oI l;exact ⟨_,ltS,_,pkT C 2 [0,1],O⟩
  ·obtain rfl:=oI N;obtain rfl:=oI O;exact ⟨i,rfl,pkT C 2 [1,0]⟩
section
variable {ψ:CM} {h:Heap} (hψ:CLe ψ (hcell h))
include hψ
theorem ZyX {a0 v0 i v1 column2 w symbol3 x r} (N:Zix a0 i column2 symbol3=some r) (y:sc h eL v0 a0) (f1:sc h eI v1 i) (f2:sc h eI w column2) (f3:sc h eI x symbol3):zL 107 #[v0,v1,w,x] h ψ oL r:=by
 refine zT [[4,66],[7,72]] Tryz.func107 fun C=>?_;refine vL y C.le ?_;refine cm1 N C (fun s hx=>ZjO s hx) fun a4 j a5 C N=>⟨_,rfl,?_⟩;refine lw11 N (fun k xs=>([.it (El.ow oL) [j] xs],k,xs)) fun k a6 xs a C N O=>?_;apply brQ N<;>intro N
 ·refine lw11 N (fun l e=>([.it (El.ow oL) [j] e],l,e)) fun l a7 e a8 C N O=>?_;apply brQ N<;>intro N
  ·refine ixI slA N fun a9 N=>?_;refine ixA slA N fun aa ab o g N=>?_;refine Zaq C 0 rfl o g fun ac hd=>?_;refine ixI slA N fun ad N=>?_;refine ixV y C.le N fun ae af f N=>?_;refine ixI slA N fun ag N=>?_;refine ixI slA N fun ah N=>?_;refine ixA (C.rowC 0 rfl hd g (Zi _)) N fun ai aj u v N=>?_;refine ZbV C 0 rfl hd g u v rfl (fun _=>⟨rfl,rfl⟩) fun ak C=>?_;dsimp at C;exact endL
  ·exact endX
 ·exact endX
end
theorem ZBN {ψ:CM} {k h:Heap} {os:List Ob} {j:Za} {l:Nat} {e:List Value} {g:Value} {y1:Int} {r:(List (List Int))×Za} (N:Zjr j y1=some r) (C:S ψ k h (.box l (g::.int .i64 j.qat::.int .u64 j.qseed::e)::os)) (i:SlC (UB ψ k) (El.int .u8) g j.qcode):CallsH P 49 #[.pointer (some ⟨l,0,none⟩),.int .i64 y1] h (fun v h'=>∃ w0,v=w0/\S ψ k h' (.it (El.ow oL) [w0] r.1::.box l (g::.int .i64 r.2.qat::.int .u64 r.2.qseed::e)::os)):=by
 refine zv ⟨an [[16,31,36]],an [[15,31]],[],[]⟩ Tryz.func49 ?_;refine cm1 N C (fun s f=>ZbK s f) fun a4 a5 a6 C N=>⟨_,rfl,?_⟩;refine ⟨fun v5 af=>∃ y5 q a7,S ψ k af (.it (El.ow oL) [v5] y5::.box l (g::.int .i64 q::.int .u64 a7::e)::os)/\Za9 j y1 y5 q a7=some r,?_,?_⟩
 ·apply brQ N<;>intro N
  ·have C:S ψ k a6 (.box l (g::.int .i64 j.qat::.int .u64 j.qseed::e)::.it (El.ow oL) [a5] a4::os):=pkT C 2 [1,0];obtain ⟨dc,bj,N⟩:=obind N;obtain ⟨cc,dd,a8,ag⟩:=id C;refine (ZbF bj (a8.upS ag) (i.mono a8.ubU)).mono fun cd ce ⟨bk,b4⟩=>⟨_,bk,?_⟩;replace C:=a8.downS b4;clear b4 a8 ag;apply brQ N<;>intro N
   ·refine cm1 N C (fun s f=>ZbK s f) fun de df cf C N=>⟨_,rfl,?_⟩;have C:=frA 0;refine cm1 N C (fun s f=>ZbK s f) fun dg dh cg C N=>⟨_,rfl,?_⟩;have C:=frA 0;refine cm1 N C (fun s f=>ZfM s f slA slA) fun di dj ch C N=>⟨_,rfl,?_⟩;exact ⟨_,_,_,pkT C 5 [0,3],N⟩
   ·exact ⟨_,_,_,pkT C 2 [1,0],N⟩
  ·apply brQ N<;>intro N
   ·have C:S ψ k a6 (.box l (g::.int .i64 j.qat::.int .u64 j.qseed::e)::.it (El.ow oL) [a5] a4::os):=pkT C 2 [1,0];obtain ⟨dk,ax,N⟩:=obind N;obtain ⟨c9,ci,w,ah⟩:=id C;refine (ZbF ax (w.upS ah) (i.mono w.ubU)).mono fun cj ck ⟨ay,ai⟩=>⟨_,ay,?_⟩;replace C:=w.downS ai;clear ai w ah;apply brQ N<;>intro N
    ·refine cm1 N C (fun s f=>ZbK s f) fun dl dm cm C N=>⟨_,rfl,?_⟩;have C:=frA 0;refine cm1 N C (fun s f=>ZbK s f) fun dn dp cn C N=>⟨_,rfl,?_⟩;have C:=frA 0;refine cm1 N C (fun s f=>ZfM s f slA slA) fun dq dr co C N=>⟨_,rfl,?_⟩;exact ⟨_,_,_,pkT C 5 [0,3],N⟩
    ·exact ⟨_,_,_,pkT C 2 [1,0],N⟩
   ·apply brQ N<;>intro N
    ·have C:S ψ k a6 (.box l (g::.int .i64 j.qat::.int .u64 j.qseed::e)::.it (El.ow oL) [a5] a4::os):=pkT C 2 [1,0];obtain ⟨ds,az,N⟩:=obind N;obtain ⟨ca,cp,x,aj⟩:=id C;refine (ZbF az (x.upS aj) (i.mono x.ubU)).mono fun cq cr ⟨b1,ak⟩=>⟨_,b1,?_⟩;replace C:=x.downS ak;clear ak x aj;apply brQ N<;>intro N
     ·refine cm1 N C (fun s f=>ZbK s f) fun dt du cs C N=>⟨_,rfl,?_⟩;have C:=frA 0;refine cm1 N C (fun s f=>ZbK s f) fun dv dw ct C N=>⟨_,rfl,?_⟩;have C:=frA 0;refine cm1 N C (fun s f=>ZfM s f slA slA) fun dx dy cu C N=>⟨_,rfl,?_⟩;have C:=frA 0;refine cm1 N C (fun s f=>ZbK s f) fun dz e0 cv C N=>⟨_,rfl,?_⟩;have C:=frA 0;refine cm1 N C (fun s f=>ZfM s f slA slA) fun e1 e2 cx C N=>⟨_,rfl,?_⟩;exact ⟨_,_,_,pkT C 7 [0,5],N⟩
     ·exact ⟨_,_,_,pkT C 2 [1,0],N⟩
    ·apply brQ N<;>intro N
     ·have C:S ψ k a6 (.box l (g::.int .i64 j.qat::.int .u64 j.qseed::e)::.it (El.ow oL) [a5] a4::os):=pkT C 2 [1,0];obtain ⟨e3,b2,N⟩:=obind N;obtain ⟨cb,cy,y,al⟩:=id C;refine (ZbF b2 (y.upS al) (i.mono y.ubU)).mono fun cz d0 ⟨b3,am⟩=>⟨_,b3,?_⟩;replace C:=y.downS am;clear am y al;apply brQ N<;>intro N
      ·refine cm1 N C (fun s f=>ZbK s f) fun e4 e5 d1 C N=>⟨_,rfl,?_⟩;have C:=frA 0;refine cm1 N C (fun s f=>ZbK s f) fun e6 e7 d2 C N=>⟨_,rfl,?_⟩;have C:=frA 0;refine cm1 N C (fun s f=>ZfM s f slA slA) fun e8 e9 d3 C N=>⟨_,rfl,?_⟩;exact ⟨_,_,_,pkT C 5 [0,3],N⟩
      ·exact ⟨_,_,_,pkT C 2 [1,0],N⟩
     ·exact ⟨_,_,_,pkT C 2 [0,1],N⟩
 ·rintro _ v5 af ⟨y5,q,a7,C,N⟩;have C:S ψ k af (.box l (g::.int .i64 q::.int .u64 a7::e)::.it (El.ow oL) [v5] y5::os):=pkT C 2 [1,0];obtain ⟨ea,bm,N⟩:=obind N;obtain ⟨d4,eb,a9,b5⟩:=id C;refine (ZH bm (a9.upS b5) (i.mono a9.ubU)).mono fun ec ed ⟨bn,b6⟩=>⟨_,bn,?_⟩;replace C:=a9.downS b6;clear b6 a9 b5;obtain ⟨c0,hn⟩:=ZN N;refine ⟨fun n o y6 b7=>∃ u ao ap,S ψ k b7 (.box l (g::.int .i64 ao::.int .u64 ap::e)::.it (El.ow oL) [o] u::os)/\loopN (Zls j y1) n (u,y6,ao,ap)=some r,⟨c0,_,_,_,pkT C 2 [0,1],hn⟩,?_⟩;rintro n _ o y6 b7 ⟨u,ao,ap,C,hn⟩;obtain ⟨m,a,rfl,N,O⟩:=ZM hn;apply brQ N<;>intro N
  ·have C:=frA 1;obtain ⟨ee,bp,N⟩:=obind N;obtain ⟨d5,ef,a2,aq⟩:=id C;refine (Zzh bp (a2.upS aq) (i.mono a2.ubU) ((frF aq 1 rfl).mono a2.ubF)).mono fun eg eh ⟨ei,bq,b8⟩=>⟨_,bq,?_⟩;replace C:=a2.downS b8;clear b8 a2 aq;obtain rfl:=oI N;exact ⟨_,ltS,_,_,_,pkT C 3 [1,0],O⟩
  ·obtain ⟨a3,br,N⟩:=obind N;obtain ⟨d6,ej,aa,b9⟩:=id C;refine (Zep br (aa.upS b9) (i.mono aa.ubU)).mono fun ek c4 ⟨ar,bs,ba⟩=>⟨_,bs,?_⟩;replace C:=aa.downS ba;clear ba aa b9;have C:S ψ k c4 (.box l (g::.int .i64 a3.2.qat::.int .u64 a3.2.qseed::e)::.it oL [ar] a3.1::.it (El.ow oL) [o] u::os):=pkT C 3 [1,0,2];obtain ⟨ab,bt,N⟩:=obind N;obtain ⟨d7,em,ac,bb⟩:=id C;refine (Zep bt (ac.upS bb) (i.mono ac.ubU)).mono fun en c5 ⟨bc,bu,bd⟩=>⟨_,bu,?_⟩;replace C:=ac.downS bd;clear bd ac bb;have C:S ψ k c5 (.box l (g::.int .i64 ab.2.qat::.int .u64 ab.2.qseed::e)::.it oL [bc] ab.1::.it oL [ar] a3.1::.it (El.ow oL) [o] u::os):=pkT C 4 [1,0,2,3];obtain ⟨au,bv,N⟩:=obind N;obtain ⟨d8,eo,ad,be⟩:=id C;refine (Zep bv (ad.upS be) (i.mono ad.ubU)).mono fun ep c6 ⟨c7,bw,bf⟩=>⟨_,bw,?_⟩;replace C:=ad.downS bf;clear bf ad be;have C:S ψ k c6 (.box l (g::.int .i64 au.2.qat::.int .u64 au.2.qseed::e)::.it oL [c7] au.1::.it oL [bc] ab.1::.it oL [ar] a3.1::.it (El.ow oL) [o] u::os):=pkT C 5 [1,0,2,3,4];obtain ⟨eq,bx,N⟩:=obind N;obtain ⟨d9,er,ae,bg⟩:=id C;refine (ZbF bx (ae.upS bg) (i.mono ae.ubU)).mono fun es da ⟨bz,bh⟩=>⟨_,bz,?_⟩;replace C:=ae.downS bh;clear bh ae bg;apply brQ N<;>intro N
   ·obtain rfl:=oI N;obtain rfl:=oI O;exact ⟨o,rfl,pkT C 5 [4,0]⟩
   ·refine cm1 N C (fun s f=>ZyX s f slA slA slA slA) fun et c8 db C N=>⟨_,rfl,?_⟩;obtain rfl:=oI N;obtain rfl:=oI O;exact ⟨c8,rfl,pkT C 6 [0,1]⟩
section
variable {ψ:CM} {h:Heap} (hψ:CLe ψ (hcell h))
include hψ
theorem ZAm {e a r} (N:ZlS e=some r) (f:sc h eL a e.Blocks):CallsH P 50 #[.agg #[.int .i64 e.Points,a]] h (fun v h'=>∃ w0,v=.tuple #[.agg #[.int .i64 r.1.Kind,.int .i64 r.1.Size,w0],.int .i64 r.2]/\S ψ h h' [.it (El.ow eL) [w0] r.1.Rows]):=by
 refine zO Tryz.func50 fun C=>?_;refine new_S C fun o i C=>?_;refine new_S C fun u j C=>?_;refine lsA ?_;refine cm1 N C (fun s g=>Zdk s g slA) fun w x k C N=>⟨_,_,_,_,rfl,?_⟩;(iterate 3 refine boxA fun l C=>?_);refine lsA ?_;exact endS
theorem ZeZ {e v0 n1 r} (N:Za5 e n1=some r) (w:sc h eI v0 e):zL 167 #[v0,.int .i64 n1] h ψ eI r:=by
 refine zU [[4,31,39,42]] [[7,147],[10,31,39]] Tryz.func167 fun C=>?_;refine neA eI fun v8 x C=>?_;refine lw31 N (fun v j l f=>([.it oL [v] f],f,j,l)) fun v j l y f a C N O=>?_;refine vL w C.le ?_;apply brQ N<;>intro N
 ·refine ⟨fun k i o=>∃ g,S ψ h o [.it oL [k] g]/\Zby e l g i=some a,?_,?_⟩
  ·refine ⟨fun s u=>S ψ h u [.it oL [v] f]/\Zcl e n1 f j l s=some a,?_,?_⟩
   ·apply brQ N<;>intro N
    ·refine ixI slA N fun a2 N=>?_;exact endC
    ·exact endC
   ·rintro _ s u ⟨C,N⟩;apply brQ N<;>intro N
    ·refine ixI slA N fun a3 N=>?_;apply brQ N<;>intro N
     ·refine puA N 0 fun a4 a5 a6 C N=>?_;exact endC
     ·exact endC
    ·exact endC
  ·rintro _ k i o ⟨g,C,N⟩;refine ixI slA N fun a7 N=>?_;refine puA N 0 fun a8 a9 aa C N=>?_;exact endL
 ·apply brQ N<;>intro N
  ·refine puA N 0 fun ab ac ad C N=>?_;exact endX
  ·exact endX
theorem ZGN {g v0 f v1 r} (N:ZhO g f=some r) (f0:sc h eI v0 g) (k:sc h eI v1 f):zL 92 #[v0,v1] h ψ eI r:=by
 refine zT [[3,31,36]] Tryz.func92 fun C=>?_;refine neA eI fun v7 o C=>?_;refine lw21 N (fun i j e=>([.it oL [i] e],e,j)) fun i j u e a C N O=>?_;refine vL k C.le ?_;apply brQ N<;>intro N
 ·refine ixI slA N fun v N=>?_;refine ixI slA N fun w N=>?_;refine cm1 N C (fun s l=>ZeZ s l slA) fun x y a2 C N=>⟨_,rfl,?_⟩;exact endL
 ·exact endX
theorem ZbA {g v0 r} (N:ZaA g=some r) (v:sc h eL v0 g):zL 93 #[v0] h ψ eL r:=by
 refine zU [[3,19,24],[6,30]] [[8,30]] Tryz.func93 fun C=>?_;refine neA eL fun v7 ab C=>?_;refine lw21 N (fun l w e=>([.it (El.ow eL) [l] e],e,w)) fun l w ac e a C N O=>?_;refine vL v C.le ?_;apply brQ N<;>intro N
 ·refine Zy slA ?_;refine ⟨fun o u=>S ψ h u [.it (El.ow eL) [l] e]/\Zdf g e w o=some a,?_,?_⟩
  ·refine lp1 (os:=[.it (El.ow eL) [l] e]) N (pk C [0]) fun ad a6 a7 ae C N j=>?_;apply brQ N<;>intro N
   ·refine ixA slA N fun af ag x y N=>?_;refine Zb9 C 0 rfl x y fun ah C=>?_;refine ixV v C.le N fun ai aj ak N=>?_;refine cm0 N C (fun s i=>ZhV s i slA slA) fun al a8 C N=>⟨_,rfl,?_⟩;apply brQ N<;>intro N
    ·exact endL
    ·obtain ⟨xm,hq,rfl⟩:=omap N;obtain rfl:=oI j;exact ⟨pk C [1],hq⟩
   ·obtain ⟨xm,hq,rfl⟩:=omap N;obtain rfl:=oI j;exact ⟨pk C [0],hq⟩
  ·rintro _ o u ⟨C,N⟩;refine neA eL fun am ao C=>?_;obtain ⟨ap,i,N⟩:=obind N;refine Zc1 none (some o) slA i fun aq hv=>?_;obtain ⟨ar,a3,N⟩:=obind N;refine app_S C 0 rfl (ZiM 1 rfl hv i rfl Zfh) rfl rfl a3 fun au av C=>?_;dsimp at C;refine ixV v C.le N fun aw ax f N=>?_;refine cm1 N C (fun s i=>Zdp s i slA) fun ay az b0 C N=>⟨_,rfl,?_⟩;refine Zh oneA ?_;have C:=frA 0;have C:=C.copyF 0 rfl;refine piA N 1 fun b1 b2 b3 C N=>?_;obtain ⟨b4,k,N⟩:=obind N;refine Zc1 (some o) none slA k fun b5 a4=>?_;obtain ⟨b6,a5,N⟩:=obind N;refine app_S C 1 rfl (ZiM 2 rfl a4 k rfl Zfh) rfl rfl a5 fun b7 b8 C=>?_;dsimp at C;exact endL
 ·obtain rfl:=oI N;obtain rfl:=oI O;exact endR
theorem Zqk {o w i p1 v1 r} (N:Zee o p1=some r) (j:CellsC (hcell h) w [.int .i64 o.Points,i]) (k:sc h eL i o.Blocks) (f1:sc h eI v1 p1):CallsH P 42 #[.pointer (some w),v1] h (fun v h'=>∃ w0,v=.agg #[.int .i64 r.Points,w0]/\S ψ h h' [.it (El.ow eL) [w0] r.Blocks]):=by
 refine zS hψ ⟨an [[3,31,36]],[],[],[(6,⟨kdL [0,0,0,2,0,3,0,4],.fin [4,5,0,1,2,3,6,7],true⟩)]⟩ Tryz.func42 fun C=>?_;refine new_S C fun b4 a5 C=>?_;refine neA eL fun v7 a6 C=>?_;refine lw21 N (fun x y e=>([.it (El.ow eL) [x] e,.box b4 [.int .i64 0,(.slice none 0 0)]],e,y)) fun x y a2 e a C N O=>?_;refine kV j C.le 1 ?_;refine vL k C.le ?_;apply brQ N<;>intro N
 ·refine kV j C.le 1 ?_;refine ixV k C.le N fun a7 a8 f N=>?_;refine cm1 N C (fun s hx=>ZGN s hx slA slA) fun a9 aa ab C N=>⟨_,rfl,?_⟩;refine Zh oneA ?_;have C:=frA 0;have C:=C.copyF 0 rfl;refine piA N 1 fun ac ad ae C N=>?_;exact endL
 ·refine ⟨fun _=>False,?_⟩;have l:=C;have g:=eX a2;obtain ⟨af,u,N⟩:=obind N;refine ce1 C (fun s=>ZbA s.fle u slA) fun ag ah xE C=>⟨_,rfl,eZ (g.trans xE),?_⟩;replace g:=g.trans xE;refine ZT ?_;refine kI j l.le 0 ?_;refine Zh oneA ?_;(iterate 2 refine boxA fun ai C=>?_);refine lsA ?_;exact endX
theorem ZfX {a0 e c2 r} (N:Zcu a0 e c2=some r)  :zL 253 #[.int .i64 a0,.int .i64 e,.int .i64 c2] h ψ eI r:=by
 refine zO Tryz.func253 fun C=>?_;refine ZP (E:=eI) (css:=[[.int .i64 a0]]) (xs:=([a0]:List Int)) C (fun _=>⟨[],[],rfl,⟨rfl,rfl⟩,rfl⟩) rfl rfl fun u f C=>?_;refine cm1 N C (fun s a=>ZeZ s a slA) fun g i j C N=>⟨_,rfl,?_⟩;refine cm1 N C (fun s a=>ZeZ s a slA) fun k l o C N=>⟨_,rfl,?_⟩;exact endS
theorem ZCD {u r} (N:ZjS u=some r)  :zL 179 #[.int .i64 u] h ψ eL r:=by
 refine zT [[4,25,30],[8,25,36],[12,25,48]] Tryz.func179 fun C=>?_;refine neA eL fun a2 a3 C=>?_;refine lw21 N (fun v w l=>([.it (El.ow eL) [v] l],l,w)) fun v w a4 l a C N O=>?_;apply brQ N<;>intro N
 ·refine cm1 N C (fun s o=>ZfX s o) fun j k a5 C N=>⟨_,rfl,?_⟩;refine Zh oneA ?_;have C:=frA 0;have C:=C.copyF 0 rfl;refine piA N 1 fun a6 a7 a8 C N=>?_;refine lw21 N (fun g x e=>([.it eL [k] j,.it (El.ow eL) [g] e],e,x)) fun g x a9 e aa C N O=>?_;apply brQ N<;>intro N
  ·refine gzA N fun N=>?_;refine lw21 N (fun i y f=>([.it eL [k] j,.it (El.ow eL) [i] f],f,y)) fun i y ab f ac C N O=>?_;apply brQ N<;>intro N
   ·refine gzA N fun N=>?_;refine cm1 N C (fun s o=>ZfX s o) fun ad ae af C N=>⟨_,rfl,?_⟩;refine Zh oneA ?_;have C:=frA 0;have C:=C.copyF 0 rfl;refine piA N 2 fun ag ah ai C N=>?_;exact endL
   ·exact endX
  ·exact endX
 ·exact endX
theorem Zx1 {y r} (N:Zh5 y=some r)  :zL 180 #[.int .i64 y] h ψ eL r:=by
 refine zU [[4,25,30],[8,25,36],[12,25,42],[15,25,48],[22,25,66]] [[21,60]] Tryz.func180 fun C=>?_;refine neA eL fun aj ak C=>?_;refine lw21 N (fun v4 y5 y4=>([.it (El.ow eL) [v4] y4],y4,y5)) fun v4 y5 al y4 a C N O=>?_;apply brQ N<;>intro N
 ·refine cm1 N C (fun s k=>ZfX s k) fun a7 a8 am C N=>⟨_,rfl,?_⟩;refine Zh oneA ?_;have C:=frA 0;have C:=C.copyF 0 rfl;refine piA N 1 fun ao ap aq C N=>?_;refine lw21 N (fun l y6 f=>([.it eL [a8] a7,.it (El.ow eL) [l] f],f,y6)) fun l y6 ar f au C N O=>?_;apply brQ N<;>intro N
  ·refine gzA N fun N=>?_;refine cm1 N C (fun s k=>ZfX s k) fun av aw ax C N=>⟨_,rfl,?_⟩;refine Zh oneA ?_;have C:=frA 0;have C:=C.copyF 0 rfl;refine piA N 2 fun ay az b0 C N=>?_;exact endL
  ·exact endX
 ·refine lw21 N (fun o y7 g=>([.it (El.ow eL) [o] g],g,y7)) fun o y7 b1 g b2 C N O=>?_;apply brQ N<;>intro N
  ·refine lw21 N (fun i y8 e=>([.it (El.ow eL) [i] e],e,y8)) fun i y8 ab e aa C N O=>?_;apply brQ N<;>intro N
   ·refine gzA N fun N=>?_;refine gzA N fun N=>?_;refine ⟨fun w u=>S ψ h u [.it (El.ow eL) [i] e]/\Zgq y y7 e y8 w=some aa,?_,?_⟩
    ·refine gzA N fun N=>?_;apply brQ N<;>intro N
     ·exact endC
     ·exact endC
    ·rintro _ w u ⟨C,N⟩;refine lw21 N (fun v x j=>([.it (El.ow eL) [v] j],j,x)) fun v x ac j b3 C N O=>?_;apply brQ N<;>intro N
     ·refine gzA N fun N=>?_;refine cm1 N C (fun s k=>ZfX s k) fun ad ae af C N=>⟨_,rfl,?_⟩;refine Zh oneA ?_;have C:=frA 0;have C:=C.copyF 0 rfl;refine piA N 1 fun ag ah ai C N=>?_;exact endL
     ·exact endX
   ·exact endX
  ·exact endX
theorem ZHh {v0 r} (N:ZfZ v0=some r)  :CallsH P 108 #[.int .i64 v0] h (fun v h'=>∃ w0,v=.agg #[.int .i64 r.Points,w0]/\S ψ h h' [.it (El.ow eL) [w0] r.Blocks]):=by
 refine zO Tryz.func108 fun C=>?_;refine new_S C fun b2 f C=>?_;refine gzA N fun N=>?_;apply brQ N<;>intro N
 ·refine gzA N fun N=>?_;refine cm1 N C (fun s a=>ZCD s a) fun g i j C N=>⟨_,rfl,?_⟩;refine cm1 N C (fun s a=>ZbA s a slA) fun k l o C N=>⟨_,rfl,?_⟩;refine Zh oneA ?_;(iterate 2 refine boxA fun u C=>?_);refine lsA ?_;exact endS
 ·refine gzA N fun N=>?_;refine cm1 N C (fun s a=>Zx1 s a) fun w x y C N=>⟨_,rfl,?_⟩;refine cm1 N C (fun s a=>ZbA s a slA) fun a2 a3 a4 C N=>⟨_,rfl,?_⟩;refine Zh oneA ?_;(iterate 2 refine boxA fun e C=>?_);refine lsA ?_;exact endS
end
theorem Zbs {ψ:CM} {g h:Heap} {os:List Ob} {i:Za} {k:Nat} {e:List Value} {a:Value} {f:List Int} {v1:Value} {r:Int×Za} (N:ZaL i f=some r) (C:S ψ g h (.box k (a::.int .i64 i.qat::.int .u64 i.qseed::e)::os)) (l:SlC (UB ψ g) (El.int .u8) a i.qcode) (o:SlC (UB ψ g) eI v1 f):CallsH P 113 #[.pointer (some ⟨k,0,none⟩),v1] h (fun v h'=>v=.int .i64 r.1/\S ψ g h' (.box k (a::.int .i64 r.2.qat::.int .u64 r.2.qseed::e)::os)):=by
 refine zv annO Tryz.func113 ?_;refine vL o C.leU ?_;obtain ⟨r9,u,N⟩:=obind N;obtain ⟨φ,L,s,j⟩:=id C;refine (ZH u (s.upS j) (l.mono s.ubU)).mono fun x y ⟨w,t⟩=>⟨_,w,?_⟩;replace C:=s.downS t;clear t s j;refine ixI slA N fun a2 N=>?_;obtain rfl:=oI N;exact ⟨rfl,pkT C 1 [0]⟩
theorem ZuS {ψ:CM} {l h:Heap} {os:List Ob} {j:Za} {o:Nat} {e:List Value} {f:Value} {a3:Int} {r:(List (List Int))×Za} (N:ZfL j a3=some r) (C:S ψ l h (.box o (f::.int .i64 j.qat::.int .u64 j.qseed::e)::os)) (i:SlC (UB ψ l) (El.int .u8) f j.qcode):CallsH P 110 #[.pointer (some ⟨o,0,none⟩),.int .i64 a3] h (fun v h'=>∃ w0,v=w0/\S ψ l h' (.it (El.ow eL) [w0] r.1::.box o (f::.int .i64 r.2.qat::.int .u64 r.2.qseed::e)::os)):=by
 refine zv ⟨an [[3,31,36],[7,43,48]],[],[],[]⟩ Tryz.func110 ?_;refine neA eL fun v9 au C=>?_;have C:S ψ l au (.box o (f::.int .i64 j.qat::.int .u64 j.qseed::e)::.it (El.ow eL) [v9] ([]:List (List Int))::os):=pkT C 2 [1,0];obtain ⟨b9,hx,N⟩:=obind N;obtain ⟨φ,L,s,a8⟩:=id C;refine (ZH hx (s.upS a8) (i.mono s.ubU)).mono fun ba bb ⟨eq,t⟩=>⟨_,eq,?_⟩;replace C:=s.downS t;clear t s a8;obtain ⟨av,hn⟩:=ZN N;refine ⟨fun n v5 n6 a9=>∃ g q a4,S ψ l a9 (.box o (f::.int .i64 q::.int .u64 a4::e)::.it (El.ow eL) [v5] g::os)/\loopN (ZnC j a3) n (g,n6,q,a4)=some r,⟨av,_,_,_,pkT C 2 [0,1],hn⟩,?_⟩;rintro n _ v5 n6 a9 ⟨g,q,a4,C,hn⟩;obtain ⟨m,a,rfl,N,O⟩:=ZM hn;apply brQ N<;>intro N
 ·obtain ⟨k,al,N⟩:=obind N;obtain ⟨b4,bc,x,aa⟩:=id C;refine (ZH al (x.upS aa) (i.mono x.ubU)).mono fun bd be ⟨am,ab⟩=>⟨_,am,?_⟩;replace C:=x.downS ab;clear ab x aa;refine ZP (E:=eI) (css:=[[.int .i64 k.1]]) (xs:=([k.1]:List Int)) C (fun _=>⟨[],[],rfl,⟨rfl,rfl⟩,rfl⟩) rfl rfl fun aw ax C=>?_;have C:S ψ l ax (.box o (f::.int .i64 k.2.qat::.int .u64 k.2.qseed::e)::.it oL [aw] ([k.1]:List Int)::.it (El.ow eL) [v5] g::os):=pkT C 3 [1,0,2];obtain ⟨bf,ao,N⟩:=obind N;obtain ⟨b5,bg,y,ac⟩:=id C;refine (ZH ao (y.upS ac) (i.mono y.ubU)).mono fun bh bi ⟨ap,ad⟩=>⟨_,ap,?_⟩;replace C:=y.downS ad;clear ad y ac;obtain ⟨ay,u⟩:=ZN N;refine ⟨fun ae v7 k8 af=>∃ w a5 a6,S ψ l af (.box o (f::.int .i64 a5::.int .u64 a6::e)::.it oL [v7] w::.it (El.ow eL) [v5] g::os)/\loopN (Znk j a3 g n6) ae (w,k8,a5,a6)=some a,⟨ay,_,_,_,pkT C 3 [0,1,2],u⟩,?_⟩;rintro ae _ v7 k8 af ⟨w,a5,a6,C,u⟩;obtain ⟨bj,bk,rfl,N,a7⟩:=ZM u;apply brQ N<;>intro N
  ·obtain ⟨bm,aq,N⟩:=obind N;obtain ⟨b6,bn,a2,ag⟩:=id C;refine (ZH aq (a2.upS ag) (i.mono a2.ubU)).mono fun bo bp ⟨ar,ah⟩=>⟨_,ar,?_⟩;replace C:=a2.downS ah;clear ah a2 ag;refine cm1 N C (fun s hx=>ZeZ s hx slA) fun bq br b7 C N=>⟨_,rfl,?_⟩;obtain rfl:=oI N;exact ⟨_,ltS,_,_,_,pkT C 4 [1,0,3],a7⟩
  ·refine Zh oneA ?_;have C:=frA 1;have C:=C.copyF 1 rfl;refine piA N 2 fun bs bt b8 C N=>?_;obtain rfl:=oI N;obtain rfl:=oI a7;exact ⟨_,ltS,_,_,_,pkT C 3 [0,2],O⟩
 ·obtain rfl:=oI N;obtain rfl:=oI O;exact ⟨v5,rfl,pkT C 2 [1,0]⟩
end Go.Proofs.YtahnjnfpjcfklaaGreatDoor
