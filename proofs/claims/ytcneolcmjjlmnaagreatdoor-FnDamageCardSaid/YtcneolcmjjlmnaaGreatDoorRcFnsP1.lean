import Derived.Test.YtcneolcmjjlmnaaGreatDoorVcWx
import Derived.Test.YtcneolcmjjlmnaaGreatDoorVcRd
import Derived.Test.YtcneolcmjjlmnaaGreatDoorVcQ
import Derived.Test.YtcneolcmjjlmnaaGreatDoorVcCpt
import Derived.Test.YtcneolcmjjlmnaaGreatDoorVcGrow
import Derived.Test.YtcneolcmjjlmnaaGreatDoorVcSortI
import Derived.Test.YtcneolcmjjlmnaaGreatDoorVcSortK
import Derived.Test.YtcneolcmjjlmnaaGreatDoorVcLay
open Option renaming some->Jg,none->Jh
open Bool renaming true->Ji,false->Jj
open Go renaming Value->Jl
namespace Go.Proofs.YtcneolcmjjlmnaaGreatDoor
open Go Go.Vc
set_option linter.unusedVariables false
set_option linter.unusedSimpArgs false
set_option maxRecDepth 20000
def ZJ6:El Za:=El.iso (El.pair (El.ow (El.int .u8)) (El.pair eI (El.int .u64))) (λx=>(x.qcode,x.qat,x.qseed)) (Za.mk ([]:Jb) (0:Int) (0:Int)) rfl
def ZmN:El Za:=El.iso (El.pair (El.sl (El.int .u8)) (El.pair eI (El.int .u64))) (λx=>(x.qcode,x.qat,x.qseed)) (Za.mk ([]:Jb) (0:Int) (0:Int)) rfl
theorem frzo_T_spec_l00Src:Frz ZJ6 ZmN:=Zab (ZB (ZO (Zk _)) (ZB (Zk _) (Zk _)))
theorem frzf_T_spec_l00Src:Frz ZmN ZmN:=Zab (ZB (Zah _) (ZB (Zk _) (Zk _)))
theorem ZE6 {φ:CM} {L:Rws} {cs:Jc} {x:Za} (h:ZmN.R φ L cs x):∃v0:Jl,cs=[v0,.int .i64 x.qat,.int .u64 x.qseed]/\SlC φ (El.int .u8) v0 x.qcode:=by
  obtain ⟨_,_,_,_,rfl,_,a,e⟩:=h;obtain ⟨_,w2,rfl,i⟩:=a;obtain ⟨_,_,_,_,rfl,_,f,g⟩:=e;obtain ⟨_,rfl⟩:=f;obtain ⟨_,rfl⟩:=g;exact ⟨w2,rfl,i⟩
def ZKH:El ZE:=El.iso (El.pair eI (El.pair eI (El.ow oL))) (λx=>(x.Levels,x.Columns,x.Rows)) (ZE.mk (0:Int) (0:Int) ([]:Ja)) rfl
def ZmR:El ZE:=El.iso (El.pair eI (El.pair eI (El.sl eL))) (λx=>(x.Levels,x.Columns,x.Rows)) (ZE.mk (0:Int) (0:Int) ([]:Ja)) rfl
theorem frzo_T_impl_Array:Frz ZKH ZmR:=Zab (ZB (Zk _) (ZB (Zk _) (ZO (ZO (Zk _)))))
theorem frzf_T_impl_Array:Frz ZmR ZmR:=Zab (ZB (Zk _) (ZB (Zk _) (Zah _)))
theorem ZHX {φ:CM} {L:Rws} {cs:Jc} {x:ZE} (h:ZmR.R φ L cs x):∃i:Jl,cs=[.int .i64 x.Levels,.int .i64 x.Columns,i]/\SlC φ eL i x.Rows:=by
  obtain ⟨_,_,_,_,rfl,_,a,e⟩:=h;obtain ⟨_,rfl⟩:=a;obtain ⟨_,_,_,_,rfl,_,f,g⟩:=e;obtain ⟨_,rfl⟩:=f;obtain ⟨_,j,rfl,k⟩:=g;exact ⟨j,rfl,k⟩
def ZyP:El Zd:=El.iso (El.pair eI (El.pair eI oL)) (λx=>(x.Prime,x.Degree,x.Poly)) (Zd.mk (0:Int) (0:Int) ([]:Jb)) rfl
def ZiP:El Zd:=El.iso (El.pair eI (El.pair eI eL)) (λx=>(x.Prime,x.Degree,x.Poly)) (Zd.mk (0:Int) (0:Int) ([]:Jb)) rfl
theorem frzo_T_impl_Field:Frz ZyP ZiP:=Zab (ZB (Zk _) (ZB (Zk _) (ZO (Zk _))))
theorem frzf_T_impl_Field:Frz ZiP ZiP:=Zab (ZB (Zk _) (ZB (Zk _) (Zah _)))
theorem ZGg {φ:CM} {L:Rws} {cs:Jc} {x:Zd} (h:ZiP.R φ L cs x):∃i:Jl,cs=[.int .i64 x.Prime,.int .i64 x.Degree,i]/\SlC φ eI i x.Poly:=by
  obtain ⟨_,_,_,_,rfl,_,a,e⟩:=h;obtain ⟨_,rfl⟩:=a;obtain ⟨_,_,_,_,rfl,_,f,g⟩:=e;obtain ⟨_,rfl⟩:=f;obtain ⟨_,j,rfl,k⟩:=g;exact ⟨j,rfl,k⟩
def ZMp:El ZM:=El.iso (El.pair ZyP (El.ow oL)) (λx=>(x.Field,x.Rows)) (ZM.mk (Zd.mk (0:Int) (0:Int) ([]:Jb)) ([]:Ja)) rfl
def Zlz:El ZM:=El.iso (El.pair ZiP (El.sl eL)) (λx=>(x.Field,x.Rows)) (ZM.mk (Zd.mk (0:Int) (0:Int) ([]:Jb)) ([]:Ja)) rfl
theorem frzo_T_impl_Code:Frz ZMp Zlz:=Zab (ZB frzo_T_impl_Field (ZO (ZO (Zk _))))
theorem frzf_T_impl_Code:Frz Zlz Zlz:=Zab (ZB frzf_T_impl_Field (Zah _))
theorem ZKi {φ:CM} {L:Rws} {cs:Jc} {x:ZM} (h:Zlz.R φ L cs x):∃k:Jl,∃l:Jl,cs=[.int .i64 x.Field.Prime,.int .i64 x.Field.Degree,k,l]/\SlC φ eI k x.Field.Poly/\SlC φ eL l x.Rows:=by
  obtain ⟨_,_,_,_,rfl,_,a,e⟩:=h;obtain ⟨_,_,_,_,rfl,_,f,g⟩:=a;obtain ⟨_,rfl⟩:=f;obtain ⟨_,_,_,_,rfl,_,i,j⟩:=g;obtain ⟨_,rfl⟩:=i;obtain ⟨_,o,rfl,r⟩:=j;obtain ⟨_,s,rfl,u⟩:=e;exact ⟨o,s,rfl,r,u⟩
def ZO2:El Zz:=El.iso (El.pair eI (El.ow oL)) (λx=>(x.Points,x.Blocks)) (Zz.mk (0:Int) ([]:Ja)) rfl
def Zm4:El Zz:=El.iso (El.pair eI (El.sl eL)) (λx=>(x.Points,x.Blocks)) (Zz.mk (0:Int) ([]:Ja)) rfl
theorem frzo_T_impl_Design:Frz ZO2 Zm4:=Zab (ZB (Zk _) (ZO (ZO (Zk _))))
theorem frzf_T_impl_Design:Frz Zm4 Zm4:=Zab (ZB (Zk _) (Zah _))
theorem ZOX {φ:CM} {L:Rws} {cs:Jc} {x:Zz} (h:Zm4.R φ L cs x):∃v1:Jl,cs=[.int .i64 x.Points,v1]/\SlC φ eL v1 x.Blocks:=by
  obtain ⟨_,_,_,_,rfl,_,a,e⟩:=h;obtain ⟨_,rfl⟩:=a;obtain ⟨_,f,rfl,g⟩:=e;exact ⟨f,rfl,g⟩
def ZBF:El Zf:=El.iso (El.pair eI (El.pair eI (El.ow oL))) (λx=>(x.Kind,x.Size,x.Rows)) (Zf.mk (0:Int) (0:Int) ([]:Ja)) rfl
def ZjB:El Zf:=El.iso (El.pair eI (El.pair eI (El.sl eL))) (λx=>(x.Kind,x.Size,x.Rows)) (Zf.mk (0:Int) (0:Int) ([]:Ja)) rfl
theorem frzo_T_impl_Object:Frz ZBF ZjB:=Zab (ZB (Zk _) (ZB (Zk _) (ZO (ZO (Zk _)))))
theorem frzf_T_impl_Object:Frz ZjB ZjB:=Zab (ZB (Zk _) (ZB (Zk _) (Zah _)))
theorem ZLF {φ:CM} {L:Rws} {cs:Jc} {x:Zf} (h:ZjB.R φ L cs x):∃i:Jl,cs=[.int .i64 x.Kind,.int .i64 x.Size,i]/\SlC φ eL i x.Rows:=by
  obtain ⟨_,_,_,_,rfl,_,a,e⟩:=h;obtain ⟨_,rfl⟩:=a;obtain ⟨_,_,_,_,rfl,_,f,g⟩:=e;obtain ⟨_,rfl⟩:=f;obtain ⟨_,j,rfl,k⟩:=g;exact ⟨j,rfl,k⟩
def ZD6:El Zc:=El.iso (El.pair eI eI) (λx=>(x.A,x.B)) (Zc.mk (0:Int) (0:Int)) rfl
def Zg:El Zc:=El.iso (El.pair eI eI) (λx=>(x.A,x.B)) (Zc.mk (0:Int) (0:Int)) rfl
theorem frzo_T_impl_Edge:Frz ZD6 Zg:=Zab (ZB (Zk _) (Zk _))
theorem frzf_T_impl_Edge:Frz Zg Zg:=Zab (ZB (Zk _) (Zk _))
theorem Zrf:Plain Zg:=ZEu (ZO5 (Zcy _) (Zcy _))
theorem Zcu {φ:CM} {L:Rws} {cs:Jc} {x:Zc} (h:Zg.R φ L cs x):cs=[.int .i64 x.A,.int .i64 x.B]:=by
  obtain ⟨_,_,_,_,rfl,_,a,e⟩:=h;obtain ⟨_,rfl⟩:=a;obtain ⟨_,rfl⟩:=e;rfl
def ZjC:El Zb:=El.iso (El.pair oL (El.ow ZD6)) (λx=>(x.Colors,x.Edges)) (Zb.mk ([]:Jb) ([]:List Zc)) rfl
def Zc6:El Zb:=El.iso (El.pair eL (El.sl Zg)) (λx=>(x.Colors,x.Edges)) (Zb.mk ([]:Jb) ([]:List Zc)) rfl
theorem frzo_T_impl_Graph:Frz ZjC Zc6:=Zab (ZB (ZO (Zk _)) (ZO frzo_T_impl_Edge))
theorem frzf_T_impl_Graph:Frz Zc6 Zc6:=Zab (ZB (Zah _) (Zah _))
theorem ZHI {φ:CM} {L:Rws} {cs:Jc} {x:Zb} (h:Zc6.R φ L cs x):∃v0:Jl,∃v1:Jl,cs=[v0,v1]/\SlC φ eI v0 x.Colors/\SlC φ Zg v1 x.Edges:=by
  obtain ⟨_,_,_,_,rfl,_,a,e⟩:=h;obtain ⟨_,w2,rfl,f⟩:=a;obtain ⟨_,g,rfl,i⟩:=e;exact ⟨w2,g,rfl,f,i⟩
def ZMR:El Zal:=El.iso (El.pair eI (El.ow oL)) (λx=>(x.Degree,x.Elements)) (Zal.mk (0:Int) ([]:Ja)) rfl
def ZlB:El Zal:=El.iso (El.pair eI (El.sl eL)) (λx=>(x.Degree,x.Elements)) (Zal.mk (0:Int) ([]:Ja)) rfl
theorem frzo_T_impl_Group:Frz ZMR ZlB:=Zab (ZB (Zk _) (ZO (ZO (Zk _))))
theorem frzf_T_impl_Group:Frz ZlB ZlB:=Zab (ZB (Zk _) (Zah _))
theorem ZMN {φ:CM} {L:Rws} {cs:Jc} {x:Zal} (h:ZlB.R φ L cs x):∃v1:Jl,cs=[.int .i64 x.Degree,v1]/\SlC φ eL v1 x.Elements:=by
  obtain ⟨_,_,_,_,rfl,_,a,e⟩:=h;obtain ⟨_,rfl⟩:=a;obtain ⟨_,f,rfl,g⟩:=e;exact ⟨f,rfl,g⟩
def Zd3:El Zh:=El.iso (El.pair El.str (El.pair ZBF El.str)) (λx=>(x.Name,x.Object,x.Key)) (Zh.mk (⟨#[]⟩:Jd) (Zf.mk (0:Int) (0:Int) ([]:Ja)) (⟨#[]⟩:Jd)) rfl
def Zaf:El Zh:=El.iso (El.pair El.str (El.pair ZjB El.str)) (λx=>(x.Name,x.Object,x.Key)) (Zh.mk (⟨#[]⟩:Jd) (Zf.mk (0:Int) (0:Int) ([]:Ja)) (⟨#[]⟩:Jd)) rfl
theorem frzo_T_impl_Item:Frz Zd3 Zaf:=Zab (ZB Zft (ZB frzo_T_impl_Object Zft))
theorem frzf_T_impl_Item:Frz Zaf Zaf:=Zab (ZB Zft (ZB frzf_T_impl_Object Zft))
theorem pko_T_impl_Item {ψ:CM} {a h:Heap} {os:List Ob} {x0:Jd} {x1 x2:Int} {e:Ja} {f:Jl} {x4:Jd} (C:S ψ a h (.it (El.ow oL) [f] e::os)):S ψ a h (.it Zd3 [.string x0,.int .i64 x1,.int .i64 x2,f,.string x4] (Zh.mk x0 (Zf.mk x1 x2 e) x4)::os):=by
  obtain ⟨φ,l,s,j,k,rfl,g,r⟩:=C;exact ⟨φ,_,s,([]++(([]++([]++j))++[])),k,by simp,(ZcV Zk2 (ZcV (ZcV Zko (ZcV Zko g)) Zk2)),r⟩
theorem pkf_T_impl_Item {ψ:CM} {a h:Heap} {os:List Ob} {x0:Jd} {x1 x2:Int} {e:Ja} {f:Jl} {x4:Jd} (C:S ψ a h (.it (El.sl eL) [f] e::os)):S ψ a h (.it Zaf [.string x0,.int .i64 x1,.int .i64 x2,f,.string x4] (Zh.mk x0 (Zf.mk x1 x2 e) x4)::os):=by
  obtain ⟨φ,l,s,j,k,rfl,g,r⟩:=C;exact ⟨φ,_,s,([]++(([]++([]++j))++[])),k,by simp,(ZcV Zk2 (ZcV (ZcV Zko (ZcV Zko g)) Zk2)),r⟩
theorem ZaV {φ:CM} {L:Rws} {cs:Jc} {x:Zh} (h:Zaf.R φ L cs x):∃o:Jl,cs=[.string x.Name,.int .i64 x.Object.Kind,.int .i64 x.Object.Size,o,.string x.Key]/\SlC φ eL o x.Object.Rows:=by
  obtain ⟨_,_,_,_,rfl,_,a,e⟩:=h;obtain ⟨_,rfl⟩:=a;obtain ⟨_,_,_,_,rfl,_,f,g⟩:=e;obtain ⟨_,_,_,_,rfl,_,i,j⟩:=f;obtain ⟨_,rfl⟩:=i;obtain ⟨_,_,_,_,rfl,_,k,l⟩:=j;obtain ⟨_,rfl⟩:=k;obtain ⟨_,r,rfl,s⟩:=l;obtain ⟨_,rfl⟩:=g;exact ⟨r,rfl,s⟩
def ZJG:El ZA:=El.iso (El.ow Zd3) (λx=>(x.Items)) (ZA.mk ([]:List Zh)) rfl
def Zny:El ZA:=El.iso (El.sl Zaf) (λx=>(x.Items)) (ZA.mk ([]:List Zh)) rfl
theorem frzo_T_impl_Catalog:Frz ZJG Zny:=Zab (ZO frzo_T_impl_Item)
theorem frzf_T_impl_Catalog:Frz Zny Zny:=Zab (Zah _)
theorem ZNC {φ:CM} {L:Rws} {cs:Jc} {x:ZA} (h:Zny.R φ L cs x):∃v0:Jl,cs=[v0]/\SlC φ Zaf v0 x.Items:=by
  obtain ⟨_,w2,rfl,a⟩:=h;exact ⟨w2,rfl,a⟩
def ZGA:El ZH:=El.iso (El.pair ZjC (El.pair (El.ow oL) (El.pair ZjC (El.pair (El.ow oL) (El.pair eI (El.pair eI (El.pair eI El.bool))))))) (λx=>(x.qg,x.qnear,x.qbest,x.qperms,x.qnodes,x.qleaves,x.qbudget,x.qfull)) (ZH.mk (Zb.mk ([]:Jb) ([]:List Zc)) ([]:Ja) (Zb.mk ([]:Jb) ([]:List Zc)) ([]:Ja) (0:Int) (0:Int) (0:Int) Jj) rfl
def Zm1:El ZH:=El.iso (El.pair Zc6 (El.pair (El.sl eL) (El.pair Zc6 (El.pair (El.sl eL) (El.pair eI (El.pair eI (El.pair eI El.bool))))))) (λx=>(x.qg,x.qnear,x.qbest,x.qperms,x.qnodes,x.qleaves,x.qbudget,x.qfull)) (ZH.mk (Zb.mk ([]:Jb) ([]:List Zc)) ([]:Ja) (Zb.mk ([]:Jb) ([]:List Zc)) ([]:Ja) (0:Int) (0:Int) (0:Int) Jj) rfl
theorem frzo_T_spec_l22Find:Frz ZGA Zm1:=Zab (ZB frzo_T_impl_Graph (ZB (ZO (ZO (Zk _))) (ZB frzo_T_impl_Graph (ZB (ZO (ZO (Zk _))) (ZB (Zk _) (ZB (Zk _) (ZB (Zk _) ZgC)))))))
theorem frzf_T_spec_l22Find:Frz Zm1 Zm1:=Zab (ZB frzf_T_impl_Graph (ZB (Zah _) (ZB frzf_T_impl_Graph (ZB (Zah _) (ZB (Zk _) (ZB (Zk _) (ZB (Zk _) ZgC)))))))
theorem ZKD {φ:CM} {L:Rws} {cs:Jc} {x:ZH} (h:Zm1.R φ L cs x):∃v0:Jl,∃v1:Jl,∃v2:Jl,∃v3:Jl,∃v4:Jl,∃v5:Jl,cs=[v0,v1,v2,v3,v4,v5,.int .i64 x.qnodes,.int .i64 x.qleaves,.int .i64 x.qbudget,.bool x.qfull]/\SlC φ eI v0 x.qg.Colors/\SlC φ Zg v1 x.qg.Edges/\SlC φ eL v2 x.qnear/\SlC φ eI v3 x.qbest.Colors/\SlC φ Zg v4 x.qbest.Edges/\SlC φ eL v5 x.qperms:=by
  obtain ⟨_,_,_,_,rfl,_,a,e⟩:=h;obtain ⟨_,_,_,_,rfl,_,f,g⟩:=a;obtain ⟨_,w3,rfl,g3⟩:=f;obtain ⟨_,w4,rfl,g4⟩:=g;obtain ⟨_,_,_,_,rfl,_,i,j⟩:=e;obtain ⟨_,w5,rfl,g5⟩:=i;obtain ⟨_,_,_,_,rfl,_,k,l⟩:=j;obtain ⟨_,_,_,_,rfl,_,o,r⟩:=k;obtain ⟨_,w7,rfl,g7⟩:=o;obtain ⟨_,w8,rfl,g8⟩:=r;obtain ⟨_,_,_,_,rfl,_,s,u⟩:=l;obtain ⟨_,w9,rfl,g9⟩:=s;obtain ⟨_,_,_,_,rfl,_,v,w⟩:=u;obtain ⟨_,rfl⟩:=v;obtain ⟨_,_,_,_,rfl,_,y,a2⟩:=w;obtain ⟨_,rfl⟩:=y;obtain ⟨_,_,_,_,rfl,_,a3,a4⟩:=a2;obtain ⟨_,rfl⟩:=a3;obtain ⟨_,rfl⟩:=a4;exact ⟨w3,w4,w5,w7,w8,w9,rfl,g3,g4,g5,g7,g8,g9⟩
def ZJH:El Z7:=El.iso (El.pair eI (El.pair (El.ow oL) (El.pair (El.ow oL) (El.pair (El.ow oL) oL)))) (λx=>(x.qq,x.qadd,x.qsub,x.qmul,x.qinv)) (Z7.mk (0:Int) ([]:Ja) ([]:Ja) ([]:Ja) ([]:Jb)) rfl
def Zj4:El Z7:=El.iso (El.pair eI (El.pair (El.sl eL) (El.pair (El.sl eL) (El.pair (El.sl eL) eL)))) (λx=>(x.qq,x.qadd,x.qsub,x.qmul,x.qinv)) (Z7.mk (0:Int) ([]:Ja) ([]:Ja) ([]:Ja) ([]:Jb)) rfl
theorem frzo_T_impl_arithmetic:Frz ZJH Zj4:=Zab (ZB (Zk _) (ZB (ZO (ZO (Zk _))) (ZB (ZO (ZO (Zk _))) (ZB (ZO (ZO (Zk _))) (ZO (Zk _))))))
theorem frzf_T_impl_arithmetic:Frz Zj4 Zj4:=Zab (ZB (Zk _) (ZB (Zah _) (ZB (Zah _) (ZB (Zah _) (Zah _)))))
theorem ZNE {φ:CM} {L:Rws} {cs:Jc} {x:Z7} (h:Zj4.R φ L cs x):∃v1:Jl,∃o:Jl,∃r:Jl,∃s:Jl,cs=[.int .i64 x.qq,v1,o,r,s]/\SlC φ eL v1 x.qadd/\SlC φ eL o x.qsub/\SlC φ eL r x.qmul/\SlC φ eI s x.qinv:=by
  obtain ⟨_,_,_,_,rfl,_,a,e⟩:=h;obtain ⟨_,rfl⟩:=a;obtain ⟨_,_,_,_,rfl,_,f,g⟩:=e;obtain ⟨_,u,rfl,v⟩:=f;obtain ⟨_,_,_,_,rfl,_,i,j⟩:=g;obtain ⟨_,w,rfl,y⟩:=i;obtain ⟨_,_,_,_,rfl,_,k,l⟩:=j;obtain ⟨_,w5,rfl,g5⟩:=k;obtain ⟨_,w6,rfl,g6⟩:=l;exact ⟨u,w,w5,w6,rfl,v,y,g5,g6⟩
def ZyH:El Zag:=El.iso (El.pair eI El.bool) (λx=>(x.qleft,x.qspent)) (Zag.mk (0:Int) Jj) rfl
def ZgG:El Zag:=El.iso (El.pair eI El.bool) (λx=>(x.qleft,x.qspent)) (Zag.mk (0:Int) Jj) rfl
theorem frzo_T_impl_counter:Frz ZyH ZgG:=Zab (ZB (Zk _) ZgC)
theorem frzf_T_impl_counter:Frz ZgG ZgG:=Zab (ZB (Zk _) ZgC)
theorem ZLJ {φ:CM} {L:Rws} {cs:Jc} {x:Zag} (h:ZgG.R φ L cs x):cs=[.int .i64 x.qleft,.bool x.qspent]:=by
  obtain ⟨_,_,_,_,rfl,_,a,e⟩:=h;obtain ⟨_,rfl⟩:=a;obtain ⟨_,rfl⟩:=e;rfl
def ZM9:El ZI:=El.iso (El.pair ZyH (El.pair ZjC (El.pair (El.ow oL) (El.pair eI (El.pair eI (El.pair ZjC (El.ow oL))))))) (λx=>(x.qcounter,x.qgraph,x.qlists,x.qnodes,x.qleaves,x.qform,x.qbest)) (ZI.mk (Zag.mk (0:Int) Jj) (Zb.mk ([]:Jb) ([]:List Zc)) ([]:Ja) (0:Int) (0:Int) (Zb.mk ([]:Jb) ([]:List Zc)) ([]:Ja)) rfl
def Zns:El ZI:=El.iso (El.pair ZgG (El.pair Zc6 (El.pair (El.sl eL) (El.pair eI (El.pair eI (El.pair Zc6 (El.sl eL))))))) (λx=>(x.qcounter,x.qgraph,x.qlists,x.qnodes,x.qleaves,x.qform,x.qbest)) (ZI.mk (Zag.mk (0:Int) Jj) (Zb.mk ([]:Jb) ([]:List Zc)) ([]:Ja) (0:Int) (0:Int) (Zb.mk ([]:Jb) ([]:List Zc)) ([]:Ja)) rfl
theorem frzo_T_impl_explorer:Frz ZM9 Zns:=Zab (ZB frzo_T_impl_counter (ZB frzo_T_impl_Graph (ZB (ZO (ZO (Zk _))) (ZB (Zk _) (ZB (Zk _) (ZB frzo_T_impl_Graph (ZO (ZO (Zk _)))))))))
theorem frzf_T_impl_explorer:Frz Zns Zns:=Zab (ZB frzf_T_impl_counter (ZB frzf_T_impl_Graph (ZB (Zah _) (ZB (Zk _) (ZB (Zk _) (ZB frzf_T_impl_Graph (Zah _)))))))
theorem zS {ψ:CM} {f:FuncId} {fn:Func} {g:Jc} {h:Heap} {R:Jl->Heap->Prop} (hψ:CLe ψ (hcell h)) (A:Ann) (j:P.funcs[f]?=Jg fn) (a:S ψ h h []->vcFn ctx A fn g h R)
    (e:((match fn.body with|some c=>aOk ctx A c&&cOk fn.ntmps c|none=>Jj)&&Nat.ble g.length fn.ntmps)=Ji:=by kernel_rfl):CallsH P f g.toArray h R:=zv A j (a (S.start hψ)) e
theorem zU {ψ:CM} {f:FuncId} {fn:Func} {g:Jc} {h:Heap} {R:Jl->Heap->Prop} (l c:List (List Nat)) (j:P.funcs[f]?=Jg fn) (a:S ψ h h []->vcFn ctx ⟨an l,an c,[],[]⟩ fn g h R) (hψ:CLe ψ (hcell h):=by exact hψ)
    (e:((match fn.body with|some k=>aOk ctx ⟨an l,an c,[],[]⟩ k&&cOk fn.ntmps k|none=>Jj)&&Nat.ble g.length fn.ntmps)=Ji:=by kernel_rfl):CallsH P f g.toArray h R:=zv _ j (a (S.start hψ)) e
theorem zT {ψ:CM} {f:FuncId} {fn:Func} {g:Jc} {h:Heap} {R:Jl->Heap->Prop} (l:List (List Nat)) (j:P.funcs[f]?=Jg fn) (a:S ψ h h []->vcFn ctx ⟨an l,[],[],[]⟩ fn g h R) (hψ:CLe ψ (hcell h):=by exact hψ)
    (e:((match fn.body with|some k=>aOk ctx ⟨an l,[],[],[]⟩ k&&cOk fn.ntmps k|none=>Jj)&&Nat.ble g.length fn.ntmps)=Ji:=by kernel_rfl):CallsH P f g.toArray h R:=zv _ j (a (S.start hψ)) e
theorem zO {ψ:CM} {f:FuncId} {fn:Func} {g:Jc} {h:Heap} {R:Jl->Heap->Prop} (j:P.funcs[f]?=Jg fn) (a:S ψ h h []->vcFn ctx annO fn g h R) (hψ:CLe ψ (hcell h):=by exact hψ)
    (e:((match fn.body with|some k=>aOk ctx annO k&&cOk fn.ntmps k|none=>Jj)&&Nat.ble g.length fn.ntmps)=Ji:=by kernel_rfl):CallsH P f g.toArray h R:=zv _ j (a (S.start hψ)) e
theorem frzA {α:Type} {E E':El α} (h:Frz E E':=by first|exact Zk _|exact ZgC|exact Zft|exact Zah _|exact ZO frzA|exact frzo_T_spec_l00Src|exact frzf_T_spec_l00Src|exact frzo_T_impl_Array|exact frzf_T_impl_Array|exact frzo_T_impl_Field|exact frzf_T_impl_Field|exact frzo_T_impl_Code|exact frzf_T_impl_Code|exact frzo_T_impl_Design|exact frzf_T_impl_Design|exact frzo_T_impl_Object|exact frzf_T_impl_Object|exact frzo_T_impl_Edge|exact frzf_T_impl_Edge|exact frzo_T_impl_Graph|exact frzf_T_impl_Graph|exact frzo_T_impl_Group|exact frzf_T_impl_Group|exact frzo_T_impl_Item|exact frzf_T_impl_Item|exact frzo_T_impl_Catalog|exact frzf_T_impl_Catalog|exact frzo_T_spec_l22Find|exact frzf_T_spec_l22Find|exact frzo_T_impl_arithmetic|exact frzf_T_impl_arithmetic|exact frzo_T_impl_counter|exact frzf_T_impl_counter|exact frzo_T_impl_explorer|exact frzf_T_impl_explorer|fail):Frz E E':=h
theorem ZEU {φ:CM} {L:Rws} {cs:Jc} {x:ZI} (h:Zns.R φ L cs x):∃v2:Jl,∃v3:Jl,∃v4:Jl,∃v7:Jl,∃v8:Jl,∃v9:Jl,cs=[.int .i64 x.qcounter.qleft,.bool x.qcounter.qspent,v2,v3,v4,.int .i64 x.qnodes,.int .i64 x.qleaves,v7,v8,v9]/\SlC φ eI v2 x.qgraph.Colors/\SlC φ Zg v3 x.qgraph.Edges/\SlC φ eL v4 x.qlists/\SlC φ eI v7 x.qform.Colors/\SlC φ Zg v8 x.qform.Edges/\SlC φ eL v9 x.qbest:=by
  obtain ⟨_,_,_,_,rfl,_,f,g⟩:=h;obtain ⟨_,_,_,_,rfl,_,i,j⟩:=f;obtain ⟨_,rfl⟩:=i;obtain ⟨_,rfl⟩:=j;obtain ⟨_,_,_,_,rfl,_,k,l⟩:=g;obtain ⟨_,_,_,_,rfl,_,o,r⟩:=k;obtain ⟨_,w6,rfl,g6⟩:=o;obtain ⟨_,w7,rfl,g7⟩:=r;obtain ⟨_,_,_,_,rfl,_,s,u⟩:=l;obtain ⟨_,w8,rfl,g8⟩:=s;obtain ⟨_,_,_,_,rfl,_,v,w⟩:=u;obtain ⟨_,rfl⟩:=v;obtain ⟨_,_,_,_,rfl,_,y,a2⟩:=w;obtain ⟨_,rfl⟩:=y;obtain ⟨_,_,_,_,rfl,_,a3,a4⟩:=a2;obtain ⟨_,_,_,_,rfl,_,a,e⟩:=a3;obtain ⟨_,ab,rfl,ac⟩:=a;obtain ⟨_,ad,rfl,ae⟩:=e;obtain ⟨_,af,rfl,ag⟩:=a4;exact ⟨w6,w7,w8,ab,ad,af,rfl,g6,g7,g8,ac,ae,ag⟩
abbrev zR (f:FuncId) (a:Array Jl) (h:Heap) (ψ:CM) (u:Jl):Prop:=CallsH P f a h λv h'=>v=u/\S ψ h h' []
abbrev zL {α:Type} (f:FuncId) (a:Array Jl) (h:Heap) (ψ:CM) (E:El α) (r:List α):Prop:=CallsH P f a h λv h'=>∃w0:Jl,v=w0/\S ψ h h' [.it (El.ow E) [w0] r]
set_option maxHeartbeats 4000000
attribute [local irreducible] CallsQ vLen vIdx IntKind.wrap hcell vNew vNewS vSliceS vStore1 vAppend vMake vCopy vB2S vS2B vNilS vSliceStr
section
variable {ψ:CM} {h:Heap} (hψ:CLe ψ (hcell h))
include hψ
theorem ZJB {a v0 e v1 r} (N:ZrA a e=Jg r) (f:sc h (El.int .u8) v0 a) (g:sc h (El.int .u8) v1 e):zR 4 #[v0,v1] h ψ (.bool r):=by
 refine zO Tryz.func4 λC=>?_;exact wX
theorem ZAi {a v0 r} (N:Zpw a=Jg r) (f:SlC ψ (El.int .u8) v0 a):CallsH P 9 #[v0] h (λv g=>∃e w1,v=.pointer (Jg ⟨e,0,Jh⟩)/\S ψ h g [.box e [w1,.int .i64 r.qat,.int .u64 r.qseed],.it (El.sl (El.int .u8)) [w1] r.qcode]):=by
 refine zO Tryz.func9 λC=>?_;exact wX
omit hψ in
instance k1:Kn 9 (type_of% @ZAi):=⟨@ZAi⟩
end
theorem ZzY {ψ:CM} {g h:Heap} {os:List Ob} {f:Za} {i:Nat} {a:Jc} {e:Jl} {r:Int×Za} (N:Zff f=Jg r) (C:S ψ g h (.box i (e::.int .i64 f.qat::.int .u64 f.qseed::a)::os)) (l:SlC (UB ψ g) (El.int .u8) e f.qcode):CallsH P 43 #[.pointer (Jg ⟨i,0,Jh⟩)] h (λv o=>v=.int .i64 r.1/\S ψ g o (.box i (e::.int .i64 r.2.qat::.int .u64 r.2.qseed::a)::os)):=by
 refine zv ⟨[],an [[4,18]],[],[]⟩ Tryz.func43 ?_;refine ⟨λk j=>S ψ g j (.box i (e::.int .i64 f.qat::.int .u64 f.qseed::a)::os)/\Zgz f k=Jg r,?_,?_⟩
 .exact wX
 .rintro _ k j ⟨C,N⟩;exact wX
instance k2:Kn 43 (type_of% @ZzY):=⟨@ZzY⟩
theorem ZQ {ψ:CM} {g h:Heap} {os:List Ob} {f:Za} {i:Nat} {e:Jc} {a:Jl} {n1:Int} {r:Int×Za} (N:ZG f n1=Jg r) (C:S ψ g h (.box i (a::.int .i64 f.qat::.int .u64 f.qseed::e)::os)) (j:SlC (UB ψ g) (El.int .u8) a f.qcode):CallsH P 18 #[.pointer (Jg ⟨i,0,Jh⟩),.int .i64 n1] h (λv k=>v=.int .i64 r.1/\S ψ g k (.box i (a::.int .i64 r.2.qat::.int .u64 r.2.qseed::e)::os)):=by
 refine zv annO Tryz.func18 ?_;exact wX
instance k3:Kn 18 (type_of% @ZQ):=⟨@ZQ⟩
theorem ZMm {ψ:CM} {g h:Heap} {os:List Ob} {i:Za} {j:Nat} {e:Jc} {a:Jl} {f:List Jd} {v1:Jl} {r:Jd×Za} (N:Zla i f=Jg r) (C:S ψ g h (.box j (a::.int .i64 i.qat::.int .u64 i.qseed::e)::os)) (k:SlC (UB ψ g) (El.int .u8) a i.qcode) (l:SlC (UB ψ g) El.str v1 f):CallsH P 19 #[.pointer (Jg ⟨j,0,Jh⟩),v1] h (λv o=>v=.string r.1/\S ψ g o (.box j (a::.int .i64 r.2.qat::.int .u64 r.2.qseed::e)::os)):=by
 refine zv annO Tryz.func19 ?_;exact wX
section
variable {ψ:CM} {h:Heap} (hψ:CLe ψ (hcell h))
include hψ
theorem Zj9 {n0 e a r} (N:Zac n0 e a=Jg r)  :zR 168 #[.int .i64 n0,.int .i64 e,.int .i64 a] h ψ (.bool r):=by
 refine zO Tryz.func168 λC=>?_;exact wX
omit hψ in
instance k4:Kn 168 (type_of% @Zj9):=⟨@Zj9⟩
theorem ZtM {levels0 column1 r} (N:ZgD levels0 column1=Jg r)  :zR 167 #[.int .i64 levels0,.int .i64 column1] h ψ (.bool r):=by
 refine zO Tryz.func167 λC=>?_;exact wX
omit hψ in
instance k5:Kn 167 (type_of% @ZtM):=⟨@ZtM⟩
theorem ZxE {a g e r} (N:Zhy a=Jg r) (j:CellsC (hcell h) g [.int .i64 a.Levels,.int .i64 a.Columns,e]) (i:sc h eL e a.Rows):zR 91 #[.pointer (Jg g)] h ψ (.bool r):=by
 refine zU [[4,18],[9,24]] [[3]] Tryz.func91 λC=>?_;refine ⟨λf=>S ψ h f []/\Zq4 a=Jg r,?_,?_⟩
 .exact wX
 .rintro _ f ⟨C,N⟩;exact wX
omit hψ in
instance k6:Kn 91 (type_of% @ZxE):=⟨@ZxE⟩
theorem ZuK {a k1 r} (N:Ze9 a k1=Jg r)  :zR 176 #[.int .i64 a,.int .i64 k1] h ψ (.int .i64 r):=by
 refine zT [[2,6,30]] Tryz.func176 λC=>?_;exact wX
omit hψ in
instance k7:Kn 176 (type_of% @ZuK):=⟨@ZuK⟩
theorem Zeo {e f a r} (N:ZaH e=Jg r) (i:CellsC (hcell h) f [.int .i64 e.Prime,.int .i64 e.Degree,a]) (g:sc h eI a e.Poly):zR 101 #[.pointer (Jg f)] h ψ (.int .i64 r):=by
 refine zO Tryz.func101 λC=>?_;exact wX
omit hψ in
instance k8:Kn 101 (type_of% @Zeo):=⟨@Zeo⟩
theorem Zdv {a v0 r} (N:ZaD a=Jg r) (e:sc h eI v0 a):zL 166 #[v0] h ψ eI r:=by
 refine zO Tryz.func166 λC=>?_;exact wX
omit hψ in
instance k9:Kn 166 (type_of% @Zdv):=⟨@Zdv⟩
theorem ZlI {a v0 r} (N:Zf5 a=Jg r) (e:sc h eL v0 a):zL 158 #[v0] h ψ eL r:=by
 refine zT [[3,19,24]] Tryz.func158 λC=>?_;exact wX
theorem ZyA {a0 p1 n2 r} (N:Zbd a0 p1 n2=Jg r)  :zL 179 #[.int .i64 a0,.int .i64 p1,.int .i64 n2] h ψ eI r:=by
 refine zT [[2,0,12,43]] Tryz.func179 λC=>?_;exact wX
omit hψ in
instance k10:Kn 179 (type_of% @ZyA):=⟨@ZyA⟩
theorem ZDU {a v0 p1 r} (N:Zbw a p1=Jg r) (e:sc h eI v0 a):zR 249 #[v0,.int .i64 p1] h ψ (.int .i64 r):=by
 refine zT [[3,30,36]] Tryz.func249 λC=>?_;exact wX
omit hψ in
instance k11:Kn 249 (type_of% @ZDU):=⟨@ZDU⟩
theorem Zo0 {e f a a1 g k3 r} (N:Zc4 e a1 g k3=Jg r) (j:CellsC (hcell h) f [.int .i64 e.Prime,.int .i64 e.Degree,a]) (i:sc h eI a e.Poly):zR 170 #[.pointer (Jg f),.int .i64 a1,.int .i64 g,.int .i64 k3] h ψ (.int .i64 r):=by
 refine zT [[4,66]] Tryz.func170 λC=>?_;exact wX
omit hψ in
instance k12:Kn 170 (type_of% @Zo0):=⟨@Zo0⟩
theorem Zv6 {g v0 i v1 j r} (N:Zek g i j=Jg r) (f0:sc h eI v0 g) (u:sc h eI v1 i):zL 250 #[v0,v1,.int .i64 j] h ψ eI r:=by
 refine zT [[4,54],[8,66],[12,43]] Tryz.func250 λC=>?_;refine cm1 N C (λs v=>Zdv s v slA) λw k x C N=>⟨_,rfl,?_⟩;refine vL u C.le ?_;refine ZF slA ?_;refine lw11 N (λl xs=>([.it oL [k] xs],l,xs)) λl y xs a C N O=>?_;apply brQ N<;>intro N
 .exact wX
 .refine lw11 N (λo e=>([.it oL [o] e],e)) λo a2 e a3 C N O=>?_;refine ZF slA ?_;apply brQ N<;>intro N
  .refine ZF slA ?_;obtain ⟨a4,f,N⟩:=obind N;refine cut_S Jh (Jg (IntKind.i64.wrap ((e.length:Int)-1))) C 0 rfl f rfl λa5 C=>?_;exact wX
  .exact wX
omit hψ in
instance k13:Kn 250 (type_of% @Zv6):=⟨@Zv6⟩
theorem Znq {e f a g i r} (N:Zb7 e g i=Jg r) (k:CellsC (hcell h) f [.int .i64 e.Prime,.int .i64 e.Degree,a]) (j:sc h eI a e.Poly):zR 171 #[.pointer (Jg f),.int .i64 g,.int .i64 i] h ψ (.int .i64 r):=by
 refine zS hψ ⟨an [[5,60],[8,66]],[],[],[(11,⟨kdL [0,0,0,0,1,0,0,0,1,3,0,0,0,2,4,0],.fin (rgs [(0,16)]),Ji⟩)]⟩ Tryz.func171 λC=>?_;exact wX
omit hψ in
instance k14:Kn 171 (type_of% @Znq):=⟨@Znq⟩
theorem ZsI {k w i v1 j w2 x y r} (N:Zio k v1 w2 y=Jg r) (a2:CellsC (hcell h) w [.int .i64 k.Prime,.int .i64 k.Degree,i]) (a6:sc h eI i k.Poly) (f1:sc h eI j v1) (f2:sc h eI x w2):zL 182 #[.pointer (Jg w),j,x,.int .i64 y] h ψ eI r:=by
 refine zS hψ ⟨an [[3,55,60]],[],[],[(5,⟨kdL [0,0,0,0,0,2,0,0,0,0,1,0,3,0,0,0,2,0,4,4,4,0],.fin (rgs [(6,7),(1,5),(13,7),(0,1),(20,2)]),Ji⟩)]⟩ Tryz.func182 λC=>?_;refine neA eI λa7 a8 C=>?_;refine lw21 N (λv9 l e=>([.it oL [v9] e],e,l)) λv9 l a5 e a C N O=>?_;refine vL f1 C.le ?_;apply brQ N<;>intro N
 .refine ⟨λ_=>False,?_⟩;have g:=C;have f:=eX a5;refine ixI slA N λa9 N=>?_;obtain ⟨aa,o,N⟩:=obind N;refine ce0 C (λs=>Znq s.fle o slA slA) λab xE C=>⟨_,rfl,eZ (f.trans xE),?_⟩;replace f:=f.trans xE;refine ixA slA N λac ad u v N=>?_;refine Z9 ?_;refine ldI_C (f1.mono g.le) u v ?_;refine Z9 ?_;refine kI a2 g.le 0 ?_;exact wX
 .exact wX
theorem Zo8 {f g a v1 e c2 r} (N:Zjt f v1 c2=Jg r) (j:CellsC (hcell h) g [.int .i64 f.Prime,.int .i64 f.Degree,a]) (i:sc h eI a f.Poly) (k:sc h eI e v1):zL 254 #[.pointer (Jg g),e,.int .i64 c2] h ψ eI r:=by
 refine zT [[3,43,48]] Tryz.func254 λC=>?_;exact wX
omit hψ in
instance k15:Kn 254 (type_of% @Zo8):=⟨@Zo8⟩
theorem ZME {e f a a1 r} (N:Zk3 e a1=Jg r) (i:CellsC (hcell h) f [.int .i64 e.Prime,.int .i64 e.Degree,a]) (g:sc h eI a e.Poly):zR 255 #[.pointer (Jg f),.int .i64 a1] h ψ (.int .i64 r):=by
 refine zT [[2,30]] Tryz.func255 λC=>?_;exact wX
theorem ZKa {l p0 u y1 v1 y2 r} (N:Zqg l y1 y2=Jg r) (bn:CellsC (hcell h) p0 [.int .i64 l.Prime,.int .i64 l.Degree,u]) (b6:sc h eI u l.Poly) (f1:sc h eL v1 y1):CallsH P 184 #[.pointer (Jg p0),v1,.int .i64 y2] h (λv h'=>∃w0 w1,v=.tuple #[w0,w1]/\S ψ h h' [.it (El.ow eL) [w0] r.1,.it oL [w1] r.2]):=by
 refine zS hψ ⟨an [[4,55,60],[8,72],[15,84]],an [[6],[10,72]],[],[(11,⟨kdL [0,0,0,0,2,0,0,0,0,1,0,0,1,3,4,0],.fin (rgs [(5,9),(0,5),(14,2)]),Ji⟩),(18,⟨[],.fin (rgs [(2,14),(0,2),(16,2)]),Jj⟩)]⟩ Tryz.func184 λC=>?_;refine cm1 N C (λs hx=>ZlI s hx slA) λbo i bp C N=>⟨_,rfl,?_⟩;refine neA eI λbq br C=>?_;refine lw22 N (λo k e xs=>([.it oL [o] e,.it (El.ow eL) [i] xs],e,k,xs)) λo k bs e xs a C N O=>?_;refine ⟨λa8=>S ψ h a8 [.it oL [o] e,.it (El.ow eL) [i] xs]/\ZjL l e k xs=Jg a,?_,?_⟩
 .exact wX
 .rintro _ a8 ⟨C,N⟩;refine ZF slA ?_;refine ⟨λa9 w=>S ψ h w [.it oL [o] e,.it (El.ow eL) [i] xs]/\ZaG l e k xs a9=Jg a,?_,?_⟩
  .refine lp1 (os:=[.it oL [o] e,.it (El.ow eL) [i] xs]) N (pk C [0,1]) λbt b5 b7 bu C N x=>?_;refine ZF slA ?_;apply brQ N<;>intro N
   .refine ixA slA N λbv bw y a2 N=>?_;refine Zbk C 1 rfl y a2 λbx C=>?_;refine ixI slA N λbz N=>?_;apply brQ N<;>intro N
    .exact wX
    .obtain ⟨xm,hq,rfl⟩:=omap N;obtain rfl:=oI x;exact ⟨pk C [1,2],hq⟩
   .obtain ⟨xm,hq,rfl⟩:=omap N;obtain rfl:=oI x;exact ⟨pk C [0,1],hq⟩
  .rintro _ a9 w ⟨C,N⟩;refine ZF slA ?_;apply brQ N<;>intro N
   .exact wX
   .refine ⟨λ_=>False,?_⟩;have a3:=C;have g:=eX w;refine ixA slA N λay c0 ad ae N=>?_;refine Zbk C 1 rfl ad ae λaz C=>?_;refine ixI slA N λc3 N=>?_;obtain ⟨c4,af,N⟩:=obind N;refine ce0 C (λs=>ZME s.fle af slA slA) λc5 xE C=>⟨_,rfl,eZ (g.trans xE),?_⟩;replace g:=g.trans xE;refine ixA slA N λc6 c7 ag ah N=>?_;refine Z8 ?_;refine ldV_C (a3.rdL 1 rfl (Zah _)) (CLe.refl _) ag ah λc8 f=>?_;refine cl1 N C (λb0 _ _ ai=>Zo8 b0.fle ai slA slA (f.mono (CLe.ext g))) λb1 b2 c9 C N=>⟨_,rfl,?_⟩;refine ixA slA N λb3 ca aj ak N=>?_;refine Zbk C 3 rfl aj ak λb4 C=>?_;refine ixA slA N λcb cc al am N=>?_;have C:=C.copyF 0 rfl;refine ZiG C 4 rfl al am rfl λcd C=>?_;dsimp at C;refine ixA slA N λce cf ao ap N=>?_;have C:=frA 1;have C:=C.copyF 1 rfl;refine ZiG C 4 rfl ao ap rfl λba C=>?_;dsimp at C;refine lw11 N (λaa j=>([.it eL [b4] b3,.it eL [b2] b1,.it eL [az] ay,.it oL [o] e,.it (El.ow eL) [i] j],aa,j)) λaa bb j cg C N aq=>?_;refine ZF slA ?_;apply brQ N<;>intro N
    .apply brQ N<;>intro N
     .refine ixA slA N λch cj ar a4 N=>?_;refine Zbk C 4 rfl ar a4 λck C=>?_;refine ixA slA N λcm cn au a5 N=>?_;refine Zbk C 5 rfl au a5 λco C=>?_;refine ixI slA N λbc N=>?_;refine cm1 N C (λs hx=>ZsI s hx slA slA slA slA) λbd be bf C N=>⟨_,rfl,?_⟩;refine ixA slA N λbg bh a6 a7 N=>?_;have C:=frA 0;have C:=C.copyF 0 rfl;refine ZiG C 7 rfl a6 a7 rfl λbi C=>?_;exact wX
     .exact wX
    .refine puA N 3 λbj bk bm C N=>?_;obtain rfl:=oI N;obtain rfl:=oI aq;exact endM
theorem ZsD {e i a j v1 r} (N:ZeY e j=Jg r) (w:CellsC (hcell h) i [.int .i64 e.Prime,.int .i64 e.Degree,a]) (o:sc h eI a e.Poly) (u:sc h eL v1 j):zL 107 #[.pointer (Jg i),v1] h ψ eL r:=by
 refine zO Tryz.func107 λC=>?_;refine ixV u C.le N λx y f N=>?_;refine vL f C.le ?_;refine cm2 N C (λs v=>ZKa s v slA slA slA) λk a2 l a3 C N=>⟨_,_,rfl,?_⟩;refine ZF slA ?_;obtain ⟨a4,g,N⟩:=obind N;refine cut_S Jh (Jg (k.2.length:Int)) C 0 rfl g rfl λa5 C=>?_;exact wX
theorem ZBa {a r} (N:Zct a=Jg r)  :zR 178 #[.int .i64 a] h ψ (.tuple #[.int .i64 r.1,.int .i64 r.2]):=by
 refine zT [[4,24],[8,30,36]] Tryz.func178 λC=>?_;exact wX
omit hψ in
instance k16:Kn 178 (type_of% @ZBa):=⟨@ZBa⟩
theorem Zyi {a v0 p1 r} (N:ZiY a p1=Jg r) (e:sc h eI v0 a):zR 180 #[v0,.int .i64 p1] h ψ (.bool r):=by
 refine zT [[3,36],[6,42]] Tryz.func180 λC=>?_;exact wX
omit hψ in
instance k17:Kn 180 (type_of% @Zyi):=⟨@Zyi⟩
theorem Zwf {a g e r} (N:Zhl a=Jg r) (j:CellsC (hcell h) g [.int .i64 a.Prime,.int .i64 a.Degree,e]) (i:sc h eI e a.Poly):zR 252 #[.pointer (Jg g)] h ψ (.bool r):=by
 refine zU [[8,36]] [[3]] Tryz.func252 λC=>?_;refine ⟨λf=>S ψ h f []/\Zmz a=Jg r,?_,?_⟩
 .exact wX
 .rintro _ f ⟨C,N⟩;exact wX
omit hψ in
instance k18:Kn 252 (type_of% @Zwf):=⟨@Zwf⟩
theorem Zwb {f g a v1 e r} (N:Zoi f v1=Jg r) (j:CellsC (hcell h) g [.int .i64 f.Prime,.int .i64 f.Degree,a]) (i:sc h eI a f.Poly) (k:sc h eI e v1):zR 253 #[.pointer (Jg g),e] h ψ (.bool r):=by
 refine zT [[3,36]] Tryz.func253 λC=>?_;exact wX
omit hψ in
instance k19:Kn 253 (type_of% @Zwb):=⟨@Zwb⟩
theorem ZBu {a i e g v1 r} (N:Zm6 a g=Jg r) (k:CellsC (hcell h) i [.int .i64 a.Prime,.int .i64 a.Degree,e]) (j:sc h eI e a.Poly) (l:sc h eL v1 g):zR 173 #[.pointer (Jg i),v1] h ψ (.bool r):=by
 refine zU [[4,30]] [[3]] Tryz.func173 λC=>?_;refine ⟨λf=>S ψ h f []/\Zsu a g=Jg r,?_,?_⟩
 .exact wX
 .rintro _ f ⟨C,N⟩;exact wX
omit hψ in
instance k20:Kn 173 (type_of% @ZBu):=⟨@ZBu⟩
theorem Zqu {a k1 r} (N:Zeb a k1=Jg r)  :zR 174 #[.int .i64 a,.int .i64 k1] h ψ (.int .i64 r):=by
 refine zT [[2,6,30]] Tryz.func174 λC=>?_;exact wX
omit hψ in
instance k21:Kn 174 (type_of% @Zqu):=⟨@Zqu⟩
theorem ZBy {a0 v0 a v1 r} (N:Zhc a0 a=Jg r) (e:sc h eI v0 a0) (f:sc h eI v1 a):zR 177 #[v0,v1] h ψ (.bool r):=by
 refine zT [[4,30]] Tryz.func177 λC=>?_;exact wX
omit hψ in
instance k22:Kn 177 (type_of% @ZBy):=⟨@ZBy⟩
theorem Zvn {a0 v0 a v1 r} (N:Zgu a0 a=Jg r) (e:sc h eL v0 a0) (f:sc h eL v1 a):zR 175 #[v0,v1] h ψ (.bool r):=by
 refine zT [[4,30]] Tryz.func175 λC=>?_;exact wX
omit hψ in
instance k23:Kn 175 (type_of% @Zvn):=⟨@Zvn⟩
theorem Zsk {f x g i r} (N:ZaI f=Jg r) (j:CellsC (hcell h) x [.int .i64 f.Field.Prime,.int .i64 f.Field.Degree,g,i]) (a2:sc h eI g f.Field.Poly) (u:sc h eL i f.Rows):zR 100 #[.pointer (Jg x)] h ψ (.bool r):=by
 refine zS hψ ⟨[],an [[3]],[],[(3,⟨kdL [0,0,0,3,0,0,0,2,0,4,0],.fin (rgs [(0,11)]),Ji⟩),(5,⟨kdL [0,0,0,0,0,0,1,3,0,0,0,2,4,0],.fin (rgs [(0,14)]),Ji⟩)]⟩ Tryz.func100 λC=>?_;refine ⟨λk=>S ψ h k []/\ZdT f=Jg r,?_,?_⟩
 .exact wX
 .rintro _ k ⟨C,N⟩;refine ⟨λ_=>False,?_⟩;have l:=C;have a:=eX k;obtain ⟨a3,v,N⟩:=obind N;refine ce0 C (λs=>Zeo s.fle v (CellsC.part 0 3 slA) slA) λa4 xE C=>⟨_,rfl,eZ (a.trans xE),?_⟩;replace a:=a.trans xE;refine Z8 ?_;refine kV j l.le 3 ?_;refine vL u C.le ?_;refine cm0 N C (λs v=>Zqu s v) λa5 y C N=>⟨_,rfl,?_⟩;refine brZ λN=>?_;refine ⟨λ_=>False,?_⟩;have o:=C;have e:=eX y;refine kV j C.le 3 ?_;obtain ⟨a6,w,N⟩:=obind N;refine ce1 C (λs=>ZsD s.fle w (CellsC.part 0 3 slA) slA slA) λa7 a8 xE C=>⟨_,rfl,eZ (e.trans xE),?_⟩;replace e:=e.trans xE;refine Z8 ?_;refine kV j o.le 3 ?_;exact wX
omit hψ in
instance k24:Kn 100 (type_of% @Zsk):=⟨@Zsk⟩
theorem ZpD {a v0 n1 r} (N:ZhX a n1=Jg r) (e:sc h eI v0 a):zR 256 #[v0,.int .i64 n1] h ψ (.bool r):=by
 refine zT [[2,30]] Tryz.func256 λC=>?_;exact wX
omit hψ in
instance k25:Kn 256 (type_of% @ZpD):=⟨@ZpD⟩
theorem ZyM {a v0 r} (N:Zgf a=Jg r) (e:sc h eI v0 a):zR 193 #[v0] h ψ (.bool r):=by
 refine zT [[4,18]] Tryz.func193 λC=>?_;exact wX
omit hψ in
instance k26:Kn 193 (type_of% @ZyM):=⟨@ZyM⟩
theorem ZBN {a0 v0 r} (N:ZiE a0=Jg r) (e:sc h eL v0 a0):zR 115 #[v0] h ψ (.bool r):=by
 refine zU [[5,24],[10,30],[14,37,42]] [[4]] Tryz.func115 λC=>?_;refine vL e C.le ?_;refine ⟨λa=>S ψ h a []/\Ztu a0=Jg r,?_,?_⟩
 .exact wX
 .rintro _ a ⟨C,N⟩;exact wX
omit hψ in
instance k27:Kn 115 (type_of% @ZBN):=⟨@ZBN⟩
theorem Zn2 {a0 v0 e v1 r} (N:Za0 a0 e=Jg r) (j:sc h eI v0 a0) (k:sc h eI v1 e):zR 165 #[v0,v1] h ψ (.int .i64 r):=by
 refine zU [[2,30]] [[4],[8]] Tryz.func165 λC=>?_;refine ⟨λf=>S ψ h f []/\ZcX a0 e=Jg r,?_,?_⟩
 .refine lp1 N (nlS C) λm i5 i a C N O=>?_;refine ⟨λg=>S ψ h g []/\ZdL a0 e i5=Jg a,?_,?_⟩
  .exact wX
  .rintro _ g ⟨C,N⟩;exact wX
 .rintro _ f ⟨C,N⟩;exact wX
omit hψ in
instance k28:Kn 165 (type_of% @Zn2):=⟨@Zn2⟩
theorem ZxH {a v0 f e r} (N:Zor a f e=Jg r) (g:sc h eI v0 a):zR 257 #[v0,.int .i64 f,.int .i64 e] h ψ (.bool r):=by
 refine zT [[2,42]] Tryz.func257 λC=>?_;exact wX
omit hψ in
instance k29:Kn 257 (type_of% @ZxH):=⟨@ZxH⟩
theorem Zut {a v0 points1 r} (N:ZkR a points1=Jg r) (e:sc h eI v0 a):zR 194 #[v0,.int .i64 points1] h ψ (.bool r):=by
 refine zO Tryz.func194 λC=>?_;exact wX
omit hψ in
instance k30:Kn 194 (type_of% @Zut):=⟨@Zut⟩
theorem Zxa {e g a r} (N:ZkY e=Jg r) (j:CellsC (hcell h) g [.int .i64 e.Points,a]) (i:sc h eL a e.Blocks):zR 116 #[.pointer (Jg g)] h ψ (.bool r):=by
 refine zU [[4,18]] [[3]] Tryz.func116 λC=>?_;refine ⟨λf=>S ψ h f []/\Zs1 e=Jg r,?_,?_⟩
 .exact wX
 .rintro _ f ⟨C,N⟩;exact wX
omit hψ in
instance k31:Kn 116 (type_of% @Zxa):=⟨@Zxa⟩
theorem ZC2 {a0 v0 a v1 r} (N:ZgS a0 a=Jg r) (e:sc h eI v0 a0) (f:sc h eI v1 a):zR 195 #[v0,v1] h ψ (.int .i64 r):=by
 refine zT [[3,30,36]] Tryz.func195 λC=>?_;exact wX
omit hψ in
instance k32:Kn 195 (type_of% @ZC2):=⟨@ZC2⟩
theorem ZAl {e v0 r} (N:Zl1 e=Jg r) (f:sc h eL v0 e):zR 117 #[v0] h ψ (.bool r):=by
 refine zU [[5,24],[10,30],[15,36],[18,42]] [[4]] Tryz.func117 λC=>?_;refine vL f C.le ?_;refine ⟨λa=>S ψ h a []/\Zqh e=Jg r,?_,?_⟩
 .exact wX
 .rintro _ a ⟨C,N⟩;exact wX
omit hψ in
instance k33:Kn 117 (type_of% @ZAl):=⟨@ZAl⟩
theorem ZBC {g j f r} (N:ZlZ g=Jg r) (i:CellsC (hcell h) j [.int .i64 g.Kind,.int .i64 g.Size,f]) (l:SlC ψ eL f g.Rows):CallsH P 118 #[.pointer (Jg j)] h (λv x=>∃w0,v=.agg #[.int .i64 r.Levels,.int .i64 r.Columns,w0]/\S ψ h x [.it (El.sl eL) [w0] r.Rows]):=by
 refine zS hψ ⟨[],[],[],[(1,⟨kdL [0,0,0,2,0,0,0,2,0,3,4],.fin [9,0,1,2,3,4,5,6,7,8,10],Ji⟩)]⟩ Tryz.func118 λC=>?_;refine new_S C λs k C=>?_;refine ⟨λ_=>False,?_⟩;have e:=C;have a:=eX k;refine ZfW C λu o w C=>⟨eZ (a.trans w),?_⟩;replace a:=a.trans w;refine Z9 ?_;refine kI i e.le 1 ?_;refine Z8 ?_;refine kV i e.le 2 ?_;exact wX
omit hψ in
instance k34:Kn 118 (type_of% @ZBC):=⟨@ZBC⟩
theorem Zg6 {a r} (N:Zcv a=Jg r)  :CallsH P 103 #[.int .i64 a] h (λv e=>∃w0,v=.agg #[.int .i64 r.Prime,.int .i64 r.Degree,w0]/\S ψ h e [.it oL [w0] r.Poly]):=by
 refine zT [[4,30]] Tryz.func103 λC=>?_;exact wX
omit hψ in
instance k35:Kn 103 (type_of% @Zg6):=⟨@Zg6⟩
theorem ZCx {e f a r} (N:Zbi e=Jg r) (i:CellsC (hcell h) f [.int .i64 e.Kind,.int .i64 e.Size,a]) (g:SlC ψ eL a e.Rows):CallsH P 119 #[.pointer (Jg f)] h (λv j=>∃w0 w1,v=.agg #[.int .i64 r.Field.Prime,.int .i64 r.Field.Degree,w0,w1]/\S ψ h j [.it oL [w0] r.Field.Poly,.it (El.sl eL) [w1] r.Rows]):=by
 refine zS hψ ⟨[],[],[],[(4,⟨kdL [0,0,0,1,3,0,0,0,2,0,4],.fin (rgs [(0,11)]),Ji⟩)]⟩ Tryz.func119 λC=>?_;exact wX
omit hψ in
instance k36:Kn 119 (type_of% @ZCx):=⟨@ZCx⟩
theorem ZD5 {a v0 r} (N:Zkb a=Jg r) (e:sc h eI v0 a):zR 185 #[v0] h ψ (.bool r):=by
 refine zT [[4,18]] Tryz.func185 λC=>?_;exact wX
omit hψ in
instance k37:Kn 185 (type_of% @ZD5):=⟨@ZD5⟩
theorem ZBO {a0 a r} (N:Zna a0 a=Jg r)  :zR 186 #[.agg #[.int .i64 a0.A,.int .i64 a0.B],.agg #[.int .i64 a.A,.int .i64 a.B]] h ψ (.bool r):=by
 refine zO Tryz.func186 λC=>?_;exact wX
omit hψ in
instance k38:Kn 186 (type_of% @ZBO):=⟨@ZBO⟩
theorem Zte {f a e r} (N:ZfN f=Jg r) (i:sc h eI a f.Colors) (j:sc h Zg e f.Edges):zR 108 #[.agg #[a,e]] h ψ (.bool r):=by
 refine zU [[5,24]] [[3]] Tryz.func108 λC=>?_;refine new_S C λk l C=>?_;refine ⟨λg=>S ψ h g [.box k [a,e]]/\ZtH f=Jg r,?_,?_⟩
 .exact wX
 .rintro _ g ⟨C,N⟩;exact wX
omit hψ in
instance k39:Kn 108 (type_of% @Zte):=⟨@Zte⟩
theorem Zwi {l y j r} (N:Zhz l=Jg r) (e:CellsC (hcell h) y [.int .i64 l.Kind,.int .i64 l.Size,j]) (g:sc h eL j l.Rows):CallsH P 120 #[.pointer (Jg y)] h (λv h'=>∃w0 w1,v=.tuple #[.agg #[w0,w1],.bool r.2]/\S ψ h h' [.it oL [w0] r.1.Colors,.it (El.ow Zg) [w1] r.1.Edges]):=by
 refine zS hψ ⟨an [[5,30]],[],[],[(9,⟨kdL [0,2,0,0,0,1,0,0,1,0,1,0,0,0,1,0,0,1,0,1,0,3,4,0,4],.fin (rgs [(2,20),(0,2),(22,3)]),Ji⟩),(10,⟨kdL [2,1,3,4,0],.fin [1,2,0,3,4],Ji⟩)]⟩ Tryz.func120 λC=>?_;refine new_S C λb2 ab C=>?_;refine kI e C.le 1 ?_;refine cm0 N C (λs hx=>Zj9 s hx) λac ad C N=>⟨_,rfl,?_⟩;apply brQ N<;>intro N
 .exact wX
 .refine kI e C.le 1 ?_;refine mkO eI N λa2 u ae C N=>?_;refine ZD oneA ?_;refine new_S C λb4 af C=>?_;(iterate 2 refine boxA λag C=>?_);have C:=C.nilO (E:=Zg);refine lw12 N (λy5 xs k=>([.box b4 [u,k],.it oL [u] a2,.box b2 [(.slice Jh 0 0),(.slice Jh 0 0)],.it (El.ow Zg) [k] xs],y5,xs)) λy5 w xs k a C N O=>?_;refine kV e C.le 2 ?_;refine vL g C.le ?_;apply brQ N<;>intro N
  .refine kV e C.le 2 ?_;refine ixV g C.le N λah ai f N=>?_;refine vL f C.le ?_;apply brQ N<;>intro N
   .exact wX
   .refine ⟨λ_=>False,?_⟩;have o:=C;have i:=eX w;refine kV e C.le 2 ?_;refine ixV g C.le N λaj ak al N=>?_;refine ixI slA N λa4 N=>?_;refine kV e C.le 2 ?_;refine ixV g C.le N λam ao ap N=>?_;refine ixI slA N λa5 N=>?_;refine ZbL C λaq a9 xE C=>⟨eZ (i.trans xE),?_⟩;replace i:=i.trans xE;refine Z8 ?_;refine ldV_K (o.cells 0 rfl) 1 rfl rfl ?_;obtain ⟨ar,x,N⟩:=obind N;refine Zl5 C 4 rfl 0 rfl (λ_=>⟨[.int .i64 a4],[.int .i64 a5],[],[],rfl,rfl,⟨rfl,rfl⟩,⟨rfl,rfl⟩⟩) rfl rfl x λau aa xE C=>?_;exact wX
  .exact wX
omit hψ in
instance k40:Kn 120 (type_of% @Zwi):=⟨@Zwi⟩
theorem Zsy {n0 r} (N:Zf2 n0=Jg r)  :zL 112 #[.int .i64 n0] h ψ eI r:=by
 refine zT [[3,19,24]] Tryz.func112 λC=>?_;exact wX
omit hψ in
instance k41:Kn 112 (type_of% @Zsy):=⟨@Zsy⟩
theorem ZNu {a v0 e v1 r} (N:ZlT a e=Jg r) (f:sc h eI v0 a) (g:sc h eI v1 e):zL 190 #[v0,v1] h ψ eI r:=by
 refine zT [[3,31,36]] Tryz.func190 λC=>?_;exact wX
theorem Zr7 {a v0 p1 v1 r} (N:ZeV a p1=Jg r) (e:sc h eL v0 a) (f:sc h eI v1 p1):zR 191 #[v0,v1] h ψ (.tuple #[.int .i64 r.1,.bool r.2]):=by
 refine zT [[3,36,42]] Tryz.func191 λC=>?_;exact wX
omit hψ in
instance k42:Kn 191 (type_of% @Zr7):=⟨@Zr7⟩
theorem ZJC {a v0 e p2 k r} (N:Zlx a e p2=Jg r) (l:SlC ψ eL v0 a) (o:SlC ψ eI k p2):zL 192 #[v0,.int .i64 e,k] h ψ eL r:=by
 refine zO Tryz.func192 λC=>?_;refine neA eL λv8 v C=>?_;obtain ⟨w,u,N⟩:=obind N;refine Zey Jh (Jg e) l u rfl λx f=>?_;have C:=C.arg f;obtain ⟨y,g,N⟩:=obind N;refine app_S C 1 rfl (Znu 0 rfl) rfl rfl g λa2 a3 C=>?_;dsimp at C;refine ZD (o.mono C.leF).one ?_;have C:=C.arg o;refine piA N 1 λa4 a5 a6 C N=>?_;obtain ⟨a7,i,N⟩:=obind N;refine Zey (Jg e) Jh l i rfl λa8 s=>?_;have C:=C.arg s;obtain ⟨a9,j,N⟩:=obind N;refine app_S C 2 rfl (Znu 0 rfl) rfl rfl j λaa ab C=>?_;exact wX
theorem Zo5 {degree0 genera1 v1 j r} (N:ZcS degree0 genera1 j=Jg r) (f1:sc h eL v1 genera1):CallsH P 111 #[.int .i64 degree0,v1,.int .i64 j] h (λv h'=>∃w0,v=.tuple #[w0,.bool r.2]/\S ψ h h' [.it (El.ow eL) [w0] r.1]):=by
 refine zT [[5,55,61,66],[8,55,61,72]] Tryz.func111 λC=>?_;refine cm1 N C (λs l=>Zsy s l) λu w a9 C N=>⟨_,rfl,?_⟩;refine ZD oneA ?_;have C:=frA 0;have C:=C.copyF 0 rfl;refine Zcp C λaa ab C=>?_;refine ZD oneA ?_;have C:=C.copyF 1 rfl;refine Zcp C λac ae C=>?_;refine lw32 N (λv9 x y i a5=>([.it (El.ow eL) [x] a5,.it (El.ow eL) [v9] i,.it eL [w] u],i,a5,y)) λv9 x y af i a5 a C N O=>?_;refine ZF slA ?_;apply brQ N<;>intro N
 .refine lw32 N (λo k k12 g e=>([.it (El.ow eL) [k] e,.it (El.ow eL) [o] g,.it eL [w] u],g,e,k12)) λo k k12 ag g e ah C N O=>?_;refine vL f1 C.le ?_;apply brQ N<;>intro N
  .refine ixA slA N λai aj ad a3 N=>?_;refine Zbk C 0 rfl ad a3 λak C=>?_;refine ixV f1 C.le N λal am f N=>?_;refine cm1 N C (λs l=>ZNu s l slA slA) λao ap aq C N=>⟨_,rfl,?_⟩;refine cm0 N C (λs l=>Zr7 s l slA slA) λar au C N=>⟨_,_,rfl,?_⟩;apply brQ N<;>intro N
   .exact wX
   .refine ZF slA ?_;apply brQ N<;>intro N
    .exact wX
    .have C:=frA 3;have C:=frA 0;refine cl1 N C (λa7 a2 _ a4=>ZJC a7.fle a4 (frF a2 3 rfl) (frF a2 0 rfl)) λav aw ax C N=>⟨_,rfl,?_⟩;exact wX
  .exact wX
 .exact wX
omit hψ in
instance k43:Kn 111 (type_of% @Zo5):=⟨@Zo5⟩
theorem ZCL {degree0 a v1 r} (N:Zn9 degree0 a=Jg r) (e:sc h eL v1 a):CallsH P 196 #[.int .i64 degree0,v1] h (λv g=>∃w0,v=.tuple #[w0,.bool r.2]/\S ψ h g [.it (El.ow eL) [w0] r.1]):=by
 refine zT [[4,37,43,54]] Tryz.func196 λC=>?_;exact wX
omit hψ in
instance k44:Kn 196 (type_of% @ZCL):=⟨@ZCL⟩
theorem ZAn {e g a r} (N:Znd e=Jg r) (j:CellsC (hcell h) g [.int .i64 e.Degree,a]) (i:sc h eL a e.Elements):zR 121 #[.pointer (Jg g)] h ψ (.bool r):=by
 refine zU [[4,18]] [[3]] Tryz.func121 λC=>?_;refine ⟨λf=>S ψ h f []/\Ztc e=Jg r,?_,?_⟩
 .exact wX
 .rintro _ f ⟨C,N⟩;exact wX
omit hψ in
instance k45:Kn 121 (type_of% @ZAn):=⟨@ZAn⟩
theorem Ziy {e f a r} (N:Zat e=Jg r) (i:CellsC (hcell h) f [.int .i64 e.Kind,.int .i64 e.Size,a]) (g:SlC ψ eL a e.Rows):zR 59 #[.pointer (Jg f)] h ψ (.bool r):=by
 refine zO Tryz.func59 λC=>?_;exact wX
omit hψ in
instance k46:Kn 59 (type_of% @Ziy):=⟨@Ziy⟩
theorem ZDo {a e f k r} (N:ZbA a e f=Jg r) (f2:sc h eL k f):CallsH P 78 #[.int .i64 a,.int .i64 e,k] h (λv h'=>∃w0,v=.tuple #[.agg #[.int .i64 r.1.Kind,.int .i64 r.1.Size,w0],.int .i64 r.2]/\S ψ h h' [.it (El.ow eL) [w0] r.1.Rows]):=by
 refine zO Tryz.func78 λC=>?_;refine new_S C λb6 x C=>?_;refine cm1 N C (λs u=>ZlI s u slA) λy a2 a3 C N=>⟨_,rfl,?_⟩;refine ZD oneA ?_;refine new_S C λb8 a4 C=>?_;(iterate 3 refine boxA λa5 C=>?_);obtain ⟨a6,i,N⟩:=obind N;obtain ⟨w,a7,g,l⟩:=id C;refine (Ziy (CLe.refl _) i (C.cells 0 rfl) slA).mono λa8 a9 ⟨j,o⟩=>⟨_,j,?_⟩;replace C:=join0 g l (o.weak g.fle);exact wX
omit hψ in
instance k47:Kn 78 (type_of% @ZDo):=⟨@ZDo⟩
theorem ZEe {a0 v0 r} (N:Zs4 a0=Jg r) (a:sc h eL v0 a0):CallsH P 44 #[v0] h (λv e=>∃w0,v=.tuple #[.agg #[.int .i64 r.1.Kind,.int .i64 r.1.Size,w0],.int .i64 r.2]/\S ψ h e [.it (El.ow eL) [w0] r.1.Rows]):=by
 refine zO Tryz.func44 λC=>?_;exact wX
omit hψ in
instance k48:Kn 44 (type_of% @ZEe):=⟨@ZEe⟩
theorem Zr6 {a column1 r} (N:Zd2 a column1=Jg r)  :zL 159 #[.int .i64 a,.int .i64 column1] h ψ oL r:=by
 refine zT [[3,31,36]] Tryz.func159 λC=>?_;exact wX
omit hψ in
instance k49:Kn 159 (type_of% @Zr6):=⟨@Zr6⟩
theorem Zb0 {n0 r} (N:Za5 n0=Jg r)  :zL 79 #[.int .i64 n0] h ψ oL r:=by
 refine zT [[3,24],[6,30]] Tryz.func79 λC=>?_;exact wX
end
theorem ZbT {ψ:CM} {g h:Heap} {os:List Ob} {f:Za} {i:Nat} {e:Jc} {a:Jl} {n1:Int} {r:Bool×Za} (N:ZaR f n1=Jg r) (C:S ψ g h (.box i (a::.int .i64 f.qat::.int .u64 f.qseed::e)::os)) (j:SlC (UB ψ g) (El.int .u8) a f.qcode):CallsH P 80 #[.pointer (Jg ⟨i,0,Jh⟩),.int .i64 n1] h (λv k=>v=.bool r.1/\S ψ g k (.box i (a::.int .i64 r.2.qat::.int .u64 r.2.qseed::e)::os)):=by
 refine zv annO Tryz.func80 ?_;exact wX
instance k50:Kn 80 (type_of% @ZbT):=⟨@ZbT⟩
section
variable {ψ:CM} {h:Heap} (hψ:CLe ψ (hcell h))
include hψ
theorem Ziw {a v0 e v1 r} (N:Zdn a e=Jg r) (f:sc h eL v0 a) (g:sc h eL v1 e):zL 81 #[v0,v1] h ψ oL r:=by
 refine zT [[5,48],[8,54]] Tryz.func81 λC=>?_;exact wX
theorem ZzB {a0 v0 r} (N:ZgF a0=Jg r) (a:sc h eL v0 a0):zL 99 #[v0] h ψ oL r:=by
 refine zT [[3,19,24]] Tryz.func99 λC=>?_;exact wX
end
theorem ZMe {ψ:CM} {l h:Heap} {os:List Ob} {o:Za} {b0:Nat} {e:Jc} {g:Jl} {y1:Ja} {v1:Jl} {r:Ja×Za} (N:ZlV o y1=Jg r) (C:S ψ l h (.box b0 (g::.int .i64 o.qat::.int .u64 o.qseed::e)::os)) (u:SlC (UB ψ l) (El.int .u8) g o.qcode) (f1:SlC (UB ψ l) eL v1 y1):CallsH P 82 #[.pointer (Jg ⟨b0,0,Jh⟩),v1] h (λv h'=>∃w0,v=w0/\S ψ l h' (.it (El.ow oL) [w0] r.1::.box b0 (g::.int .i64 r.2.qat::.int .u64 r.2.qseed::e)::os)):=by
 refine zv ⟨an [[10,54,66],[20,84,90]],[],[],[]⟩ Tryz.func82 ?_;refine vL f1 C.leU ?_;refine cm1 N C (λs hx=>ZzB s hx slA) λbf a4 bg C N=>⟨_,rfl,?_⟩;have C:S ψ l bg (.box b0 (g::.int .i64 o.qat::.int .u64 o.qseed::e)::.it (El.ow oL) [a4] bf::os):=pkT C 2 [1,0];obtain ⟨a5,az,N⟩:=obind N;obtain ⟨bm,bq,x,ah⟩:=id C;refine (ZQ az (x.upS ah) (u.mono x.ubU)).mono λbr bs ⟨b1,ai⟩=>⟨_,b1,?_⟩;replace C:=x.downS ai;clear ai x ah;obtain ⟨a6,b2,N⟩:=obind N;obtain ⟨bn,bt,y,aj⟩:=id C;refine (ZQ b2 (y.upS aj) (u.mono y.ubU)).mono λbu bv ⟨b3,ak⟩=>⟨_,b3,?_⟩;replace C:=y.downS ak;clear ak y aj;apply brQ N<;>intro N
 .exact wX
 .obtain ⟨k,b4,N⟩:=obind N;obtain ⟨bo,bw,a2,al⟩:=id C;refine (ZQ b4 (a2.upS al) (u.mono a2.ubU)).mono λbx bz ⟨b5,am⟩=>⟨_,b5,?_⟩;replace C:=a2.downS am;clear am a2 al;refine ixV f1 C.leU N λc0 c3 f N=>?_;refine ixI slA N λbh N=>?_;obtain ⟨bi,hn⟩:=ZP N;refine ⟨λn y9 a8 ao=>∃xs,S ψ l ao (.box b0 (g::.int .i64 k.2.qat::.int .u64 k.2.qseed::e)::.it (El.ow oL) [a4] xs::os)/\loopN (Zp9 o y1 a5 a6 k bh) n (y9,a8,xs)=Jg r,⟨bi,_,pkT C 2 [0,1],hn⟩,?_⟩;rintro n _ y9 a8 ao ⟨xs,C,hn⟩;obtain ⟨m,a,rfl,N,O⟩:=ZN hn;apply brQ N<;>intro N
  .refine ixA slA N λc4 c5 b7 a9 N=>?_;refine Za9 C 1 rfl b7 a9 λc6 hd=>?_;refine ixI (C.rowC 1 rfl hd a9 (Zk _)) N λap N=>?_;refine ixA slA N λc7 c8 b8 aa N=>?_;refine Za9 C 1 rfl b8 aa λc9 b9=>?_;refine ixI (C.rowC 1 rfl b9 aa (Zk _)) N λaq N=>?_;refine ixA slA N λar ca ba i N=>?_;refine Za9 C 1 rfl ba i λcb ab=>?_;refine ixA (C.rowC 1 rfl ab i (Zk _)) N λcc cd bb ae N=>?_;refine Zk1 C 1 rfl ab i bb ae rfl (λ_=>⟨rfl,rfl⟩) λce C=>?_;dsimp at C;refine ixA slA N λau cf bc j N=>?_;refine Za9 C 1 rfl bc j λcg ac=>?_;refine ixA (C.rowC 1 rfl ac j (Zk _)) N λch cj af ag N=>?_;refine Zk1 C 1 rfl ac j af ag rfl (λ_=>⟨rfl,rfl⟩) λck C=>?_;dsimp at C;apply brQ N<;>intro N
   .exact wX
   .obtain ⟨bj,w⟩:=ZP N;refine ⟨λav aw ax ay=>S ψ l ay (.box b0 (g::.int .i64 k.2.qat::.int .u64 k.2.qseed::e)::.it (El.ow oL) [a4] ((xs.set (a5.1:Int).toNat (ar.set (y9:Int).toNat aq)).set (a6.1:Int).toNat (au.set (y9:Int).toNat ap))::os)/\loopN (Zpv y1 a5 a6 y9 a8 xs ap aq ar au) av (aw,ax)=Jg a,⟨bj,pkT C 2 [0,1],w⟩,?_⟩;rintro av _ aw ax ay ⟨C,w⟩;obtain ⟨cm,cn,rfl,N,bd⟩:=ZN w;apply brQ N<;>intro N
    .exact wX
    .obtain rfl:=oI N;obtain rfl:=oI bd;exact wX
  .exact wX
theorem ZgQ {ψ:CM} {g h:Heap} {os:List Ob} {f:Za} {i:Nat} {e:Jc} {a:Jl} {n1:Int} {r:Jb×Za} (N:Zcb f n1=Jg r) (C:S ψ g h (.box i (a::.int .i64 f.qat::.int .u64 f.qseed::e)::os)) (j:SlC (UB ψ g) (El.int .u8) a f.qcode):CallsH P 83 #[.pointer (Jg ⟨i,0,Jh⟩),.int .i64 n1] h (λv k=>∃w0,v=w0/\S ψ g k (.it oL [w0] r.1::.box i (a::.int .i64 r.2.qat::.int .u64 r.2.qseed::e)::os)):=by
 refine zv ⟨an [[3,36]],[],[],[]⟩ Tryz.func83 ?_;exact wX
instance k51:Kn 83 (type_of% @ZgQ):=⟨@ZgQ⟩
section
variable {ψ:CM} {h:Heap} (hψ:CLe ψ (hcell h))
include hψ
theorem ZHa {a0 v0 a v1 column2 e symbol3 f r} (N:Zkf a0 a column2 symbol3=Jg r) (g:sc h eL v0 a0) (i:sc h eI v1 a) (j:sc h eI e column2) (k:sc h eI f symbol3):zL 84 #[v0,v1,e,f] h ψ oL r:=by
 refine zT [[4,66],[7,72]] Tryz.func84 λC=>?_;exact wX
end
theorem ZtS {ψ:CM} {k h:Heap} {os:List Ob} {j:Za} {l:Nat} {e:Jc} {g:Jl} {y1:Int} {r:Ja×Za} (N:Zmd j y1=Jg r) (C:S ψ k h (.box l (g::.int .i64 j.qat::.int .u64 j.qseed::e)::os)) (i:SlC (UB ψ k) (El.int .u8) g j.qcode):CallsH P 45 #[.pointer (Jg ⟨l,0,Jh⟩),.int .i64 y1] h (λv h'=>∃w0,v=w0/\S ψ k h' (.it (El.ow oL) [w0] r.1::.box l (g::.int .i64 r.2.qat::.int .u64 r.2.qseed::e)::os)):=by
 refine zv ⟨an [[16,31,36]],an [[15,31]],[],[]⟩ Tryz.func45 ?_;refine cm1 N C (λs f=>Zb0 s f) λa4 a5 a6 C N=>⟨_,rfl,?_⟩;refine ⟨λv5 af=>∃y5 q a7,S ψ k af (.it (El.ow oL) [v5] y5::.box l (g::.int .i64 q::.int .u64 a7::e)::os)/\Zbc j y1 y5 q a7=Jg r,?_,?_⟩
 .apply brQ N<;>intro N
  .have C:S ψ k a6 (.box l (g::.int .i64 j.qat::.int .u64 j.qseed::e)::.it (El.ow oL) [a5] a4::os):=pkT C 2 [1,0];obtain ⟨de,bj,N⟩:=obind N;obtain ⟨cc,df,a8,ag⟩:=id C;refine (ZbT bj (a8.upS ag) (i.mono a8.ubU)).mono λcd ce ⟨bk,b4⟩=>⟨_,bk,?_⟩;replace C:=a8.downS b4;clear b4 a8 ag;apply brQ N<;>intro N
   .refine cm1 N C (λs f=>Zb0 s f) λdg dh cf C N=>⟨_,rfl,?_⟩;have C:=frA 0;refine cm1 N C (λs f=>Zb0 s f) λdi dj cg C N=>⟨_,rfl,?_⟩;have C:=frA 0;refine cm1 N C (λs f=>Ziw s f slA slA) λdk dl ch C N=>⟨_,rfl,?_⟩;exact ⟨_,_,_,pkT C 5 [0,3],N⟩
   .exact ⟨_,_,_,pkT C 2 [1,0],N⟩
  .apply brQ N<;>intro N
   .have C:S ψ k a6 (.box l (g::.int .i64 j.qat::.int .u64 j.qseed::e)::.it (El.ow oL) [a5] a4::os):=pkT C 2 [1,0];obtain ⟨dm,ax,N⟩:=obind N;obtain ⟨c9,cj,w,ah⟩:=id C;refine (ZbT ax (w.upS ah) (i.mono w.ubU)).mono λck cm ⟨ay,ai⟩=>⟨_,ay,?_⟩;replace C:=w.downS ai;clear ai w ah;apply brQ N<;>intro N
    .refine cm1 N C (λs f=>Zb0 s f) λdn dp cn C N=>⟨_,rfl,?_⟩;have C:=frA 0;refine cm1 N C (λs f=>Zb0 s f) λdq dr co C N=>⟨_,rfl,?_⟩;have C:=frA 0;refine cm1 N C (λs f=>Ziw s f slA slA) λds dt cp C N=>⟨_,rfl,?_⟩;exact ⟨_,_,_,pkT C 5 [0,3],N⟩
    .exact ⟨_,_,_,pkT C 2 [1,0],N⟩
   .apply brQ N<;>intro N
    .have C:S ψ k a6 (.box l (g::.int .i64 j.qat::.int .u64 j.qseed::e)::.it (El.ow oL) [a5] a4::os):=pkT C 2 [1,0];obtain ⟨du,az,N⟩:=obind N;obtain ⟨ca,cq,x,aj⟩:=id C;refine (ZbT az (x.upS aj) (i.mono x.ubU)).mono λcr ct ⟨b1,ak⟩=>⟨_,b1,?_⟩;replace C:=x.downS ak;clear ak x aj;apply brQ N<;>intro N
     .refine cm1 N C (λs f=>Zb0 s f) λdv dw cu C N=>⟨_,rfl,?_⟩;have C:=frA 0;refine cm1 N C (λs f=>Zb0 s f) λdx dy cv C N=>⟨_,rfl,?_⟩;have C:=frA 0;refine cm1 N C (λs f=>Ziw s f slA slA) λdz e0 cx C N=>⟨_,rfl,?_⟩;have C:=frA 0;refine cm1 N C (λs f=>Zb0 s f) λe1 e2 cy C N=>⟨_,rfl,?_⟩;have C:=frA 0;refine cm1 N C (λs f=>Ziw s f slA slA) λe3 e4 cz C N=>⟨_,rfl,?_⟩;exact ⟨_,_,_,pkT C 7 [0,5],N⟩
     .exact ⟨_,_,_,pkT C 2 [1,0],N⟩
    .apply brQ N<;>intro N
     .have C:S ψ k a6 (.box l (g::.int .i64 j.qat::.int .u64 j.qseed::e)::.it (El.ow oL) [a5] a4::os):=pkT C 2 [1,0];obtain ⟨e5,b2,N⟩:=obind N;obtain ⟨cb,d0,y,al⟩:=id C;refine (ZbT b2 (y.upS al) (i.mono y.ubU)).mono λd1 d2 ⟨b3,am⟩=>⟨_,b3,?_⟩;replace C:=y.downS am;clear am y al;apply brQ N<;>intro N
      .refine cm1 N C (λs f=>Zb0 s f) λe6 e7 d3 C N=>⟨_,rfl,?_⟩;have C:=frA 0;refine cm1 N C (λs f=>Zb0 s f) λe8 e9 d4 C N=>⟨_,rfl,?_⟩;have C:=frA 0;refine cm1 N C (λs f=>Ziw s f slA slA) λea eb d5 C N=>⟨_,rfl,?_⟩;exact ⟨_,_,_,pkT C 5 [0,3],N⟩
      .exact ⟨_,_,_,pkT C 2 [1,0],N⟩
     .exact ⟨_,_,_,pkT C 2 [0,1],N⟩
 .rintro _ v5 af ⟨y5,q,a7,C,N⟩;have C:S ψ k af (.box l (g::.int .i64 q::.int .u64 a7::e)::.it (El.ow oL) [v5] y5::os):=pkT C 2 [1,0];obtain ⟨ec,bm,N⟩:=obind N;obtain ⟨d6,ed,a9,b5⟩:=id C;refine (ZQ bm (a9.upS b5) (i.mono a9.ubU)).mono λee ef ⟨bn,b6⟩=>⟨_,bn,?_⟩;replace C:=a9.downS b6;clear b6 a9 b5;obtain ⟨c0,hn⟩:=ZP N;refine ⟨λn o y6 b7=>∃u ao ap,S ψ k b7 (.box l (g::.int .i64 ao::.int .u64 ap::e)::.it (El.ow oL) [o] u::os)/\loopN (Ztn j y1) n (u,y6,ao,ap)=Jg r,⟨c0,_,_,_,pkT C 2 [0,1],hn⟩,?_⟩;rintro n _ o y6 b7 ⟨u,ao,ap,C,hn⟩;obtain ⟨m,a,rfl,N,O⟩:=ZN hn;apply brQ N<;>intro N
  .have C:=frA 1;obtain ⟨eg,bp,N⟩:=obind N;obtain ⟨d7,eh,a2,aq⟩:=id C;refine (ZMe bp (a2.upS aq) (i.mono a2.ubU) ((frF aq 1 rfl).mono a2.ubF)).mono λei ej ⟨ek,bq,b8⟩=>⟨_,bq,?_⟩;replace C:=a2.downS b8;clear b8 a2 aq;obtain rfl:=oI N;exact ⟨_,ltS,_,_,_,pkT C 3 [1,0],O⟩
  .obtain ⟨a3,br,N⟩:=obind N;obtain ⟨d8,em,aa,b9⟩:=id C;refine (ZgQ br (aa.upS b9) (i.mono aa.ubU)).mono λen c4 ⟨ar,bs,ba⟩=>⟨_,bs,?_⟩;replace C:=aa.downS ba;clear ba aa b9;have C:S ψ k c4 (.box l (g::.int .i64 a3.2.qat::.int .u64 a3.2.qseed::e)::.it oL [ar] a3.1::.it (El.ow oL) [o] u::os):=pkT C 3 [1,0,2];obtain ⟨ab,bt,N⟩:=obind N;obtain ⟨d9,eo,ac,bb⟩:=id C;refine (ZgQ bt (ac.upS bb) (i.mono ac.ubU)).mono λep c5 ⟨bc,bu,bd⟩=>⟨_,bu,?_⟩;replace C:=ac.downS bd;clear bd ac bb;have C:S ψ k c5 (.box l (g::.int .i64 ab.2.qat::.int .u64 ab.2.qseed::e)::.it oL [bc] ab.1::.it oL [ar] a3.1::.it (El.ow oL) [o] u::os):=pkT C 4 [1,0,2,3];obtain ⟨au,bv,N⟩:=obind N;obtain ⟨da,er,ad,be⟩:=id C;refine (ZgQ bv (ad.upS be) (i.mono ad.ubU)).mono λes c6 ⟨c7,bw,bf⟩=>⟨_,bw,?_⟩;replace C:=ad.downS bf;clear bf ad be;have C:S ψ k c6 (.box l (g::.int .i64 au.2.qat::.int .u64 au.2.qseed::e)::.it oL [c7] au.1::.it oL [bc] ab.1::.it oL [ar] a3.1::.it (El.ow oL) [o] u::os):=pkT C 5 [1,0,2,3,4];obtain ⟨et,bx,N⟩:=obind N;obtain ⟨db,eu,ae,bg⟩:=id C;refine (ZbT bx (ae.upS bg) (i.mono ae.ubU)).mono λew dc ⟨bz,bh⟩=>⟨_,bz,?_⟩;replace C:=ae.downS bh;clear bh ae bg;apply brQ N<;>intro N
   .obtain rfl:=oI N;obtain rfl:=oI O;exact ⟨o,rfl,pkT C 5 [4,0]⟩
   .refine cm1 N C (λs f=>ZHa s f slA slA slA slA) λey c8 dd C N=>⟨_,rfl,?_⟩;obtain rfl:=oI N;obtain rfl:=oI O;exact ⟨c8,rfl,pkT C 6 [0,1]⟩
instance k52:Kn 45 (type_of% @ZtS):=⟨@ZtS⟩
section
variable {ψ:CM} {h:Heap} (hψ:CLe ψ (hcell h))
include hψ
theorem ZCj {e a r} (N:Zr8 e=Jg r) (f:sc h eL a e.Blocks):CallsH P 46 #[.agg #[.int .i64 e.Points,a]] h (λv g=>∃w0,v=.tuple #[.agg #[.int .i64 r.1.Kind,.int .i64 r.1.Size,w0],.int .i64 r.2]/\S ψ h g [.it (El.ow eL) [w0] r.1.Rows]):=by
 refine zO Tryz.func46 λC=>?_;exact wX
omit hψ in
instance k53:Kn 46 (type_of% @ZCj):=⟨@ZCj⟩
theorem Zf1 {g v0 r} (N:ZaC g=Jg r) (u:sc h eL v0 g):zL 89 #[v0] h ψ eL r:=by
 refine zU [[3,19,24],[6,30]] [[8,30]] Tryz.func89 λC=>?_;refine neA eL λv7 aa C=>?_;refine lw21 N (λl v e=>([.it (El.ow eL) [l] e],e,v)) λl v ab e a C N O=>?_;refine vL u C.le ?_;apply brQ N<;>intro N
 .refine ZF slA ?_;refine ⟨λk5 o=>S ψ h o [.it (El.ow eL) [l] e]/\ZdN g e v k5=Jg a,?_,?_⟩
  .refine lp1 (os:=[.it (El.ow eL) [l] e]) N (pk C [0]) λac a5 a6 ad C N j=>?_;apply brQ N<;>intro N
   .refine ixA slA N λae af w x N=>?_;refine Zbk C 0 rfl w x λag C=>?_;refine ixV u C.le N λah ai aj N=>?_;refine cm0 N C (λs i=>Zn2 s i slA slA) λak a7 C N=>⟨_,rfl,?_⟩;apply brQ N<;>intro N
    .exact wX
    .obtain ⟨xm,y,rfl⟩:=omap N;obtain rfl:=oI j;exact ⟨pk C [1],y⟩
   .obtain ⟨xm,y,rfl⟩:=omap N;obtain rfl:=oI j;exact ⟨pk C [0],y⟩
  .rintro _ k5 o ⟨C,N⟩;refine neA eL λal am C=>?_;obtain ⟨ao,i,N⟩:=obind N;refine ZeB Jh (Jg k5) slA i λap hv=>?_;obtain ⟨aq,a2,N⟩:=obind N;refine app_S C 0 rfl (Zni 1 rfl hv i rfl ZgT) rfl rfl a2 λar au C=>?_;dsimp at C;refine ixV u C.le N λav aw f N=>?_;refine cm1 N C (λs i=>Zdv s i slA) λax ay az C N=>⟨_,rfl,?_⟩;refine ZD oneA ?_;have C:=frA 0;have C:=C.copyF 0 rfl;refine piA N 1 λb0 b1 b2 C N=>?_;obtain ⟨b3,k,N⟩:=obind N;refine ZeB (Jg k5) Jh slA k λb4 a3=>?_;obtain ⟨b5,a4,N⟩:=obind N;refine app_S C 1 rfl (Zni 2 rfl a3 k rfl ZgT) rfl rfl a4 λb6 b7 C=>?_;exact wX
 .exact wX
omit hψ in
instance k54:Kn 89 (type_of% @Zf1):=⟨@Zf1⟩
theorem Zkp {e v0 n1 r} (N:Za3 e n1=Jg r) (w:sc h eI v0 e):zL 164 #[v0,.int .i64 n1] h ψ eI r:=by
 refine zU [[4,31,39,42]] [[7,147],[10,31,39]] Tryz.func164 λC=>?_;refine neA eI λv8 x C=>?_;refine lw31 N (λv j l f=>([.it oL [v] f],f,j,l)) λv j l y f a C N O=>?_;refine vL w C.le ?_;apply brQ N<;>intro N
 .refine ⟨λk i o=>∃g,S ψ h o [.it oL [k] g]/\ZbD e l g i=Jg a,?_,?_⟩
  .refine ⟨λs u=>S ψ h u [.it oL [v] f]/\Zcl e n1 f j l s=Jg a,?_,?_⟩
   .exact wX
   .rintro _ s u ⟨C,N⟩;exact wX
  .rintro _ k i o ⟨g,C,N⟩;exact wX
 .exact wX
omit hψ in
instance k55:Kn 164 (type_of% @Zkp):=⟨@Zkp⟩
theorem ZuS {a0 a c2 r} (N:Zdh a0 a c2=Jg r)  :zL 247 #[.int .i64 a0,.int .i64 a,.int .i64 c2] h ψ eI r:=by
 refine zO Tryz.func247 λC=>?_;exact wX
omit hψ in
instance k56:Kn 247 (type_of% @ZuS):=⟨@ZuS⟩
theorem Zyp {a r} (N:Zof a=Jg r)  :zL 160 #[.int .i64 a] h ψ eL r:=by
 refine zT [[4,25,30],[8,25,36],[12,25,48]] Tryz.func160 λC=>?_;exact wX
omit hψ in
instance k57:Kn 160 (type_of% @Zyp):=⟨@Zyp⟩
theorem ZvM {l r} (N:Zkv l=Jg r)  :zL 161 #[.int .i64 l] h ψ eL r:=by
 refine zU [[4,25,30],[8,25,36],[12,25,42],[15,25,48],[22,25,66]] [[21,60]] Tryz.func161 λC=>?_;refine neA eL λa2 a3 C=>?_;refine lw21 N (λv w o=>([.it (El.ow eL) [v] o],o,w)) λv w a4 o a C N O=>?_;apply brQ N<;>intro N
 .exact wX
 .refine lw21 N (λi s f=>([.it (El.ow eL) [i] f],f,s)) λi s a5 f a6 C N O=>?_;apply brQ N<;>intro N
  .refine lw21 N (λg u e=>([.it (El.ow eL) [g] e],e,u)) λg u y e x C N O=>?_;apply brQ N<;>intro N
   .refine gzA N λN=>?_;refine gzA N λN=>?_;refine ⟨λk j=>S ψ h j [.it (El.ow eL) [g] e]/\Zg2 l s e u k=Jg x,?_,?_⟩
    .exact wX
    .rintro _ k j ⟨C,N⟩;exact wX
   .exact wX
  .exact wX
omit hψ in
instance k58:Kn 161 (type_of% @ZvM):=⟨@ZvM⟩
theorem ZEn {v0 r} (N:Zjh v0=Jg r)  :CallsH P 85 #[.int .i64 v0] h (λv e=>∃w0,v=.agg #[.int .i64 r.Points,w0]/\S ψ h e [.it (El.ow eL) [w0] r.Blocks]):=by
 refine zO Tryz.func85 λC=>?_;exact wX
omit hψ in
instance k59:Kn 85 (type_of% @ZEn):=⟨@ZEn⟩
theorem Zwo {e v0 a v1 r} (N:ZmM e a=Jg r) (f:sc h eI v0 e) (g:sc h eI v1 a):zL 162 #[v0,v1] h ψ eI r:=by
 refine zT [[3,31,36]] Tryz.func162 λC=>?_;exact wX
omit hψ in
instance k60:Kn 162 (type_of% @Zwo):=⟨@Zwo⟩
theorem Zzr {e f a p1 v1 r} (N:Zmj e p1=Jg r) (i:CellsC (hcell h) f [.int .i64 e.Points,a]) (g:sc h eL a e.Blocks) (j:sc h eI v1 p1):CallsH P 86 #[.pointer (Jg f),v1] h (λv k=>∃w0,v=.agg #[.int .i64 r.Points,w0]/\S ψ h k [.it (El.ow eL) [w0] r.Blocks]):=by
 refine zS hψ ⟨an [[3,31,36]],[],[],[(6,⟨kdL [0,0,0,2,0,3,0,4],.fin [4,5,0,1,2,3,6,7],Ji⟩)]⟩ Tryz.func86 λC=>?_;exact wX
omit hψ in
instance k61:Kn 86 (type_of% @Zzr):=⟨@Zzr⟩
end
theorem ZbV {ψ:CM} {g h:Heap} {os:List Ob} {i:Za} {j:Nat} {e:Jc} {a:Jl} {f:Jb} {v1:Jl} {r:Int×Za} (N:ZaT i f=Jg r) (C:S ψ g h (.box j (a::.int .i64 i.qat::.int .u64 i.qseed::e)::os)) (k:SlC (UB ψ g) (El.int .u8) a i.qcode) (l:SlC (UB ψ g) eI v1 f):CallsH P 92 #[.pointer (Jg ⟨j,0,Jh⟩),v1] h (λv o=>v=.int .i64 r.1/\S ψ g o (.box j (a::.int .i64 r.2.qat::.int .u64 r.2.qseed::e)::os)):=by
 refine zv annO Tryz.func92 ?_;exact wX
instance k62:Kn 92 (type_of% @ZbV):=⟨@ZbV⟩
theorem ZoK {ψ:CM} {k h:Heap} {os:List Ob} {i:Za} {l:Nat} {e:Jc} {f:Jl} {a5:Int} {r:Ja×Za} (N:Zjz i a5=Jg r) (C:S ψ k h (.box l (f::.int .i64 i.qat::.int .u64 i.qseed::e)::os)) (o:SlC (UB ψ k) (El.int .u8) f i.qcode):CallsH P 88 #[.pointer (Jg ⟨l,0,Jh⟩),.int .i64 a5] h (λv h'=>∃w0,v=w0/\S ψ k h' (.it (El.ow eL) [w0] r.1::.box l (f::.int .i64 r.2.qat::.int .u64 r.2.qseed::e)::os)):=by
 refine zv ⟨an [[3,31,36],[7,43,48]],[],[],[]⟩ Tryz.func88 ?_;refine neA eL λv9 al C=>?_;have C:S ψ k al (.box l (f::.int .i64 i.qat::.int .u64 i.qseed::e)::.it (El.ow eL) [v9] ([]:Ja)::os):=pkT C 2 [1,0];obtain ⟨az,hx,N⟩:=obind N;obtain ⟨φ,L,s,a6⟩:=id C;refine (ZQ hx (s.upS a6) (o.mono s.ubU)).mono λb1 b2 ⟨eq,t⟩=>⟨_,eq,?_⟩;replace C:=s.downS t;clear t s a6;obtain ⟨am,hn⟩:=ZP N;refine ⟨λn v5 n6 a7=>∃g q a2,S ψ k a7 (.box l (f::.int .i64 q::.int .u64 a2::e)::.it (El.ow eL) [v5] g::os)/\loopN (Zqd i a5) n (g,n6,q,a2)=Jg r,⟨am,_,_,_,pkT C 2 [0,1],hn⟩,?_⟩;rintro n _ v5 n6 a7 ⟨g,q,a2,C,hn⟩;obtain ⟨m,a,rfl,N,O⟩:=ZN hn;apply brQ N<;>intro N
 .obtain ⟨j,ag,N⟩:=obind N;obtain ⟨aw,b3,x,a8⟩:=id C;refine (ZQ ag (x.upS a8) (o.mono x.ubU)).mono λb4 b5 ⟨ah,a9⟩=>⟨_,ah,?_⟩;replace C:=x.downS a9;clear a9 x a8;refine ZW (E:=eI) (css:=[[.int .i64 j.1]]) (xs:=([j.1]:Jb)) C (λ_=>⟨[],[],rfl,⟨rfl,rfl⟩,rfl⟩) rfl rfl λao ap C=>?_;have C:S ψ k ap (.box l (f::.int .i64 j.2.qat::.int .u64 j.2.qseed::e)::.it oL [ao] ([j.1]:Jb)::.it (El.ow eL) [v5] g::os):=pkT C 3 [1,0,2];obtain ⟨b6,ai,N⟩:=obind N;obtain ⟨ax,b7,y,aa⟩:=id C;refine (ZQ ai (y.upS aa) (o.mono y.ubU)).mono λb8 b9 ⟨aj,ab⟩=>⟨_,aj,?_⟩;replace C:=y.downS ab;clear ab y aa;obtain ⟨aq,u⟩:=ZP N;refine ⟨λac v7 k8 ad=>∃w a3 a4,S ψ k ad (.box l (f::.int .i64 a3::.int .u64 a4::e)::.it oL [v7] w::.it (El.ow eL) [v5] g::os)/\loopN (ZsN i a5 g n6) ac (w,k8,a3,a4)=Jg a,⟨aq,_,_,_,pkT C 3 [0,1,2],u⟩,?_⟩;rintro ac _ v7 k8 ad ⟨w,a3,a4,C,u⟩;obtain ⟨ba,bb,rfl,N,ak⟩:=ZN u;apply brQ N<;>intro N
  .exact wX
  .refine ZD oneA ?_;have C:=frA 1;have C:=C.copyF 1 rfl;refine piA N 2 λbc bd ay C N=>?_;obtain rfl:=oI N;obtain rfl:=oI ak;exact wX
 .exact wX
instance k63:Kn 88 (type_of% @ZoK):=⟨@ZoK⟩
end Go.Proofs.YtcneolcmjjlmnaaGreatDoor
