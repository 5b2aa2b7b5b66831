import Derived.KernelRfl
import Derived.Test.YtdmledeildfidaaGreatDoorPuFns
import Derived.Test.YtdmledeildfidaaGreatDoorVcFns
import Derived.Test.YtdmledeildfidaaGreatDoorVcFld
namespace Go.Proofs.YtdmledeildfidaaGreatDoor
open Go Go.Vc
set_option linter.unusedVariables false
set_option linter.unusedSimpArgs false
set_option maxRecDepth 20000
noncomputable def ctxQ:Ctx:=⟨Tryz.prog,tab,rst,3,390,exs,[],[173],True⟩
theorem ctxOkQ:CtxOk ctxQ:=⟨ctxOk.tab,ctxOk.fns,ctxOk.mixed,ctxOk.ovs,ctxOk.eqs⟩
theorem zvq {f:FuncId} {fn:Func} {g:List Value} {h:Heap} {R:Value->Heap->Prop} (A:Ann) (j:P.funcs[f]?=some fn) (a:vcFn ctxQ A fn g h R)
  (e:((match fn.body with|some c=>aOk ctxQ A c&&cOk fn.ntmps c|none=>false)&&Nat.ble g.length fn.ntmps)=true:=by kernel_rfl):CallsQ True P f g.toArray h R:=
 Zgr ctxOkQ A j g h R e a
attribute [local irreducible] CallsQ vLen vIdx IntKind.wrap hcell vNew vNewS vSliceS vStore1 vAppend vMake vCopy vB2S vS2B vNilS vSliceStr
theorem ZvK {e:CM} {h:Heap} (a:CLe e (hcell h)) {x0:Int} {r:Bool} (U:Zcp x0=some r)  :CallsQ True P 282 #[.int .i64 x0] h (fun v g=>v=.bool r/\S e h g []):=by
 refine zvq ⟨[],[],[],[]⟩ Tryz.func282 ?_;rw [Zcp] at U;have T:S e h h []:=sZ a;obtain rfl:=Option.some.inj U;exact ⟨rfl,T.pick [] (by decide)⟩
theorem ZoP {ψ:CM} {h:Heap} (k:CLe ψ (hcell h)) {x0:Int} {l:Int} {r:Int} (U:ZbO x0 l=some r)  :CallsQ True P 234 #[.int .i64 x0,.int .i64 l] h (fun v h'=>v=.int .i64 r/\S ψ h h' []):=by
 refine zvq ⟨[],[],[],[]⟩ Tryz.func234 ?_;rw [ZbO] at U;have T:S ψ h h []:=sZ k;obtain ⟨r8,o,U⟩:=obind U;obtain ⟨φ,L,s,e⟩:=id T;refine (ZvK s.fle o).mono fun w x ⟨eq,t⟩=>⟨_,eq,?_⟩
 replace T:=join0 s e t;clear t s e;obtain ⟨y,i,U⟩:=obind U;obtain ⟨u,a0,c,f⟩:=id T;refine (ZvK c.fle i).mono fun a1 a2 ⟨j,g⟩=>⟨_,j,?_⟩
 replace T:=join0 c f g;clear g c f;refine bifP U (fun a U=>?_) (fun a U=>?_)
 ·refine bifP U (fun a U=>?_) (fun a U=>?_)
  ·obtain rfl:=Option.some.inj U;exact ⟨rfl,T.pick [] (by decide)⟩
  ·obtain rfl:=Option.some.inj U;exact ⟨rfl,T.pick [] (by decide)⟩
 ·refine bifP U (fun a U=>?_) (fun a U=>?_)
  ·obtain rfl:=Option.some.inj U;exact ⟨rfl,T.pick [] (by decide)⟩
  ·refine bifP U (fun a U=>?_) (fun a U=>?_)
   ·obtain rfl:=Option.some.inj U;exact ⟨rfl,T.pick [] (by decide)⟩
   ·refine bifP U (fun a U=>?_) (fun a U=>?_)
    ·obtain rfl:=Option.some.inj U;exact ⟨rfl,T.pick [] (by decide)⟩
    ·obtain rfl:=Option.some.inj U;exact ⟨rfl,T.pick [] (by decide)⟩
theorem Zv0 {ψ:CM} {h:Heap} (x:CLe ψ (hcell h)) {l:List Int} {v0:Value} {s1:List Int} {v1:Value} {r:Int} (U:Zal l s1=some r) (f:SlC (hcell h) (El.int .i64) v0 l) (g:SlC (hcell h) (El.int .i64) v1 s1):CallsQ True P 170 #[v0,v1] h (fun v h'=>v=.int .i64 r/\S ψ h h' []):=by
 refine zvq ⟨[(2,[(11,.i .i64)])],[],[],[]⟩ Tryz.func170 ?_;rw [Zal] at U;have T:S ψ h h []:=sZ x;refine Zi (f.mono T.le) ?_;obtain ⟨y,o⟩:=Zad U;refine ⟨fun n i j=>S ψ h j []/\loopN (ZbJ l s1) n i=some r,⟨y,T.pick [] (by decide),o⟩,?_⟩;rintro n _ i j ⟨T,o⟩;obtain ⟨m,a,rfl,U,W⟩:=Zab o;rw [ZbJ] at U;refine bifP U (fun c U=>?_) (fun c U=>?_)
 ·obtain ⟨a2,hx,U⟩:=obind U;refine ZZ (f.mono T.le) hx fun a3 ad=>?_;refine ldI_C (f.mono T.le) ad hx ?_;refine Zi (g.mono T.le) ?_;refine bifP U (fun c U=>?_) (fun c U=>?_)
  ·obtain rfl:=Option.some.inj U;obtain rfl:=Option.some.inj W;exact ⟨rfl,T.pick [] (by decide)⟩
  ·obtain ⟨a4,e,U⟩:=obind U;refine ZZ (g.mono T.le) e fun a5 u=>?_;refine ldI_C (g.mono T.le) u e ?_;obtain ⟨a6,w,U⟩:=obind U;obtain ⟨φ,L,s,k⟩:=id T;refine (ZoP s.fle w).mono fun a7 a8 ⟨eq,t⟩=>⟨_,eq,?_⟩
   replace T:=join0 s k t;clear t s k;refine bifP U (fun c U=>?_) (fun c U=>?_)
   ·obtain rfl:=Option.some.inj U;obtain rfl:=Option.some.inj W;exact ⟨rfl,T.pick [] (by decide)⟩
   ·obtain rfl:=Option.some.inj U;exact ⟨m,Nat.lt_succ_self _,T.pick [] (by decide),W⟩
 ·refine Zi (f.mono T.le) ?_;refine Zi (g.mono T.le) ?_;refine bifP U (fun c U=>?_) (fun c U=>?_)
  ·obtain rfl:=Option.some.inj U;obtain rfl:=Option.some.inj W;exact ⟨rfl,T.pick [] (by decide)⟩
  ·obtain rfl:=Option.some.inj U;obtain rfl:=Option.some.inj W;exact ⟨rfl,T.pick [] (by decide)⟩
theorem ZFD {x:CM} {h:Heap} (j:CLe x (hcell h)) {c:List Int} {v0:Value} {r:Int} (U:Ze0 c=some r) (f:SlC (hcell h) (El.int .i64) v0 c):CallsQ True P 289 #[v0] h (fun v h'=>v=.int .i64 r/\S x h h' []):=by
 refine zvq ⟨[(3,[(8,.i .i64)])],[],[],[]⟩ Tryz.func289 ?_;rw [Ze0] at U;have T:S x h h []:=sZ j;refine Zi (f.mono T.le) ?_;obtain ⟨k,g⟩:=Zad U;refine ⟨fun n l e=>S x h e []/\loopN (ZcX c) n l=some r,⟨k,T.pick [] (by decide),g⟩,?_⟩;rintro n _ l e ⟨T,g⟩;obtain ⟨m,a,rfl,U,W⟩:=Zab g;rw [ZcX] at U;refine bifP U (fun i U=>?_) (fun i U=>?_)
 ·obtain ⟨u,o,U⟩:=obind U;refine ZZ (f.mono T.le) o fun w s=>?_;refine ldI_C (f.mono T.le) s o ?_;refine bifP U (fun i U=>?_) (fun i U=>?_)
  ·obtain rfl:=Option.some.inj U;obtain rfl:=Option.some.inj W;exact ⟨rfl,T.pick [] (by decide)⟩
  ·obtain rfl:=Option.some.inj U;exact ⟨m,Nat.lt_succ_self _,T.pick [] (by decide),W⟩
 ·obtain rfl:=Option.some.inj U;obtain rfl:=Option.some.inj W;exact ⟨rfl,T.pick [] (by decide)⟩
theorem ZwT {ψ:CM} {h:Heap} (a3:CLe ψ (hcell h)) {u:Zb} {w:Zb} {r:Int} (U:Zbo u w=some r)  :CallsQ True P 248 #[.agg #[.int .i64 u.A,.int .i64 u.B],.agg #[.int .i64 w.A,.int .i64 w.B]] h (fun v h'=>v=.int .i64 r/\S ψ h h' []):=by
 refine zvq ⟨[],[],[],[(1,⟨kdL [0,1,0,1,3,0,2,0,2,4,4,4,0],.fin [0,1,2,3,4,5,6,7,8,9,10,11,12],true⟩)]⟩ Tryz.func248 ?_;rw [Zbo] at U;have T:S ψ h h []:=sZ a3;refine new_S T fun b2 a9 T=>?_;refine new_S T fun b3 a4 T=>?_;refine ⟨fun _=>False,?_⟩;have c:=T;have a:=eX a4;refine ldI_K (T.cells 1 rfl) 0 rfl rfl ?_;refine ldI_K (T.cells 0 rfl) 0 rfl rfl ?_;obtain ⟨r9,hx,U⟩:=obind U;obtain ⟨φ,L,s,g⟩:=id T;refine (ZoP s.fle hx).mono fun aa ab ⟨eq,t⟩=>⟨_,eq,eZ (a.trans t.ext),?_⟩
 replace a:=a.trans t.ext;replace T:=join0 s g t;clear t s g;refine ZH ?_;refine ldI_K (c.cells 1 rfl) 1 rfl rfl ?_;refine ZH ?_;refine ldI_K (c.cells 0 rfl) 1 rfl rfl ?_;obtain ⟨i,x,U⟩:=obind U;obtain ⟨a7,ac,e,j⟩:=id T;refine (ZoP e.fle x).mono fun ad ae ⟨y,k⟩=>⟨_,y,?_⟩
 replace T:=join0 e j k;clear k e j;refine ZaJ (E:=(El.int .i64)) (css:=[[.int .i64 r9],[.int .i64 i]]) (xs:=([r9,i]:List Int)) T (fun _=>⟨[],[],rfl,⟨rfl,rfl⟩,⟨[],[],rfl,⟨rfl,rfl⟩,rfl⟩⟩) rfl rfl fun af ag T=>?_;obtain ⟨ah,a1,U⟩:=obind U;obtain ⟨a8,ai,f,l⟩:=id T;refine (ZFD f.fle a1 (T.rdL 0 rfl (Zk _))).mono fun aj ak ⟨a2,o⟩=>⟨_,a2,?_⟩
 replace T:=join0 f l o;clear o f l;obtain rfl:=Option.some.inj U;exact ⟨rfl,T.pick [] (by decide)⟩
end Go.Proofs.YtdmledeildfidaaGreatDoor
