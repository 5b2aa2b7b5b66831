import Derived.KernelRfl
import Derived.Test.YtepnljbkgjbbmaaGreatDoorPuFns
import Derived.Test.YtepnljbkgjbbmaaGreatDoorVcFns
import Derived.Test.YtepnljbkgjbbmaaGreatDoorVcFld
namespace Go.Proofs.YtepnljbkgjbbmaaGreatDoor
open Go Go.Vc
set_option linter.unusedVariables false
set_option linter.unusedSimpArgs false
set_option maxRecDepth 20000
noncomputable def ctxQ:Ctx:=⟨Tryz.prog,tab,rst,3,354,exs,[92],[147],True⟩
theorem ctxOkQ:CtxOk ctxQ:=⟨ctxOk.tab,ctxOk.fns,ctxOk.mixed,ctxOk.ovs,ctxOk.eqs⟩
theorem zvq {f:FuncId} {fn:Func} {g:List Value} {h:Heap} {R:Value->Heap->Prop} (A:Ann) (j:P.funcs[f]?=some fn) (a:vcFn ctxQ A fn g h R)
  (e:((match fn.body with|some c=>aOk ctxQ A c&&cOk fn.ntmps c|none=>false)&&Nat.ble g.length fn.ntmps)=true:=by kernel_rfl):CallsQ True P f g.toArray h R:=
 ZeQ ctxOkQ A j g h R e a
attribute [local irreducible] CallsQ vLen vIdx IntKind.wrap hcell vNew vNewS vSliceS vStore1 vAppend vMake vCopy vB2S vS2B vNilS
theorem Zub {e:CM} {h:Heap} (a:CLe e (hcell h)) {x0:Int} {r:Bool} (I:ZcG x0=some r)  :CallsQ True P 205 #[.int .i64 x0] h (fun v g=>v=.bool r/\S e h g []):=by
 refine zvq ⟨[],[],[],[]⟩ Tryz.func205 ?_
 rw [ZcG] at I
 have C:S e h h []:=sZ a
 obtain rfl:=Option.some.inj I
 exact ⟨rfl,C.pick [] (by decide)⟩
theorem Zmn {ψ:CM} {h:Heap} (k:CLe ψ (hcell h)) {x0:Int} {l:Int} {r:Int} (I:Zbr x0 l=some r)  :CallsQ True P 162 #[.int .i64 x0,.int .i64 l] h (fun v h'=>v=.int .i64 r/\S ψ h h' []):=by
 refine zvq ⟨[],[],[],[]⟩ Tryz.func162 ?_
 rw [Zbr] at I
 have C:S ψ h h []:=sZ k
 obtain ⟨r8,o,I⟩:=obind I
 obtain ⟨φ,L,s,e⟩:=id C
 refine (Zub s.fle o).mono fun u w ⟨eq,t⟩=>⟨_,eq,?_⟩
 replace C:=join0 s e t
 clear t s e
 obtain ⟨x,i,I⟩:=obind I
 obtain ⟨p,y,c,f⟩:=id C
 refine (Zub c.fle i).mono fun a0 a1 ⟨j,g⟩=>⟨_,j,?_⟩
 replace C:=join0 c f g
 clear g c f
 refine bifP I (fun a I=>?_) (fun a I=>?_)
 ·refine bifP I (fun a I=>?_) (fun a I=>?_)
  ·obtain rfl:=Option.some.inj I
   exact ⟨rfl,C.pick [] (by decide)⟩
  ·obtain rfl:=Option.some.inj I
   exact ⟨rfl,C.pick [] (by decide)⟩
 ·refine bifP I (fun a I=>?_) (fun a I=>?_)
  ·obtain rfl:=Option.some.inj I
   exact ⟨rfl,C.pick [] (by decide)⟩
  ·refine bifP I (fun a I=>?_) (fun a I=>?_)
   ·obtain rfl:=Option.some.inj I
    exact ⟨rfl,C.pick [] (by decide)⟩
   ·refine bifP I (fun a I=>?_) (fun a I=>?_)
    ·obtain rfl:=Option.some.inj I
     exact ⟨rfl,C.pick [] (by decide)⟩
    ·obtain rfl:=Option.some.inj I
     exact ⟨rfl,C.pick [] (by decide)⟩
theorem ZsC {ψ:CM} {h:Heap} (w:CLe ψ (hcell h)) {l:List Int} {v0:Value} {s1:List Int} {v1:Value} {r:Int} (I:Zan l s1=some r) (f:SlC (hcell h) (El.int .i64) v0 l) (g:SlC (hcell h) (El.int .i64) v1 s1):CallsQ True P 117 #[v0,v1] h (fun v h'=>v=.int .i64 r/\S ψ h h' []):=by
 refine zvq ⟨[(2,[(11,.i .i64)])],[],[],[]⟩ Tryz.func117 ?_
 rw [Zan] at I
 have C:S ψ h h []:=sZ w
 refine Zm (f.mono C.le) ?_
 obtain ⟨x,o⟩:=Zax I
 refine ⟨fun n i j=>S ψ h j []/\loopN (Zby l s1) n i=some r,⟨x,C.pick [] (by decide),o⟩,?_⟩
 rintro n _ i j ⟨C,o⟩
 obtain ⟨m,a,rfl,I,O⟩:=Zh o
 rw [Zby] at I
 refine bifP I (fun c I=>?_) (fun c I=>?_)
 ·obtain ⟨a1,y,I⟩:=obind I
  refine Z4 (f.mono C.le) y fun a2 ad=>?_
  refine ldI_C (f.mono C.le) ad y ?_
  refine Zm (g.mono C.le) ?_
  refine bifP I (fun c I=>?_) (fun c I=>?_)
  ·obtain rfl:=Option.some.inj I
   obtain rfl:=Option.some.inj O
   exact ⟨rfl,C.pick [] (by decide)⟩
  ·obtain ⟨a3,e,I⟩:=obind I
   refine Z4 (g.mono C.le) e fun a4 p=>?_
   refine ldI_C (g.mono C.le) p e ?_
   obtain ⟨a5,u,I⟩:=obind I
   obtain ⟨φ,L,s,k⟩:=id C
   refine (Zmn s.fle u).mono fun a6 a7 ⟨eq,t⟩=>⟨_,eq,?_⟩
   replace C:=join0 s k t
   clear t s k
   refine bifP I (fun c I=>?_) (fun c I=>?_)
   ·obtain rfl:=Option.some.inj I
    obtain rfl:=Option.some.inj O
    exact ⟨rfl,C.pick [] (by decide)⟩
   ·obtain rfl:=Option.some.inj I
    exact ⟨m,Nat.lt_succ_self _,C.pick [] (by decide),O⟩
 ·refine Zm (f.mono C.le) ?_
  refine Zm (g.mono C.le) ?_
  refine bifP I (fun c I=>?_) (fun c I=>?_)
  ·obtain rfl:=Option.some.inj I
   obtain rfl:=Option.some.inj O
   exact ⟨rfl,C.pick [] (by decide)⟩
  ·obtain rfl:=Option.some.inj I
   obtain rfl:=Option.some.inj O
   exact ⟨rfl,C.pick [] (by decide)⟩
theorem Zwl {w:CM} {h:Heap} (j:CLe w (hcell h)) {c:List Int} {v0:Value} {r:Int} (I:ZeF c=some r) (f:SlC (hcell h) (El.int .i64) v0 c):CallsQ True P 212 #[v0] h (fun v x=>v=.int .i64 r/\S w h x []):=by
 refine zvq ⟨[(3,[(8,.i .i64)])],[],[],[]⟩ Tryz.func212 ?_
 rw [ZeF] at I
 have C:S w h h []:=sZ j
 refine Zm (f.mono C.le) ?_
 obtain ⟨k,g⟩:=Zax I
 refine ⟨fun n l e=>S w h e []/\loopN (ZcN c) n l=some r,⟨k,C.pick [] (by decide),g⟩,?_⟩
 rintro n _ l e ⟨C,g⟩
 obtain ⟨m,a,rfl,I,O⟩:=Zh g
 rw [ZcN] at I
 refine bifP I (fun i I=>?_) (fun i I=>?_)
 ·obtain ⟨s,o,I⟩:=obind I
  refine Z4 (f.mono C.le) o fun u p=>?_
  refine ldI_C (f.mono C.le) p o ?_
  refine bifP I (fun i I=>?_) (fun i I=>?_)
  ·obtain rfl:=Option.some.inj I
   obtain rfl:=Option.some.inj O
   exact ⟨rfl,C.pick [] (by decide)⟩
  ·obtain rfl:=Option.some.inj I
   exact ⟨m,Nat.lt_succ_self _,C.pick [] (by decide),O⟩
 ·obtain rfl:=Option.some.inj I
  obtain rfl:=Option.some.inj O
  exact ⟨rfl,C.pick [] (by decide)⟩
theorem ZGy {ψ:CM} {h:Heap} (a2:CLe ψ (hcell h)) {p:Zb} {u:Zb} {r:Int} (I:Za0 p u=some r)  :CallsQ True P 177 #[.agg #[.int .i64 p.A,.int .i64 p.B],.agg #[.int .i64 u.A,.int .i64 u.B]] h (fun v h'=>v=.int .i64 r/\S ψ h h' []):=by
 refine zvq ⟨[],[],[],[(1,⟨kdL [0,1,0,1,3,0,2,0,2,4,4,4,0],.fin [0,1,2,3,4,5,6,7,8,9,10,11,12],true⟩)]⟩ Tryz.func177 ?_
 rw [Za0] at I
 have C:S ψ h h []:=sZ a2
 refine new_S C fun b2 a8 C=>?_
 refine new_S C fun b3 a3 C=>?_
 refine ⟨fun _=>False,?_⟩
 have c:=C
 have a:=eX a3
 refine ldI_K (C.cells 1 rfl) 0 rfl rfl ?_
 refine ldI_K (C.cells 0 rfl) 0 rfl rfl ?_
 obtain ⟨r9,hx,I⟩:=obind I
 obtain ⟨φ,L,s,g⟩:=id C
 refine (Zmn s.fle hx).mono fun a9 aa ⟨eq,t⟩=>⟨_,eq,eZ (a.trans t.ext),?_⟩
 replace a:=a.trans t.ext
 replace C:=join0 s g t
 clear t s g
 refine ZJ ?_
 refine ldI_K (c.cells 1 rfl) 1 rfl rfl ?_
 refine ZJ ?_
 refine ldI_K (c.cells 0 rfl) 1 rfl rfl ?_
 obtain ⟨i,w,I⟩:=obind I
 obtain ⟨a6,ab,e,j⟩:=id C
 refine (Zmn e.fle w).mono fun ac ad ⟨x,k⟩=>⟨_,x,?_⟩
 replace C:=join0 e j k
 clear k e j
 refine ZO (E:=(El.int .i64)) (css:=[[.int .i64 r9],[.int .i64 i]]) (xs:=([r9,i]:List Int)) C (fun _=>⟨[],[],rfl,⟨rfl,rfl⟩,⟨[],[],rfl,⟨rfl,rfl⟩,rfl⟩⟩) rfl rfl fun ae af C=>?_
 obtain ⟨ag,y,I⟩:=obind I
 obtain ⟨a7,ah,f,l⟩:=id C
 refine (Zwl f.fle y (C.rdL 0 rfl (Zk _))).mono fun ai aj ⟨a1,o⟩=>⟨_,a1,?_⟩
 replace C:=join0 f l o
 clear o f l
 obtain rfl:=Option.some.inj I
 exact ⟨rfl,C.pick [] (by decide)⟩
end Go.Proofs.YtepnljbkgjbbmaaGreatDoor
