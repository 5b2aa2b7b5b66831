import Derived.KernelRfl
import Derived.Test.YtepnljbkgjbbmaaGreatDoorPuFns
import Derived.Test.YtepnljbkgjbbmaaGreatDoorVcFns
import Derived.Test.YtepnljbkgjbbmaaGreatDoorVcFld
namespace Go.Proofs.YtepnljbkgjbbmaaGreatDoor
open Go Go.Vc
set_option linter.unusedVariables false
set_option linter.unusedSimpArgs false
set_option maxRecDepth 20000
noncomputable def ctxQ:Ctx:=⟨Tryz.prog,tab,rst,3,354,exs,[92],[147],True⟩
theorem ctxOkQ:CtxOk ctxQ:=⟨ctxOk.tab,ctxOk.fns,ctxOk.mixed,ctxOk.ovs,ctxOk.eqs⟩
theorem zvq {f:FuncId} {fn:Func} {g:List Value} {h:Heap} {R:Value->Heap->Prop} (A:Ann) (j:P.funcs[f]?=some fn) (a:vcFn ctxQ A fn g h R)
  (e:((match fn.body with|some c=>aOk ctxQ A c&&cOk fn.ntmps c|none=>false)&&Nat.ble g.length fn.ntmps)=true:=by kernel_rfl):CallsQ True P f g.toArray h R:=
 Zig ctxOkQ A j g h R e a
attribute [local irreducible] CallsQ vLen vIdx IntKind.wrap hcell vNew vNewS vSliceS vStore1 vAppend vMake vCopy vB2S vS2B vNilS
theorem Zqn {e:CM} {h:Heap} (a:CLe e (hcell h)) {x0:Int} {r:Bool} (D:Zcx x0=some r)  :CallsQ True P 205 #[.int .i64 x0] h (fun v g=>v=.bool r/\S e h g []):=by
 refine zvq ⟨[],[],[],[]⟩ Tryz.func205 ?_
 rw [Zcx] at D
 have C:S e h h []:=sZ a
 obtain rfl:=Option.some.inj D
 exact ⟨rfl,C.pick [] (by decide)⟩
theorem Zoy {ψ:CM} {h:Heap} (k:CLe ψ (hcell h)) {x0:Int} {l:Int} {r:Int} (D:ZbD x0 l=some r)  :CallsQ True P 162 #[.int .i64 x0,.int .i64 l] h (fun v h'=>v=.int .i64 r/\S ψ h h' []):=by
 refine zvq ⟨[],[],[],[]⟩ Tryz.func162 ?_
 rw [ZbD] at D
 have C:S ψ h h []:=sZ k
 obtain ⟨r8,o,D⟩:=obind D
 obtain ⟨φ,L,s,e⟩:=id C
 refine (Zqn s.fle o).mono fun u w ⟨eq,t⟩=>⟨_,eq,?_⟩
 replace C:=join0 s e t
 clear t s e
 obtain ⟨x,i,D⟩:=obind D
 obtain ⟨p,y,c,f⟩:=id C
 refine (Zqn c.fle i).mono fun a0 a1 ⟨j,g⟩=>⟨_,j,?_⟩
 replace C:=join0 c f g
 clear g c f
 refine bifP D (fun a D=>?_) (fun a D=>?_)
 ·refine bifP D (fun a D=>?_) (fun a D=>?_)
  ·obtain rfl:=Option.some.inj D
   exact ⟨rfl,C.pick [] (by decide)⟩
  ·obtain rfl:=Option.some.inj D
   exact ⟨rfl,C.pick [] (by decide)⟩
 ·refine bifP D (fun a D=>?_) (fun a D=>?_)
  ·obtain rfl:=Option.some.inj D
   exact ⟨rfl,C.pick [] (by decide)⟩
  ·refine bifP D (fun a D=>?_) (fun a D=>?_)
   ·obtain rfl:=Option.some.inj D
    exact ⟨rfl,C.pick [] (by decide)⟩
   ·refine bifP D (fun a D=>?_) (fun a D=>?_)
    ·obtain rfl:=Option.some.inj D
     exact ⟨rfl,C.pick [] (by decide)⟩
    ·obtain rfl:=Option.some.inj D
     exact ⟨rfl,C.pick [] (by decide)⟩
theorem ZsG {ψ:CM} {h:Heap} (w:CLe ψ (hcell h)) {l:List Int} {v0:Value} {s1:List Int} {v1:Value} {r:Int} (D:Zao l s1=some r) (f:SlC (hcell h) (El.int .i64) v0 l) (g:SlC (hcell h) (El.int .i64) v1 s1):CallsQ True P 117 #[v0,v1] h (fun v h'=>v=.int .i64 r/\S ψ h h' []):=by
 refine zvq ⟨[(2,[(11,.i .i64)])],[],[],[]⟩ Tryz.func117 ?_
 rw [Zao] at D
 have C:S ψ h h []:=sZ w
 refine Zn (f.mono C.le) ?_
 obtain ⟨x,o⟩:=Zj D
 refine ⟨fun n i j=>S ψ h j []/\loopN (ZbC l s1) n i=some r,⟨x,C.pick [] (by decide),o⟩,?_⟩
 rintro n _ i j ⟨C,o⟩
 obtain ⟨m,a,rfl,D,I⟩:=Zi o
 rw [ZbC] at D
 refine bifP D (fun c D=>?_) (fun c D=>?_)
 ·obtain ⟨a1,y,D⟩:=obind D
  refine Z6 (f.mono C.le) y fun a2 ad=>?_
  refine ldI_C (f.mono C.le) ad y ?_
  refine Zn (g.mono C.le) ?_
  refine bifP D (fun c D=>?_) (fun c D=>?_)
  ·obtain rfl:=Option.some.inj D
   obtain rfl:=Option.some.inj I
   exact ⟨rfl,C.pick [] (by decide)⟩
  ·obtain ⟨a3,e,D⟩:=obind D
   refine Z6 (g.mono C.le) e fun a4 p=>?_
   refine ldI_C (g.mono C.le) p e ?_
   obtain ⟨a5,u,D⟩:=obind D
   obtain ⟨φ,L,s,k⟩:=id C
   refine (Zoy s.fle u).mono fun a6 a7 ⟨eq,t⟩=>⟨_,eq,?_⟩
   replace C:=join0 s k t
   clear t s k
   refine bifP D (fun c D=>?_) (fun c D=>?_)
   ·obtain rfl:=Option.some.inj D
    obtain rfl:=Option.some.inj I
    exact ⟨rfl,C.pick [] (by decide)⟩
   ·obtain rfl:=Option.some.inj D
    exact ⟨m,Nat.lt_succ_self _,C.pick [] (by decide),I⟩
 ·refine Zn (f.mono C.le) ?_
  refine Zn (g.mono C.le) ?_
  refine bifP D (fun c D=>?_) (fun c D=>?_)
  ·obtain rfl:=Option.some.inj D
   obtain rfl:=Option.some.inj I
   exact ⟨rfl,C.pick [] (by decide)⟩
  ·obtain rfl:=Option.some.inj D
   obtain rfl:=Option.some.inj I
   exact ⟨rfl,C.pick [] (by decide)⟩
theorem ZxD {w:CM} {h:Heap} (j:CLe w (hcell h)) {c:List Int} {v0:Value} {r:Int} (D:ZeU c=some r) (f:SlC (hcell h) (El.int .i64) v0 c):CallsQ True P 212 #[v0] h (fun v x=>v=.int .i64 r/\S w h x []):=by
 refine zvq ⟨[(3,[(8,.i .i64)])],[],[],[]⟩ Tryz.func212 ?_
 rw [ZeU] at D
 have C:S w h h []:=sZ j
 refine Zn (f.mono C.le) ?_
 obtain ⟨k,g⟩:=Zj D
 refine ⟨fun n l e=>S w h e []/\loopN (ZcC c) n l=some r,⟨k,C.pick [] (by decide),g⟩,?_⟩
 rintro n _ l e ⟨C,g⟩
 obtain ⟨m,a,rfl,D,I⟩:=Zi g
 rw [ZcC] at D
 refine bifP D (fun i D=>?_) (fun i D=>?_)
 ·obtain ⟨s,o,D⟩:=obind D
  refine Z6 (f.mono C.le) o fun u p=>?_
  refine ldI_C (f.mono C.le) p o ?_
  refine bifP D (fun i D=>?_) (fun i D=>?_)
  ·obtain rfl:=Option.some.inj D
   obtain rfl:=Option.some.inj I
   exact ⟨rfl,C.pick [] (by decide)⟩
  ·obtain rfl:=Option.some.inj D
   exact ⟨m,Nat.lt_succ_self _,C.pick [] (by decide),I⟩
 ·obtain rfl:=Option.some.inj D
  obtain rfl:=Option.some.inj I
  exact ⟨rfl,C.pick [] (by decide)⟩
theorem ZEp {ψ:CM} {h:Heap} (a2:CLe ψ (hcell h)) {p:Zb} {u:Zb} {r:Int} (D:Zbb p u=some r)  :CallsQ True P 177 #[.agg #[.int .i64 p.A,.int .i64 p.B],.agg #[.int .i64 u.A,.int .i64 u.B]] h (fun v h'=>v=.int .i64 r/\S ψ h h' []):=by
 refine zvq ⟨[],[],[],[(1,⟨kdL [0,1,0,1,3,0,2,0,2,4,4,4,0],.fin [0,1,2,3,4,5,6,7,8,9,10,11,12],true⟩)]⟩ Tryz.func177 ?_
 rw [Zbb] at D
 have C:S ψ h h []:=sZ a2
 refine new_S C fun b2 a8 C=>?_
 refine new_S C fun b3 a3 C=>?_
 refine ⟨fun _=>False,?_⟩
 have c:=C
 have a:=eX a3
 refine ldI_K (C.cells 1 rfl) 0 rfl rfl ?_
 refine ldI_K (C.cells 0 rfl) 0 rfl rfl ?_
 obtain ⟨r9,hx,D⟩:=obind D
 obtain ⟨φ,L,s,g⟩:=id C
 refine (Zoy s.fle hx).mono fun a9 aa ⟨eq,t⟩=>⟨_,eq,eZ (a.trans t.ext),?_⟩
 replace a:=a.trans t.ext
 replace C:=join0 s g t
 clear t s g
 refine ZJ ?_
 refine ldI_K (c.cells 1 rfl) 1 rfl rfl ?_
 refine ZJ ?_
 refine ldI_K (c.cells 0 rfl) 1 rfl rfl ?_
 obtain ⟨i,w,D⟩:=obind D
 obtain ⟨a6,ab,e,j⟩:=id C
 refine (Zoy e.fle w).mono fun ac ad ⟨x,k⟩=>⟨_,x,?_⟩
 replace C:=join0 e j k
 clear k e j
 refine ZP (E:=(El.int .i64)) (css:=[[.int .i64 r9],[.int .i64 i]]) (xs:=([r9,i]:List Int)) C (fun _=>⟨[],[],rfl,⟨rfl,rfl⟩,⟨[],[],rfl,⟨rfl,rfl⟩,rfl⟩⟩) rfl rfl fun ae af C=>?_
 obtain ⟨ag,y,D⟩:=obind D
 obtain ⟨a7,ah,f,l⟩:=id C
 refine (ZxD f.fle y (C.rdL 0 rfl (Zh _))).mono fun ai aj ⟨a1,o⟩=>⟨_,a1,?_⟩
 replace C:=join0 f l o
 clear o f l
 obtain rfl:=Option.some.inj D
 exact ⟨rfl,C.pick [] (by decide)⟩
end Go.Proofs.YtepnljbkgjbbmaaGreatDoor
