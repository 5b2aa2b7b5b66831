import Derived.KernelRfl
import Derived.Test.YtahnjnfpjcfklaaGreatDoorPuFns
import Derived.Test.YtahnjnfpjcfklaaGreatDoorVcFns
import Derived.Test.YtahnjnfpjcfklaaGreatDoorVcFld
namespace Go.Proofs.YtahnjnfpjcfklaaGreatDoor
open Go Go.Vc
set_option linter.unusedVariables false
set_option linter.unusedSimpArgs false
set_option maxRecDepth 20000
noncomputable def ctxQ:Ctx:=⟨Tryz.prog,tab,rst,3,375,exs,[],[142],True⟩
theorem ctxOkQ:CtxOk ctxQ:=⟨ctxOk.tab,ctxOk.fns,ctxOk.mixed,ctxOk.ovs,ctxOk.eqs⟩
theorem zvq {f:FuncId} {fn:Func} {g:List Value} {h:Heap} {R:Value->Heap->Prop} (A:Ann) (j:P.funcs[f]?=some fn) (a:vcFn ctxQ A fn g h R)
  (e:((match fn.body with|some c=>aOk ctxQ A c&&cOk fn.ntmps c|none=>false)&&Nat.ble g.length fn.ntmps)=true:=by kernel_rfl):CallsQ True P f g.toArray h R:=
 Zhx ctxOkQ A j g h R e a
attribute [local irreducible] CallsQ vLen vIdx IntKind.wrap hcell vNew vNewS vSliceS vStore1 vAppend vMake vCopy vB2S vS2B vNilS vSliceStr
theorem Zun {g:CM} {h:Heap} (a:CLe g (hcell h)) {e:Int} {r:Bool} (N:ZcB e=some r)  :CallsQ True P 225 #[.int .i64 e] h (fun v j=>v=.bool r/\S g h j []):=by
 refine zvq ⟨[],[],[],[]⟩ Tryz.func225 ?_;rw [ZcB] at N;have C:S g h h []:=S.start a;obtain rfl:=Option.some.inj N;exact ⟨rfl,C.pick [] (by decide)⟩
theorem ZlV {ψ:CM} {h:Heap} (l:CLe ψ (hcell h)) {o:Int} {u:Int} {r:Int} (N:ZbP o u=some r)  :CallsQ True P 149 #[.int .i64 o,.int .i64 u] h (fun v h'=>v=.int .i64 r/\S ψ h h' []):=by
 refine zvq ⟨[],[],[],[]⟩ Tryz.func149 ?_;rw [ZbP] at N;have C:S ψ h h []:=S.start l;obtain ⟨r8,w,N⟩:=obind N;obtain ⟨φ,L,s,f⟩:=id C;refine (Zun s.fle w).mono fun a2 a3 ⟨x,t⟩=>⟨_,x,?_⟩
 replace C:=join0 s f t;clear t s f;obtain ⟨a4,j,N⟩:=obind N;obtain ⟨y,a5,e,g⟩:=id C;refine (Zun e.fle j).mono fun a6 a7 ⟨k,i⟩=>⟨_,k,?_⟩
 replace C:=join0 e g i;clear i e g;refine bifP N (fun a N=>?_) (fun a N=>?_)
 ·refine bifP N (fun a N=>?_) (fun a N=>?_)
  ·obtain rfl:=Option.some.inj N;exact ⟨rfl,C.pick [] (by decide)⟩
  ·obtain rfl:=Option.some.inj N;exact ⟨rfl,C.pick [] (by decide)⟩
 ·refine bifP N (fun a N=>?_) (fun a N=>?_)
  ·obtain rfl:=Option.some.inj N;exact ⟨rfl,C.pick [] (by decide)⟩
  ·refine bifP N (fun a N=>?_) (fun a N=>?_)
   ·obtain rfl:=Option.some.inj N;exact ⟨rfl,C.pick [] (by decide)⟩
   ·refine bifP N (fun a N=>?_) (fun a N=>?_)
    ·obtain rfl:=Option.some.inj N;exact ⟨rfl,C.pick [] (by decide)⟩
    ·obtain rfl:=Option.some.inj N;exact ⟨rfl,C.pick [] (by decide)⟩
theorem ZrB {ψ:CM} {h:Heap} (a2:CLe ψ (hcell h)) {o:List Int} {v0:Value} {u:List Int} {v1:Value} {r:Int} (N:Zam o u=some r) (g:SlC (hcell h) (El.int .i64) v0 o) (i:SlC (hcell h) (El.int .i64) v1 u):CallsQ True P 77 #[v0,v1] h (fun v h'=>v=.int .i64 r/\S ψ h h' []):=by
 refine zvq ⟨[(2,[(11,.i .i64)])],[],[],[]⟩ Tryz.func77 ?_;rw [Zam] at N;have C:S ψ h h []:=S.start a2;refine Zy (g.mono C.le) ?_;obtain ⟨a3,w⟩:=ZN N;refine ⟨fun n j k=>S ψ h k []/\loopN (Zbt o u) n j=some r,⟨a3,C.pick [] (by decide),w⟩,?_⟩;rintro n _ j k ⟨C,w⟩;obtain ⟨m,a,rfl,N,O⟩:=ZM w;rw [Zbt] at N;refine bifP N (fun e N=>?_) (fun e N=>?_)
 ·obtain ⟨a7,hx,N⟩:=obind N;refine ZV (g.mono C.le) hx fun a8 ad=>?_;refine ldI_C (g.mono C.le) ad hx ?_;refine Zy (i.mono C.le) ?_;refine bifP N (fun e N=>?_) (fun e N=>?_)
  ·obtain rfl:=Option.some.inj N;obtain rfl:=Option.some.inj O;exact ⟨rfl,C.pick [] (by decide)⟩
  ·obtain ⟨a9,f,N⟩:=obind N;refine ZV (i.mono C.le) f fun aa x=>?_;refine ldI_C (i.mono C.le) x f ?_;obtain ⟨ab,y,N⟩:=obind N;obtain ⟨φ,L,s,l⟩:=id C;refine (ZlV s.fle y).mono fun ac ae ⟨eq,t⟩=>⟨_,eq,?_⟩
   replace C:=join0 s l t;clear t s l;refine bifP N (fun e N=>?_) (fun e N=>?_)
   ·obtain rfl:=Option.some.inj N;obtain rfl:=Option.some.inj O;exact ⟨rfl,C.pick [] (by decide)⟩
   ·obtain rfl:=Option.some.inj N;exact ⟨m,Nat.lt_succ_self _,C.pick [] (by decide),O⟩
 ·refine Zy (g.mono C.le) ?_;refine Zy (i.mono C.le) ?_;refine bifP N (fun e N=>?_) (fun e N=>?_)
  ·obtain rfl:=Option.some.inj N;obtain rfl:=Option.some.inj O;exact ⟨rfl,C.pick [] (by decide)⟩
  ·obtain rfl:=Option.some.inj N;obtain rfl:=Option.some.inj O;exact ⟨rfl,C.pick [] (by decide)⟩
theorem ZAZ {ψ:CM} {h:Heap} (k:CLe ψ (hcell h)) {e:List Int} {v0:Value} {r:Int} (N:Zeg e=some r) (g:SlC (hcell h) (El.int .i64) v0 e):CallsQ True P 232 #[v0] h (fun v h'=>v=.int .i64 r/\S ψ h h' []):=by
 refine zvq ⟨[(3,[(8,.i .i64)])],[],[],[]⟩ Tryz.func232 ?_;rw [Zeg] at N;have C:S ψ h h []:=S.start k;refine Zy (g.mono C.le) ?_;obtain ⟨l,i⟩:=ZN N;refine ⟨fun n o f=>S ψ h f []/\loopN (ZcW e) n o=some r,⟨l,C.pick [] (by decide),i⟩,?_⟩;rintro n _ o f ⟨C,i⟩;obtain ⟨m,a,rfl,N,O⟩:=ZM i;rw [ZcW] at N;refine bifP N (fun j N=>?_) (fun j N=>?_)
 ·obtain ⟨w,s,N⟩:=obind N;refine ZV (g.mono C.le) s fun x u=>?_;refine ldI_C (g.mono C.le) u s ?_;refine bifP N (fun j N=>?_) (fun j N=>?_)
  ·obtain rfl:=Option.some.inj N;obtain rfl:=Option.some.inj O;exact ⟨rfl,C.pick [] (by decide)⟩
  ·obtain rfl:=Option.some.inj N;exact ⟨m,Nat.lt_succ_self _,C.pick [] (by decide),O⟩
 ·obtain rfl:=Option.some.inj N;obtain rfl:=Option.some.inj O;exact ⟨rfl,C.pick [] (by decide)⟩
theorem ZHP {ψ:CM} {h:Heap} (a4:CLe ψ (hcell h)) {a0:Zd} {w:Zd} {r:Int} (N:Zbj a0 w=some r)  :CallsQ True P 163 #[.agg #[.int .i64 a0.A,.int .i64 a0.B],.agg #[.int .i64 w.A,.int .i64 w.B]] h (fun v h'=>v=.int .i64 r/\S ψ h h' []):=by
 refine zvq ⟨[],[],[],[(1,⟨kdL [0,1,0,1,3,0,2,0,2,4,4,4,0],.fin [0,1,2,3,4,5,6,7,8,9,10,11,12],true⟩)]⟩ Tryz.func163 ?_;rw [Zbj] at N;have C:S ψ h h []:=S.start a4;refine new_S C fun b2 ab C=>?_;refine new_S C fun b3 a5 C=>?_;refine ⟨fun _=>False,?_⟩;have e:=C;have a:=eX a5;refine ldI_K (C.cells 1 rfl) 0 rfl rfl ?_;refine ldI_K (C.cells 0 rfl) 0 rfl rfl ?_;obtain ⟨r9,hx,N⟩:=obind N;obtain ⟨φ,L,s,i⟩:=id C;refine (ZlV s.fle hx).mono fun ac ad ⟨eq,t⟩=>⟨_,eq,eZ (a.trans t.ext),?_⟩
 replace a:=a.trans t.ext;replace C:=join0 s i t;clear t s i;refine ZT ?_;refine ldI_K (e.cells 1 rfl) 1 rfl rfl ?_;refine ZT ?_;refine ldI_K (e.cells 0 rfl) 1 rfl rfl ?_;obtain ⟨j,x,N⟩:=obind N;obtain ⟨a9,ae,f,k⟩:=id C;refine (ZlV f.fle x).mono fun af ag ⟨y,l⟩=>⟨_,y,?_⟩
 replace C:=join0 f k l;clear l f k;refine ZP (E:=(El.int .i64)) (css:=[[.int .i64 r9],[.int .i64 j]]) (xs:=([r9,j]:List Int)) C (fun _=>⟨[],[],rfl,⟨rfl,rfl⟩,⟨[],[],rfl,⟨rfl,rfl⟩,rfl⟩⟩) rfl rfl fun ah ai C=>?_;obtain ⟨aj,a2,N⟩:=obind N;obtain ⟨aa,ak,g,o⟩:=id C;refine (ZAZ g.fle a2 (C.rdL 0 rfl (Zi _))).mono fun al am ⟨a3,u⟩=>⟨_,a3,?_⟩
 replace C:=join0 g o u;clear u g o;obtain rfl:=Option.some.inj N;exact ⟨rfl,C.pick [] (by decide)⟩
end Go.Proofs.YtahnjnfpjcfklaaGreatDoor
