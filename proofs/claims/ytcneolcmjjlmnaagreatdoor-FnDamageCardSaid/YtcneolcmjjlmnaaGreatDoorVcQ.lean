import Derived.Test.YtcneolcmjjlmnaaGreatDoorPuFns
import Derived.Test.YtcneolcmjjlmnaaGreatDoorVcFns
import Derived.Test.YtcneolcmjjlmnaaGreatDoorVcB
namespace Go.Proofs.YtcneolcmjjlmnaaGreatDoor
open Go Go.Vc
set_option linter.unusedVariables false
set_option linter.unusedSimpArgs false
set_option maxRecDepth 20000
noncomputable def ctxQ:Ctx:=⟨Tryz.prog,tab,rst,3,435,exs,[],[161],True⟩
theorem ctxOkQ:CtxOk ctxQ:=⟨ctxOk.tab,ctxOk.fns,ctxOk.mixed,ctxOk.ovs,ctxOk.eqs⟩
theorem zvq {f:FuncId} {fn:Func} {g:Jc} {h:Heap} {R:Value->Heap->Prop} (A:Ann) (j:P.funcs[f]?=some fn) (a:vcFn ctxQ A fn g h R)
  (e:((match fn.body with|some c=>aOk ctxQ A c&&cOk fn.ntmps c|none=>false)&&Nat.ble g.length fn.ntmps)=true:=by kernel_rfl):CallsQ True P f g.toArray h R:=
 Zg3 ctxOkQ A j g h R e a
attribute [local irreducible] CallsQ vLen vIdx IntKind.wrap hcell vNew vNewS vSliceS vStore1 vAppend vMake vCopy vB2S vS2B vNilS vSliceStr
theorem ZwX {e:CM} {h:Heap} (a:CLe e (hcell h)) {x0:Int} {r:Bool} (N:Zdj x0=some r)  :CallsQ True P 320 #[.int .i64 x0] h (λv g=>v=.bool r/\S e h g []):=by
 refine zvq ⟨[],[],[],[]⟩ Tryz.func320 ?_;rw [Zdj] at N;have C:S e h h []:=S.start a;obtain rfl:=Option.some.inj N;exact ⟨rfl,C.pick [] (by decide)⟩
theorem Zqz {ψ:CM} {h:Heap} (l:CLe ψ (hcell h)) {x0:Int} {o:Int} {r:Int} (N:ZbG x0 o=some r)  :CallsQ True P 283 #[.int .i64 x0,.int .i64 o] h (λv h'=>v=.int .i64 r/\S ψ h h' []):=by
 refine zvq ⟨[],[],[],[]⟩ Tryz.func283 ?_;rw [ZbG] at N;have C:S ψ h h []:=S.start l;obtain ⟨r8,u,N⟩:=obind N;obtain ⟨φ,L,s,f⟩:=id C;refine (ZwX s.fle u).mono λx y ⟨eq,t⟩=>⟨_,eq,?_⟩
 replace C:=join0 s f t;clear t s f;obtain ⟨a2,j,N⟩:=obind N;obtain ⟨w,a3,e,g⟩:=id C;refine (ZwX e.fle j).mono λa4 a5 ⟨k,i⟩=>⟨_,k,?_⟩
 replace C:=join0 e g i;clear i e g;refine bifP N (λa N=>?_) (λa N=>?_)
 .refine bifP N (λa N=>?_) (λa N=>?_)
  .obtain rfl:=Option.some.inj N;exact ⟨rfl,C.pick [] (by decide)⟩
  .obtain rfl:=Option.some.inj N;exact ⟨rfl,C.pick [] (by decide)⟩
 .refine bifP N (λa N=>?_) (λa N=>?_)
  .obtain rfl:=Option.some.inj N;exact ⟨rfl,C.pick [] (by decide)⟩
  .refine bifP N (λa N=>?_) (λa N=>?_)
   .obtain rfl:=Option.some.inj N;exact ⟨rfl,C.pick [] (by decide)⟩
   .refine bifP N (λa N=>?_) (λa N=>?_)
    .obtain rfl:=Option.some.inj N;exact ⟨rfl,C.pick [] (by decide)⟩
    .obtain rfl:=Option.some.inj N;exact ⟨rfl,C.pick [] (by decide)⟩
theorem ZzE {ψ:CM} {h:Heap} (y:CLe ψ (hcell h)) {o:Jb} {v0:Value} {s1:Jb} {v1:Value} {r:Int} (N:Zam o s1=some r) (g:SlC (hcell h) (El.int .i64) v0 o) (i:SlC (hcell h) (El.int .i64) v1 s1):CallsQ True P 221 #[v0,v1] h (λv h'=>v=.int .i64 r/\S ψ h h' []):=by
 refine zvq ⟨[(2,[(11,.i .i64)])],[],[],[]⟩ Tryz.func221 ?_;rw [Zam] at N;have C:S ψ h h []:=S.start y;refine ZF (g.mono C.le) ?_;obtain ⟨a2,u⟩:=ZP N;refine ⟨λn j k=>S ψ h k []/\loopN (ZbM o s1) n j=some r,⟨a2,C.pick [] (by decide),u⟩,?_⟩;rintro n _ j k ⟨C,u⟩;obtain ⟨m,a,rfl,N,O⟩:=ZN u;rw [ZbM] at N;refine bifP N (λe N=>?_) (λe N=>?_)
 .obtain ⟨a5,hx,N⟩:=obind N;refine ZS (g.mono C.le) hx λa6 ad=>?_;refine ldI_C (g.mono C.le) ad hx ?_;refine ZF (i.mono C.le) ?_;refine bifP N (λe N=>?_) (λe N=>?_)
  .obtain rfl:=Option.some.inj N;obtain rfl:=Option.some.inj O;exact ⟨rfl,C.pick [] (by decide)⟩
  .obtain ⟨a7,f,N⟩:=obind N;refine ZS (i.mono C.le) f λa8 w=>?_;refine ldI_C (i.mono C.le) w f ?_;obtain ⟨a9,x,N⟩:=obind N;obtain ⟨φ,L,s,l⟩:=id C;refine (Zqz s.fle x).mono λaa ab ⟨eq,t⟩=>⟨_,eq,?_⟩
   replace C:=join0 s l t;clear t s l;refine bifP N (λe N=>?_) (λe N=>?_)
   .obtain rfl:=Option.some.inj N;obtain rfl:=Option.some.inj O;exact ⟨rfl,C.pick [] (by decide)⟩
   .obtain rfl:=Option.some.inj N;exact ⟨m,Nat.lt_succ_self _,C.pick [] (by decide),O⟩
 .refine ZF (g.mono C.le) ?_;refine ZF (i.mono C.le) ?_;refine bifP N (λe N=>?_) (λe N=>?_)
  .obtain rfl:=Option.some.inj N;obtain rfl:=Option.some.inj O;exact ⟨rfl,C.pick [] (by decide)⟩
  .obtain rfl:=Option.some.inj N;obtain rfl:=Option.some.inj O;exact ⟨rfl,C.pick [] (by decide)⟩
theorem ZFE {ψ:CM} {h:Heap} (k:CLe ψ (hcell h)) {e:Jb} {v0:Value} {r:Int} (N:ZfF e=some r) (g:SlC (hcell h) (El.int .i64) v0 e):CallsQ True P 327 #[v0] h (λv h'=>v=.int .i64 r/\S ψ h h' []):=by
 refine zvq ⟨[(3,[(8,.i .i64)])],[],[],[]⟩ Tryz.func327 ?_;rw [ZfF] at N;have C:S ψ h h []:=S.start k;refine ZF (g.mono C.le) ?_;obtain ⟨l,i⟩:=ZP N;refine ⟨λn o f=>S ψ h f []/\loopN (Zc3 e) n o=some r,⟨l,C.pick [] (by decide),i⟩,?_⟩;rintro n _ o f ⟨C,i⟩;obtain ⟨m,a,rfl,N,O⟩:=ZN i;rw [Zc3] at N;refine bifP N (λj N=>?_) (λj N=>?_)
 .obtain ⟨w,s,N⟩:=obind N;refine ZS (g.mono C.le) s λx u=>?_;refine ldI_C (g.mono C.le) u s ?_;refine bifP N (λj N=>?_) (λj N=>?_)
  .obtain rfl:=Option.some.inj N;obtain rfl:=Option.some.inj O;exact ⟨rfl,C.pick [] (by decide)⟩
  .obtain rfl:=Option.some.inj N;exact ⟨m,Nat.lt_succ_self _,C.pick [] (by decide),O⟩
 .obtain rfl:=Option.some.inj N;obtain rfl:=Option.some.inj O;exact ⟨rfl,C.pick [] (by decide)⟩
theorem ZKv {ψ:CM} {h:Heap} (a4:CLe ψ (hcell h)) {a0:Zc} {w:Zc} {r:Int} (N:Zbp a0 w=some r)  :CallsQ True P 297 #[.agg #[.int .i64 a0.A,.int .i64 a0.B],.agg #[.int .i64 w.A,.int .i64 w.B]] h (λv h'=>v=.int .i64 r/\S ψ h h' []):=by
 refine zvq ⟨[],[],[],[(1,⟨kdL [0,1,0,1,3,0,2,0,2,4,4,4,0],.fin [0,1,2,3,4,5,6,7,8,9,10,11,12],true⟩)]⟩ Tryz.func297 ?_;rw [Zbp] at N;have C:S ψ h h []:=S.start a4;refine new_S C λb2 aa C=>?_;refine new_S C λb3 a5 C=>?_;refine ⟨λ_=>False,?_⟩;have e:=C;have a:=eX a5;refine ldI_K (C.cells 1 rfl) 0 rfl rfl ?_;refine ldI_K (C.cells 0 rfl) 0 rfl rfl ?_;obtain ⟨r9,hx,N⟩:=obind N;obtain ⟨φ,L,s,i⟩:=id C;refine (Zqz s.fle hx).mono λab ac ⟨eq,t⟩=>⟨_,eq,eZ (a.trans t.ext),?_⟩
 replace a:=a.trans t.ext;replace C:=join0 s i t;clear t s i;refine Z9 ?_;refine ldI_K (e.cells 1 rfl) 1 rfl rfl ?_;refine Z9 ?_;refine ldI_K (e.cells 0 rfl) 1 rfl rfl ?_;obtain ⟨j,x,N⟩:=obind N;obtain ⟨a8,ad,f,k⟩:=id C;refine (Zqz f.fle x).mono λae af ⟨y,l⟩=>⟨_,y,?_⟩
 replace C:=join0 f k l;clear l f k;refine ZW (E:=(El.int .i64)) (css:=[[.int .i64 r9],[.int .i64 j]]) (xs:=([r9,j]:Jb)) C (λ_=>⟨[],[],rfl,⟨rfl,rfl⟩,⟨[],[],rfl,⟨rfl,rfl⟩,rfl⟩⟩) rfl rfl λag ah C=>?_;obtain ⟨ai,a2,N⟩:=obind N;obtain ⟨a9,aj,g,o⟩:=id C;refine (ZFE g.fle a2 (C.rdL 0 rfl (Zk _))).mono λak al ⟨a3,u⟩=>⟨_,a3,?_⟩
 replace C:=join0 g o u;clear u g o;obtain rfl:=Option.some.inj N;exact ⟨rfl,C.pick [] (by decide)⟩
end Go.Proofs.YtcneolcmjjlmnaaGreatDoor
