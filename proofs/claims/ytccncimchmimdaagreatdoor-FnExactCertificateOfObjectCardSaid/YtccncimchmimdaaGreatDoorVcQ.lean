import Derived.Test.YtccncimchmimdaaGreatDoorPuFns
import Derived.Test.YtccncimchmimdaaGreatDoorVcFns
import Derived.Test.YtccncimchmimdaaGreatDoorVcFld
namespace Go.Proofs.YtccncimchmimdaaGreatDoor
open Go Go.Vc
set_option linter.unusedVariables false
set_option linter.unusedSimpArgs false
set_option maxRecDepth 20000
noncomputable def ctxQ:Ctx:=⟨Tryz.prog,tab,rst,3,296,exs,[],[110],True⟩
theorem ctxOkQ:CtxOk ctxQ:=⟨ctxOk.tab,ctxOk.fns,ctxOk.mixed,ctxOk.ovs,ctxOk.eqs⟩
def ZrW (R:Value->Heap->Prop) (a:Int) (h:Heap):Prop:=
 R (.bool ((a:Int) !=a)) h
theorem Zwi {R:Value->Heap->Prop} {a:Int} {h:Heap} (b:ZrW R a h):CallsQ True P 181 #[.int .i64 a] h R:=
 Zf3 ctxOkQ ⟨[],[],[]⟩ Tryz.func181 [.int .i64 a] h R κ (Eq.mpr κ b)
theorem Zs4 {c:CM} {h:Heap} (a:CLe c (hcell h)) {b:Int} {r:Bool} (D:Zcq b=some r)  :CallsQ True P 181 #[.int .i64 b] h (fun v e=>v=.bool r/\S c h e []):=by
 apply Zwi
 unfold ZrW
 rw [Zcq] at D
 have C:S c h h []:=sZ a
 obtain rfl:=Option.some.inj D
 exact ⟨rfl,C.pick [] (by decide)⟩
def ZrM (R:Value->Heap->Prop) (c:Int) (e:Int) (h:Heap):Prop:=
 CallsQ True P 181 #[.int .i64 c] h fun r8 f=>∃ (g:Bool),r8=.bool g /\
 CallsQ True P 181 #[.int .i64 e] f fun i a=>∃ (b:Bool),i=.bool b /\
 bif g then
  bif b then
   R (.int .i64 0) a
  else
   R (.int .i64 (-1)) a
 else
  bif b then
   R (.int .i64 1) a
  else
   bif decide ((c:Int)<e) then
    R (.int .i64 (-1)) a
   else
    bif decide ((c:Int)>e) then
     R (.int .i64 1) a
    else
     R (.int .i64 0) a
theorem ZD6 {R:Value->Heap->Prop} {a:Int} {b:Int} {h:Heap} (c:ZrM R a b h):CallsQ True P 131 #[.int .i64 a,.int .i64 b] h R:=
 Zf3 ctxOkQ ⟨[],[],[]⟩ Tryz.func131 [.int .i64 a,.int .i64 b] h R κ (Eq.mpr κ c)
theorem ZqG {ψ:CM} {h:Heap} (j:CLe ψ (hcell h)) {k:Int} {l:Int} {r:Int} (D:Zbg k l=some r)  :CallsQ True P 131 #[.int .i64 k,.int .i64 l] h (fun v h'=>v=.int .i64 r/\S ψ h h' []):=by
 apply ZD6
 unfold ZrM
 rw [Zbg] at D
 have C:S ψ h h []:=sZ j
 obtain ⟨r8,o,D⟩:=obind D
 obtain ⟨φ,L,s,c⟩:=id C
 refine (Zs4 s.fle o).mono fun w x ⟨p,t⟩=>⟨_,p,?_⟩
 replace C:=join0 s c t
 clear t s c
 obtain ⟨y,g,D⟩:=obind D
 obtain ⟨u,a0,b,e⟩:=id C
 refine (Zs4 b.fle g).mono fun a1 a2 ⟨i,f⟩=>⟨_,i,?_⟩
 replace C:=join0 b e f
 clear f b e
 refine bifP D (fun a D=>?_) (fun a D=>?_)
 ·refine bifP D (fun a D=>?_) (fun a D=>?_)
  ·obtain rfl:=Option.some.inj D
   exact ⟨rfl,C.pick [] (by decide)⟩
  ·obtain rfl:=Option.some.inj D
   exact ⟨rfl,C.pick [] (by decide)⟩
 ·refine bifP D (fun a D=>?_) (fun a D=>?_)
  ·obtain rfl:=Option.some.inj D
   exact ⟨rfl,C.pick [] (by decide)⟩
  ·refine bifP D (fun a D=>?_) (fun a D=>?_)
   ·obtain rfl:=Option.some.inj D
    exact ⟨rfl,C.pick [] (by decide)⟩
   ·refine bifP D (fun a D=>?_) (fun a D=>?_)
    ·obtain rfl:=Option.some.inj D
     exact ⟨rfl,C.pick [] (by decide)⟩
    ·obtain rfl:=Option.some.inj D
     exact ⟨rfl,C.pick [] (by decide)⟩
def Zux (R:Value->Heap->Prop) (v0:Value) (v1:Value) (h:Heap):Prop:=
 vLen v0 fun f=>
 ∃ J:Nat->Int->Heap->Prop,(∃ g,J g 0 h)/\∀ (n:Nat) (_:Env) (b:Int) (a:Heap),J n b a ->
 bif decide ((b:Int)<(f:Int)) then
  vIdx v0 b 1 fun i=>
  ldI .i64 a i fun j=>
  vLen v1 fun k=>
  bif decide ((b:Int)>=(k:Int)) then
   R (.int .i64 1) a
  else
   vIdx v1 b 1 fun l=>
   ldI .i64 a l fun o=>
   CallsQ True P 131 #[.int .i64 j,.int .i64 o] a fun p e=>∃ (c:Int),p=.int .i64 c /\
   bif (c:Int) !=0 then
    R (.int .i64 c) e
   else
    ∃ m,m<n/\J m (IntKind.i64.wrap (b+1)) e
 else
  vLen v0 fun r=>
  vLen v1 fun s=>
  bif decide (((r:Int):Int)<(s:Int)) then
   R (.int .i64 (-1)) a
  else
   R (.int .i64 0) a
theorem ZwS {R:Value->Heap->Prop} {v0:Value} {v1:Value} {h:Heap} (a:Zux R v0 v1 h):CallsQ True P 81 #[v0,v1] h R:=
 Zf3 ctxOkQ ⟨[(2,[(11,.i .i64)])],[],[]⟩ Tryz.func81 [v0,v1] h R κ (Eq.mpr κ a)
theorem ZsV {ψ:CM} {h:Heap} (w:CLe ψ (hcell h)) {k:List Int} {v0:Value} {l:List Int} {v1:Value} {r:Int} (D:Zak k l=some r) (e:SlC (hcell h) (El.int .i64) v0 k) (f:SlC (hcell h) (El.int .i64) v1 l):CallsQ True P 81 #[v0,v1] h (fun v h'=>v=.int .i64 r/\S ψ h h' []):=by
 apply ZwS
 unfold Zux
 rw [Zak] at D
 have C:S ψ h h []:=sZ w
 refine Zp (e.mono C.le) ?_
 obtain ⟨x,o⟩:=Zl D
 refine ⟨fun n g i=>S ψ h i []/\loopN (Zbc k l) n g=some r,⟨x,C.pick [] (by decide),o⟩,?_⟩
 rintro n _ g i ⟨C,o⟩
 obtain ⟨m,a,rfl,D,I⟩:=Zk o
 rw [Zbc] at D
 refine bifP D (fun b D=>?_) (fun b D=>?_)
 ·obtain ⟨a2,y,D⟩:=obind D
  refine Z6 (e.mono C.le) y fun a3 ad=>?_
  refine ldI_C (e.mono C.le) ad y ?_
  refine Zp (f.mono C.le) ?_
  refine bifP D (fun b D=>?_) (fun b D=>?_)
  ·obtain rfl:=Option.some.inj D
   obtain rfl:=Option.some.inj I
   exact ⟨rfl,C.pick [] (by decide)⟩
  ·obtain ⟨a4,c,D⟩:=obind D
   refine Z6 (f.mono C.le) c fun a5 p=>?_
   refine ldI_C (f.mono C.le) p c ?_
   obtain ⟨a6,u,D⟩:=obind D
   obtain ⟨φ,L,s,j⟩:=id C
   refine (ZqG s.fle u).mono fun a7 a8 ⟨eq,t⟩=>⟨_,eq,?_⟩
   replace C:=join0 s j t
   clear t s j
   refine bifP D (fun b D=>?_) (fun b D=>?_)
   ·obtain rfl:=Option.some.inj D
    obtain rfl:=Option.some.inj I
    exact ⟨rfl,C.pick [] (by decide)⟩
   ·obtain rfl:=Option.some.inj D
    exact ⟨m,Nat.lt_succ_self _,C.pick [] (by decide),I⟩
 ·refine Zp (e.mono C.le) ?_
  refine Zp (f.mono C.le) ?_
  refine bifP D (fun b D=>?_) (fun b D=>?_)
  ·obtain rfl:=Option.some.inj D
   obtain rfl:=Option.some.inj I
   exact ⟨rfl,C.pick [] (by decide)⟩
  ·obtain rfl:=Option.some.inj D
   obtain rfl:=Option.some.inj I
   exact ⟨rfl,C.pick [] (by decide)⟩
def ZtB (R:Value->Heap->Prop) (v0:Value) (h:Heap):Prop:=
 vLen v0 fun g=>
 ∃ J:Nat->Int->Heap->Prop,(∃ e,J e 0 h)/\∀ (n:Nat) (_:Env) (b:Int) (a:Heap),J n b a ->
 bif decide ((b:Int)<(g:Int)) then
  vIdx v0 b 1 fun f=>
  ldI .i64 a f fun c=>
  bif (c:Int) !=0 then
   R (.int .i64 c) a
  else
   ∃ m,m<n/\J m (IntKind.i64.wrap (b+1)) a
 else
  R (.int .i64 0) a
theorem ZFh {R:Value->Heap->Prop} {v0:Value} {h:Heap} (a:ZtB R v0 h):CallsQ True P 188 #[v0] h R:=
 Zf3 ctxOkQ ⟨[(3,[(8,.i .i64)])],[],[]⟩ Tryz.func188 [v0] h R κ (Eq.mpr κ a)
theorem ZBT {u:CM} {h:Heap} (i:CLe u (hcell h)) {b:List Int} {v0:Value} {r:Int} (D:Zd7 b=some r) (e:SlC (hcell h) (El.int .i64) v0 b):CallsQ True P 188 #[v0] h (fun v w=>v=.int .i64 r/\S u h w []):=by
 apply ZFh
 unfold ZtB
 rw [Zd7] at D
 have C:S u h h []:=sZ i
 refine Zp (e.mono C.le) ?_
 obtain ⟨j,f⟩:=Zl D
 refine ⟨fun n k c=>S u h c []/\loopN (Zcu b) n k=some r,⟨j,C.pick [] (by decide),f⟩,?_⟩
 rintro n _ k c ⟨C,f⟩
 obtain ⟨m,a,rfl,D,I⟩:=Zk f
 rw [Zcu] at D
 refine bifP D (fun g D=>?_) (fun g D=>?_)
 ·obtain ⟨p,l,D⟩:=obind D
  refine Z6 (e.mono C.le) l fun s o=>?_
  refine ldI_C (e.mono C.le) o l ?_
  refine bifP D (fun g D=>?_) (fun g D=>?_)
  ·obtain rfl:=Option.some.inj D
   obtain rfl:=Option.some.inj I
   exact ⟨rfl,C.pick [] (by decide)⟩
  ·obtain rfl:=Option.some.inj D
   exact ⟨m,Nat.lt_succ_self _,C.pick [] (by decide),I⟩
 ·obtain rfl:=Option.some.inj D
  obtain rfl:=Option.some.inj I
  exact ⟨rfl,C.pick [] (by decide)⟩
def ZrV (R:Value->Heap->Prop) (f:Int) (g:Int) (i:Int) (j:Int) (h:Heap):Prop:=
 vNew h (.cells #[.int .i64 f,.int .i64 g] 110) fun p2 k=>
 vNew k (.cells #[.int .i64 i,.int .i64 j] 110) fun l a=>
 ∃ B:Nat->Prop,
 ldI .i64 a p2 fun y=>
 ldI .i64 a l fun x8=>
 CallsQ True P 131 #[.int .i64 y,.int .i64 x8] a fun r9 b=>∃ (o:Int),r9=.int .i64 o /\
 ExtBut B a b /\
 ldI .i64 (hmask B a) (p2.add 1) fun p=>
 ldI .i64 (hmask B a) (l.add 1) fun r=>
 CallsQ True P 131 #[.int .i64 p,.int .i64 r] b fun s t=>∃ (c:Int),s=.int .i64 c /\
 vNewS t (.cells #[.int .i64 o,.int .i64 c] t_int) 2 fun u v=>
 CallsQ True P 188 #[u] v fun w x=>∃ (e:Int),w=.int .i64 e /\
 R (.int .i64 e) x
theorem ZDQ {R:Value->Heap->Prop} {a:Int} {b:Int} {c:Int} {e:Int} {h:Heap} (f:ZrV R a b c e h):CallsQ True P 146 #[.agg #[.int .i64 a,.int .i64 b],.agg #[.int .i64 c,.int .i64 e]] h R:=
 Zf3 ctxOkQ ⟨[],[],[]⟩ Tryz.func146 [.agg #[.int .i64 a,.int .i64 b],.agg #[.int .i64 c,.int .i64 e]] h R κ (Eq.mpr κ f)
theorem Zzo {ψ:CM} {h:Heap} (a1:CLe ψ (hcell h)) {o:Zd} {p:Zd} {r:Int} (D:Za7 o p=some r)  :CallsQ True P 146 #[.agg #[.int .i64 o.A,.int .i64 o.B],.agg #[.int .i64 p.A,.int .i64 p.B]] h (fun v h'=>v=.int .i64 r/\S ψ h h' []):=by
 apply ZDQ
 unfold ZrV
 rw [Za7] at D
 have C:S ψ h h []:=sZ a1
 refine new_S C fun b2 a8 C=>?_
 refine new_S C fun b3 a2 C=>?_
 refine ⟨fun _=>False,?_⟩
 have b:=C
 have a:=eX a2
 refine ldI_K (C.cells 1 rfl) 0 rfl rfl ?_
 refine ldI_K (C.cells 0 rfl) 0 rfl rfl ?_
 obtain ⟨r9,hx,D⟩:=obind D
 obtain ⟨φ,L,s,f⟩:=id C
 refine (ZqG s.fle hx).mono fun a9 aa ⟨eq,t⟩=>⟨_,eq,eZ (a.trans t.ext),?_⟩
 replace a:=a.trans t.ext
 replace C:=join0 s f t
 clear t s f
 refine ZL ?_
 refine ldI_K (b.cells 1 rfl) 1 rfl rfl ?_
 refine ZL ?_
 refine ldI_K (b.cells 0 rfl) 1 rfl rfl ?_
 obtain ⟨g,u,D⟩:=obind D
 obtain ⟨a6,ab,c,i⟩:=id C
 refine (ZqG c.fle u).mono fun ac ad ⟨w,j⟩=>⟨_,w,?_⟩
 replace C:=join0 c i j
 clear j c i
 refine ZR (E:=(El.int .i64)) (css:=[[.int .i64 r9],[.int .i64 g]]) (xs:=([r9,g]:List Int)) C (fun _=>⟨[],[],rfl,⟨rfl,rfl⟩,⟨[],[],rfl,⟨rfl,rfl⟩,rfl⟩⟩) rfl rfl fun ae af C=>?_
 obtain ⟨ag,x,D⟩:=obind D
 obtain ⟨a7,ah,e,k⟩:=id C
 refine (ZBT e.fle x (C.rdL 0 rfl (Za _))).mono fun ai aj ⟨y,l⟩=>⟨_,y,?_⟩
 replace C:=join0 e k l
 clear l e k
 obtain rfl:=Option.some.inj D
 exact ⟨rfl,C.pick [] (by decide)⟩
end Go.Proofs.YtccncimchmimdaaGreatDoor
