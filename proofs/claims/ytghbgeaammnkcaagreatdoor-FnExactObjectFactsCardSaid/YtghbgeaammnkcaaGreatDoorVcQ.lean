import Derived.Test.YtghbgeaammnkcaaGreatDoorPuFns
import Derived.Test.YtghbgeaammnkcaaGreatDoorVcFns
import Derived.Test.YtghbgeaammnkcaaGreatDoorVcFld
namespace Go.Proofs.YtghbgeaammnkcaaGreatDoor
open Go Go.Vc
set_option linter.unusedVariables false
set_option linter.unusedSimpArgs false
set_option maxRecDepth 20000
noncomputable def ctxQ:Ctx:=⟨Tryz.prog,tab,rst,3,370,exs,[],True⟩
theorem ctxOkQ:CtxOk ctxQ:=⟨ctxOk.tab,ctxOk.fns,ctxOk.mixed,ctxOk.ovs⟩
def ZsC (R:Value→Heap→Prop) (a:Int) (h:Heap):Prop:=
 R (.bool ((a:Int) !=a)) h
theorem ZAd {R:Value→Heap→Prop} {a:Int} {h:Heap} (b:ZsC R a h):CallsQ True P ZcY #[.int .i64 a] h R:=
 Zj9 ctxOkQ ⟨[],[],[]⟩ Tryz.func240 [.int .i64 a] h R (by kernel_rfl) (Eq.mpr (by kernel_rfl) b)
theorem ZtT {ψ:CM} {h:Heap} (a:CLe ψ (hcell h)) {b:Int} {r:Bool} (D:Zb5 b=some r)  :CallsQ True P ZcY #[.int .i64 b] h (fun v h'=>v=.bool r∧S ψ h h' []):=by
 apply ZAd
 unfold ZsC
 rw [Zb5] at D
 have C:S ψ h h []:=sZ a
 obtain rfl:=Option.some.inj D
 exact ⟨rfl,C.pick [] (by decide)⟩
def ZtH (R:Value→Heap→Prop) (c:Int) (e:Int) (h:Heap):Prop:=
 CallsQ True P ZcY #[.int .i64 c] h fun r8 f=>∃ (g:Bool),r8=.bool g ∧
 CallsQ True P ZcY #[.int .i64 e] f fun i a=>∃ (b:Bool),i=.bool b ∧
 bif g then
  bif b then
   R (.int .i64 0) a
  else
   R (.int .i64 (-1)) a
 else
  bif b then
   R (.int .i64 1) a
  else
   bif decide ((c:Int)<e) then
    R (.int .i64 (-1)) a
   else
    bif decide ((c:Int)>e) then
     R (.int .i64 1) a
    else
     R (.int .i64 0) a
theorem ZzU {R:Value→Heap→Prop} {a:Int} {b:Int} {h:Heap} (c:ZtH R a b h):CallsQ True P ZcS #[.int .i64 a,.int .i64 b] h R:=
 Zj9 ctxOkQ ⟨[],[],[]⟩ Tryz.func180 [.int .i64 a,.int .i64 b] h R (by kernel_rfl) (Eq.mpr (by kernel_rfl) c)
theorem ZBc {ψ:CM} {h:Heap} (j:CLe ψ (hcell h)) {k:Int} {l:Int} {r:Int} (D:Zbs k l=some r)  :CallsQ True P ZcS #[.int .i64 k,.int .i64 l] h (fun v h'=>v=.int .i64 r∧S ψ h h' []):=by
 apply ZzU
 unfold ZtH
 rw [Zbs] at D
 have C:S ψ h h []:=sZ j
 obtain ⟨r8,m,D⟩:=obind D
 obtain ⟨φ,L,s,c⟩:=id C
 refine (ZtT s.fle m).mono fun u w ⟨o,t⟩=>⟨_,o,?_⟩
 replace C:=join0 s c t
 clear t s c
 obtain ⟨x,g,D⟩:=obind D
 obtain ⟨p,y,b,e⟩:=id C
 refine (ZtT b.fle g).mono fun a0 a1 ⟨i,f⟩=>⟨_,i,?_⟩
 replace C:=join0 b e f
 clear f b e
 refine bifP D (fun a D=>?_) (fun a D=>?_)
 ·refine bifP D (fun a D=>?_) (fun a D=>?_)
  ·obtain rfl:=Option.some.inj D
   exact ⟨rfl,C.pick [] (by decide)⟩
  ·obtain rfl:=Option.some.inj D
   exact ⟨rfl,C.pick [] (by decide)⟩
 ·refine bifP D (fun a D=>?_) (fun a D=>?_)
  ·obtain rfl:=Option.some.inj D
   exact ⟨rfl,C.pick [] (by decide)⟩
  ·refine bifP D (fun a D=>?_) (fun a D=>?_)
   ·obtain rfl:=Option.some.inj D
    exact ⟨rfl,C.pick [] (by decide)⟩
   ·refine bifP D (fun a D=>?_) (fun a D=>?_)
    ·obtain rfl:=Option.some.inj D
     exact ⟨rfl,C.pick [] (by decide)⟩
    ·obtain rfl:=Option.some.inj D
     exact ⟨rfl,C.pick [] (by decide)⟩
def ZtQ (R:Value→Heap→Prop) (f:Value) (g:Value) (h:Heap):Prop:=
 vLen f fun i=>
 ∃ J:Nat→Int→Heap→Prop,(∃ j,J j 0 h)∧∀ (n:Nat) (_:Env) (b:Int) (a:Heap),J n b a →
 bif decide ((b:Int)<(i:Int)) then
  vIdx f b 1 fun k=>
  ldI .i64 a k fun l=>
  vLen g fun o=>
  bif decide ((b:Int)≥(o:Int)) then
   R (.int .i64 1) a
  else
   vIdx g b 1 fun p=>
   ldI .i64 a p fun r=>
   CallsQ True P ZcS #[.int .i64 l,.int .i64 r] a fun s e=>∃ (c:Int),s=.int .i64 c ∧
   bif (c:Int) !=0 then
    R (.int .i64 c) e
   else
    ∃ m,m<n∧J m (IntKind.i64.wrap (b+1)) e
 else
  vLen f fun t=>
  vLen g fun u=>
  bif decide (((t:Int):Int)<(u:Int)) then
   R (.int .i64 (-1)) a
  else
   R (.int .i64 0) a
theorem Zwx {R:Value→Heap→Prop} {a:Value} {b:Value} {h:Heap} (c:ZtQ R a b h):CallsQ True P ZcQ #[a,b] h R:=
 Zj9 ctxOkQ ⟨[(2,[(11,.i .i64)])],[],[]⟩ Tryz.func117 [a,b] h R (by kernel_rfl) (Eq.mpr (by kernel_rfl) c)
theorem ZyP {ψ:CM} {h:Heap} (u:CLe ψ (hcell h)) {k:List Int} {w:Value} {s1:List Int} {x:Value} {r:Int} (D:ZaD k s1=some r) (e:SlC (hcell h) (El.int .i64) w k) (f:SlC (hcell h) (El.int .i64) x s1):CallsQ True P ZcQ #[w,x] h (fun v h'=>v=.int .i64 r∧S ψ h h' []):=by
 apply Zwx
 unfold ZtQ
 rw [ZaD] at D
 have C:S ψ h h []:=sZ u
 refine Zu (e.mono C.le) ?_
 obtain ⟨y,l⟩:=Zi D
 refine ⟨fun n g i=>S ψ h i []∧loopN (Zbn k s1) n g=some r,⟨y,C.pick [] (by decide),l⟩,?_⟩
 rintro n _ g i ⟨C,l⟩
 obtain ⟨m,a,rfl,D,I⟩:=Zh l
 rw [Zbn] at D
 refine bifP D (fun b D=>?_) (fun b D=>?_)
 ·obtain ⟨a3,hx,D⟩:=obind D
  refine Zaq (e.mono C.le) hx fun a4 ad=>?_
  refine ldI_C (e.mono C.le) ad hx ?_
  refine Zu (f.mono C.le) ?_
  refine bifP D (fun b D=>?_) (fun b D=>?_)
  ·obtain rfl:=Option.some.inj D
   obtain rfl:=Option.some.inj I
   exact ⟨rfl,C.pick [] (by decide)⟩
  ·obtain ⟨a5,c,D⟩:=obind D
   refine Zaq (f.mono C.le) c fun a6 o=>?_
   refine ldI_C (f.mono C.le) o c ?_
   obtain ⟨a7,p,D⟩:=obind D
   obtain ⟨φ,L,s,j⟩:=id C
   refine (ZBc s.fle p).mono fun a8 a9 ⟨eq,t⟩=>⟨_,eq,?_⟩
   replace C:=join0 s j t
   clear t s j
   refine bifP D (fun b D=>?_) (fun b D=>?_)
   ·obtain rfl:=Option.some.inj D
    obtain rfl:=Option.some.inj I
    exact ⟨rfl,C.pick [] (by decide)⟩
   ·obtain rfl:=Option.some.inj D
    exact ⟨m,Nat.lt_succ_self _,C.pick [] (by decide),I⟩
 ·refine Zu (e.mono C.le) ?_
  refine Zu (f.mono C.le) ?_
  refine bifP D (fun b D=>?_) (fun b D=>?_)
  ·obtain rfl:=Option.some.inj D
   obtain rfl:=Option.some.inj I
   exact ⟨rfl,C.pick [] (by decide)⟩
  ·obtain rfl:=Option.some.inj D
   obtain rfl:=Option.some.inj I
   exact ⟨rfl,C.pick [] (by decide)⟩
end Go.Proofs.YtghbgeaammnkcaaGreatDoor
