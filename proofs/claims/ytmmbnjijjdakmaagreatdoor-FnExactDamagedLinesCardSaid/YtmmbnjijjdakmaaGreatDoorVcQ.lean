import Derived.Test.YtmmbnjijjdakmaaGreatDoorPuFns
import Derived.Test.YtmmbnjijjdakmaaGreatDoorVcFns
import Derived.Test.YtmmbnjijjdakmaaGreatDoorVcFld
namespace Go.Proofs.YtmmbnjijjdakmaaGreatDoor
open Go Go.Vc
set_option linter.unusedVariables false
set_option linter.unusedSimpArgs false
set_option maxRecDepth 20000
noncomputable def ctxQ:Ctx:=⟨Tryz.prog,tab,rst,3,453,exs,[],True⟩
theorem ctxOkQ:CtxOk ctxQ:=⟨ctxOk.tab,ctxOk.fns,ctxOk.mixed,ctxOk.ovs⟩
def Zpc (R:Value→Heap→Prop) (x0:Int) (h:Heap):Prop:=
 R (.bool ((x0:Int) !=x0)) h
theorem ZyG {R:Value→Heap→Prop} {x0:Int} {h:Heap} (hv:Zpc R x0 h):CallsQ True P Zcs #[.int .i64 x0] h R:=
 Zju ctxOkQ ⟨[],[],[]⟩ Tryz.func315 [.int .i64 x0] h R (by kernel_rfl) (Eq.mpr (by kernel_rfl) hv)
theorem Zrm {ψ:CM} {h:Heap} (hψ:CLe ψ (hcell h)) {x0:Int} {r:Bool} (hp:Zb3 x0=some r)  :CallsQ True P Zcs #[.int .i64 x0] h (fun v h'=>v=.bool r∧S ψ h h' []):=by
 apply ZyG
 unfold Zpc
 rw [Zb3] at hp
 have st:S ψ h h []:=S.start hψ
 obtain rfl:=Option.some.inj hp
 exact ⟨rfl,st.pick [] (by decide)⟩
def ZoW (R:Value→Heap→Prop) (x0:Int) (x1:Int) (h:Heap):Prop:=
 CallsQ True P Zcs #[.int .i64 x0] h fun r8 h_2=>∃ (b8:Bool),r8=.bool b8 ∧
 CallsQ True P Zcs #[.int .i64 x1] h_2 fun r10 h_3=>∃ (b10:Bool),r10=.bool b10 ∧
 bif b8 then
  bif b10 then
   R (.int .i64 0) h_3
  else
   R (.int .i64 (-1)) h_3
 else
  bif b10 then
   R (.int .i64 1) h_3
  else
   bif decide ((x0:Int)<x1) then
    R (.int .i64 (-1)) h_3
   else
    bif decide ((x0:Int)>x1) then
     R (.int .i64 1) h_3
    else
     R (.int .i64 0) h_3
theorem ZtT {R:Value→Heap→Prop} {x0:Int} {x1:Int} {h:Heap} (hv:ZoW R x0 x1 h):CallsQ True P ZcQ #[.int .i64 x0,.int .i64 x1] h R:=
 Zju ctxOkQ ⟨[],[],[]⟩ Tryz.func239 [.int .i64 x0,.int .i64 x1] h R (by kernel_rfl) (Eq.mpr (by kernel_rfl) hv)
theorem Zt6 {ψ:CM} {h:Heap} (hψ:CLe ψ (hcell h)) {x0:Int} {y1:Int} {r:Int} (hp:Za5 x0 y1=some r)  :CallsQ True P ZcQ #[.int .i64 x0,.int .i64 y1] h (fun v h'=>v=.int .i64 r∧S ψ h h' []):=by
 apply ZtT
 unfold ZoW
 rw [Za5] at hp
 have st:S ψ h h []:=S.start hψ
 obtain ⟨r8,hx,hp⟩:=obind hp
 obtain ⟨φ,L,s,r_2⟩:=id st
 refine (Zrm s.fle hx).mono fun v_2 h_2 ⟨eq,t⟩=>⟨_,eq,?_⟩
 replace st:=join0 s r_2 t
 clear t s r_2
 obtain ⟨r10,hx_2,hp⟩:=obind hp
 obtain ⟨φ_2,L_2,s_2,r_3⟩:=id st
 refine (Zrm s_2.fle hx_2).mono fun v_3 h_3 ⟨eq_2,t_2⟩=>⟨_,eq_2,?_⟩
 replace st:=join0 s_2 r_3 t_2
 clear t_2 s_2 r_3
 refine bifP hp (fun hc hp=>?_) (fun hc hp=>?_)
 ·refine bifP hp (fun hc hp=>?_) (fun hc hp=>?_)
  ·obtain rfl:=Option.some.inj hp
   exact ⟨rfl,st.pick [] (by decide)⟩
  ·obtain rfl:=Option.some.inj hp
   exact ⟨rfl,st.pick [] (by decide)⟩
 ·refine bifP hp (fun hc hp=>?_) (fun hc hp=>?_)
  ·obtain rfl:=Option.some.inj hp
   exact ⟨rfl,st.pick [] (by decide)⟩
  ·refine bifP hp (fun hc hp=>?_) (fun hc hp=>?_)
   ·obtain rfl:=Option.some.inj hp
    exact ⟨rfl,st.pick [] (by decide)⟩
   ·refine bifP hp (fun hc hp=>?_) (fun hc hp=>?_)
    ·obtain rfl:=Option.some.inj hp
     exact ⟨rfl,st.pick [] (by decide)⟩
    ·obtain rfl:=Option.some.inj hp
     exact ⟨rfl,st.pick [] (by decide)⟩
def ZoF (R:Value→Heap→Prop) (v0:Value) (v1:Value) (h:Heap):Prop:=
 vLen v0 fun n10=>
 ∃ J:Nat→Int→Heap→Prop,(∃ n_2,J n_2 0 h)∧∀ (n:Nat) (_:Env) (x11:Int) (h_2:Heap),J n x11 h_2 →
 bif decide ((x11:Int)<(n10:Int)) then
  vIdx v0 x11 1 fun p14=>
  ldI .i64 h_2 p14 fun x15=>
  vLen v1 fun n18=>
  bif decide ((x11:Int)≥(n18:Int)) then
   R (.int .i64 1) h_2
  else
   vIdx v1 x11 1 fun p22=>
   ldI .i64 h_2 p22 fun x23=>
   CallsQ True P ZcQ #[.int .i64 x15,.int .i64 x23] h_2 fun r26 h_3=>∃ (x26:Int),r26=.int .i64 x26 ∧
   bif (x26:Int) !=0 then
    R (.int .i64 x26) h_3
   else
    ∃ m,m<n∧J m (IntKind.i64.wrap (x11+1)) h_3
 else
  vLen v0 fun n32=>
  vLen v1 fun n34=>
  bif decide (((n32:Int):Int)<(n34:Int)) then
   R (.int .i64 (-1)) h_2
  else
   R (.int .i64 0) h_2
theorem Zzp {R:Value→Heap→Prop} {v0:Value} {v1:Value} {h:Heap} (hv:ZoF R v0 v1 h):CallsQ True P ZcC #[v0,v1] h R:=
 Zju ctxOkQ ⟨[(2,[(11,.i .i64)])],[],[]⟩ Tryz.func161 [v0,v1] h R (by kernel_rfl) (Eq.mpr (by kernel_rfl) hv)
theorem Zv5 {ψ:CM} {h:Heap} (hψ:CLe ψ (hcell h)) {s0:List Int} {v0:Value} {s1:List Int} {v1:Value} {r:Int} (hp:Zal s0 s1=some r) (f0:SlC (hcell h) (El.int .i64) v0 s0) (f1:SlC (hcell h) (El.int .i64) v1 s1):CallsQ True P ZcC #[v0,v1] h (fun v h'=>v=.int .i64 r∧S ψ h h' []):=by
 apply Zzp
 unfold ZoF
 rw [Zal] at hp
 have st:S ψ h h []:=S.start hψ
 refine Zl (f0.mono st.le) ?_
 obtain ⟨n_2,hn⟩:=Zv hp
 refine ⟨fun n y11 h_2=>S ψ h h_2 []∧loopN (ZaW s0 s1) n y11=some r,⟨n_2,st.pick [] (by decide),hn⟩,?_⟩
 rintro n _ y11 h_2 ⟨st,hn⟩
 obtain ⟨m,a,rfl,hp,hs⟩:=Zo hn
 rw [ZaW] at hp
 refine bifP hp (fun hc hp=>?_) (fun hc hp=>?_)
 ·obtain ⟨e14,hx,hp⟩:=obind hp
  refine Zao (f0.mono st.le) hx fun p14 ad=>?_
  refine ldI_C (f0.mono st.le) ad hx ?_
  refine Zl (f1.mono st.le) ?_
  refine bifP hp (fun hc hp=>?_) (fun hc hp=>?_)
  ·obtain rfl:=Option.some.inj hp
   obtain rfl:=Option.some.inj hs
   exact ⟨rfl,st.pick [] (by decide)⟩
  ·obtain ⟨e22,hx_2,hp⟩:=obind hp
   refine Zao (f1.mono st.le) hx_2 fun p22 ad_2=>?_
   refine ldI_C (f1.mono st.le) ad_2 hx_2 ?_
   obtain ⟨r26,hx_3,hp⟩:=obind hp
   obtain ⟨φ,L,s,r_2⟩:=id st
   refine (Zt6 s.fle hx_3).mono fun v_2 h_3 ⟨eq,t⟩=>⟨_,eq,?_⟩
   replace st:=join0 s r_2 t
   clear t s r_2
   refine bifP hp (fun hc hp=>?_) (fun hc hp=>?_)
   ·obtain rfl:=Option.some.inj hp
    obtain rfl:=Option.some.inj hs
    exact ⟨rfl,st.pick [] (by decide)⟩
   ·obtain rfl:=Option.some.inj hp
    exact ⟨m,Nat.lt_succ_self _,st.pick [] (by decide),hs⟩
 ·refine Zl (f0.mono st.le) ?_
  refine Zl (f1.mono st.le) ?_
  refine bifP hp (fun hc hp=>?_) (fun hc hp=>?_)
  ·obtain rfl:=Option.some.inj hp
   obtain rfl:=Option.some.inj hs
   exact ⟨rfl,st.pick [] (by decide)⟩
  ·obtain rfl:=Option.some.inj hp
   obtain rfl:=Option.some.inj hs
   exact ⟨rfl,st.pick [] (by decide)⟩
end Go.Proofs.YtmmbnjijjdakmaaGreatDoor
