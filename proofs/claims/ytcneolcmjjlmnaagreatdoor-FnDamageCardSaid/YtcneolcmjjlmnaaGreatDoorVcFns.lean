import Derived.Test.YtcneolcmjjlmnaaGreatDoorVcSoundE
import Derived.Test.YtcneolcmjjlmnaaGreatDoorProg
import Derived.KernelRfl
open Bool renaming and_eq_true->Jz,not_eq_true'->JV,true->Ji,false->Jj
open Option renaming some->Jg,none->Jh
open Go renaming Value->Jl
open Go.IntKind renaming i64->Y
namespace Go.Proofs.YtcneolcmjjlmnaaGreatDoor
set_option linter.unusedSimpArgs false
open Go Go.Vc Go.Proofs
set_option linter.unusedVariables false
set_option maxRecDepth 100000
noncomputable abbrev P:Program:=Tryz.prog
def tab:List (Nat×TE):=[(2,⟨.int .i64,[.i .i64],[.int .i64 0],8⟩),
 (3,⟨.int .i64,[.i .i64],[.int .i64 0],8⟩),
 (4,⟨.bool,[.b],[.bool Jj],1⟩),
 (5,⟨.int .u8,[.i .u8],[.int .u8 0],1⟩),
 (9,⟨.str,[.s],[.string ⟨#[]⟩],16⟩),
 (22,⟨.slice 5,[.v],[.slice Jh 0 0],24⟩),
 (24,⟨.slice 49,[.v],[.slice Jh 0 0],24⟩),
 (26,⟨.struct [(0,1,Jj)],[.v],[.slice Jh 0 0],24⟩),
 (40,⟨.slice 9,[.v],[.slice Jh 0 0],24⟩),
 (43,⟨.slice 95,[.v],[.slice Jh 0 0],24⟩),
 (45,⟨.struct [(0,1,Jj),(1,1,Jj),(2,1,Jj)],[.i .i64,.i .i64,.v],[.int .i64 0,.int .i64 0,.slice Jh 0 0],40⟩),
 (49,⟨.struct [(0,1,Jj),(1,3,Ji),(4,1,Jj)],[.s,.i .i64,.i .i64,.v,.s],[.string ⟨#[]⟩,.int .i64 0,.int .i64 0,.slice Jh 0 0,.string ⟨#[]⟩],72⟩),
 (52,⟨.int .u64,[.i .u64],[.int .u64 0],8⟩),
 (54,⟨.struct [(0,1,Jj),(1,1,Jj),(2,1,Jj)],[.v,.i .i64,.i .u64],[.slice Jh 0 0,.int .i64 0,.int .u64 0],40⟩),
 (87,⟨.struct [(0,1,Jj),(1,1,Jj)],[.i .i64,.v],[.int .i64 0,.slice Jh 0 0],32⟩),
 (92,⟨.struct [(0,1,Jj),(1,1,Jj),(2,1,Jj)],[.i .i64,.i .i64,.v],[.int .i64 0,.int .i64 0,.slice Jh 0 0],40⟩),
 (95,⟨.slice 2,[.v],[.slice Jh 0 0],24⟩),
 (97,⟨.struct [(0,1,Jj),(1,1,Jj),(2,1,Jj)],[.i .i64,.i .i64,.v],[.int .i64 0,.int .i64 0,.slice Jh 0 0],40⟩),
 (99,⟨.struct [(0,3,Ji),(3,1,Jj)],[.i .i64,.i .i64,.v,.v],[.int .i64 0,.int .i64 0,.slice Jh 0 0,.slice Jh 0 0],64⟩),
 (102,⟨.slice 161,[.v],[.slice Jh 0 0],24⟩),
 (104,⟨.struct [(0,1,Jj),(1,1,Jj)],[.v,.v],[.slice Jh 0 0,.slice Jh 0 0],48⟩),
 (108,⟨.struct [(0,1,Jj),(1,1,Jj)],[.i .i64,.v],[.int .i64 0,.slice Jh 0 0],32⟩),
 (117,⟨.iface,[.v],[.nilIface],16⟩),
 (121,⟨.int .u64,[.i .u64],[.int .u64 0],8⟩),
 (144,⟨.slice 43,[.v],[.slice Jh 0 0],24⟩),
 (161,⟨.struct [(0,1,Jj),(1,1,Jj)],[.i .i64,.i .i64],[.int .i64 0,.int .i64 0],16⟩),
 (225,⟨.slice 227,[.v],[.slice Jh 0 0],24⟩),
 (227,⟨.slice 4,[.v],[.slice Jh 0 0],24⟩),
 (260,⟨.struct [(0,1,Jj),(1,1,Jj),(2,1,Jj),(3,1,Jj),(4,1,Jj)],[.i .i64,.v,.v,.v,.v],[.int .i64 0,.slice Jh 0 0,.slice Jh 0 0,.slice Jh 0 0,.slice Jh 0 0],104⟩),
 (283,⟨.struct [(0,1,Jj),(1,1,Jj)],[.i .i64,.b],[.int .i64 0,.bool Jj],16⟩),
 (285,⟨.struct [(0,2,Ji),(2,2,Ji),(4,1,Jj),(5,1,Jj),(6,1,Jj),(7,2,Ji),(9,1,Jj)],[.i .i64,.b,.v,.v,.v,.i .i64,.i .i64,.v,.v,.v],[.int .i64 0,.bool Jj,.slice Jh 0 0,.slice Jh 0 0,.slice Jh 0 0,.int .i64 0,.int .i64 0,.slice Jh 0 0,.slice Jh 0 0,.slice Jh 0 0],176⟩),
 (299,⟨.struct [(0,2,Ji),(2,1,Jj),(3,2,Ji),(5,1,Jj),(6,1,Jj),(7,1,Jj),(8,1,Jj),(9,1,Jj)],[.v,.v,.v,.v,.v,.v,.i .i64,.i .i64,.i .i64,.b],[.slice Jh 0 0,.slice Jh 0 0,.slice Jh 0 0,.slice Jh 0 0,.slice Jh 0 0,.slice Jh 0 0,.int .i64 0,.int .i64 0,.int .i64 0,.bool Jj],176⟩),
 (344,⟨.map 9 4,[.v],[.map Jh],8⟩),
 (362,⟨.slice 3,[.v],[.slice Jh 0 0],24⟩)]
def rst:List (Nat×RS):=[(0,⟨Ji,[]⟩),
 (2,⟨Jj,[(Jj,[.i .i64])]⟩),
 (3,⟨Jj,[(Jj,[.i .i64])]⟩),
 (4,⟨Jj,[(Jj,[.b])]⟩),
 (9,⟨Jj,[(Jj,[.s])]⟩),
 (26,⟨Jj,[(Ji,[.v])]⟩),
 (28,⟨Ji,[(Jj,[.s]),(Jj,[.i .i64])]⟩),
 (31,⟨Ji,[(Ji,[.v]),(Jj,[.i .i64])]⟩),
 (33,⟨Jj,[(Jj,[.p])]⟩),
 (40,⟨Jj,[(Jj,[.v])]⟩),
 (41,⟨Ji,[(Jj,[.v]),(Jj,[.i .i64])]⟩),
 (43,⟨Jj,[(Jj,[.v])]⟩),
 (45,⟨Jj,[(Ji,[.i .i64,.i .i64,.v])]⟩),
 (46,⟨Ji,[(Jj,[.s]),(Ji,[.i .i64,.i .i64,.v]),(Jj,[.i .i64])]⟩),
 (49,⟨Jj,[(Ji,[.s,.i .i64,.i .i64,.v,.s])]⟩),
 (68,⟨Ji,[(Jj,[.i .i64]),(Jj,[.b])]⟩),
 (73,⟨Ji,[(Jj,[.s]),(Jj,[.s]),(Jj,[.b])]⟩),
 (75,⟨Ji,[(Ji,[.i .i64,.i .i64,.v]),(Jj,[.b])]⟩),
 (82,⟨Ji,[(Ji,[.i .i64,.i .i64,.v]),(Jj,[.i .i64])]⟩),
 (87,⟨Jj,[(Ji,[.i .i64,.v])]⟩),
 (92,⟨Jj,[(Ji,[.i .i64,.i .i64,.v])]⟩),
 (95,⟨Jj,[(Jj,[.v])]⟩),
 (97,⟨Jj,[(Ji,[.i .i64,.i .i64,.v])]⟩),
 (99,⟨Jj,[(Ji,[.i .i64,.i .i64,.v,.v])]⟩),
 (102,⟨Jj,[(Jj,[.v])]⟩),
 (104,⟨Jj,[(Ji,[.v,.v])]⟩),
 (108,⟨Jj,[(Ji,[.i .i64,.v])]⟩),
 (118,⟨Ji,[(Jj,[.i .i64]),(Jj,[.v])]⟩),
 (122,⟨Ji,[(Jj,[.v]),(Jj,[.b])]⟩),
 (126,⟨Ji,[(Ji,[.v,.v]),(Jj,[.i .i64])]⟩),
 (144,⟨Jj,[(Jj,[.v])]⟩),
 (146,⟨Ji,[(Ji,[.i .i64,.i .i64,.v]),(Jj,[.i .i64])]⟩),
 (156,⟨Ji,[(Ji,[.i .i64,.i .i64,.v,.v]),(Jj,[.i .i64])]⟩),
 (163,⟨Ji,[(Jj,[.i .i64]),(Jj,[.v])]⟩),
 (165,⟨Ji,[(Jj,[.v]),(Jj,[.b])]⟩),
 (173,⟨Ji,[(Ji,[.v,.v]),(Jj,[.b])]⟩),
 (199,⟨Ji,[(Ji,[.v,.v]),(Jj,[.v]),(Jj,[.i .i64])]⟩),
 (215,⟨Ji,[(Jj,[.i .i64]),(Jj,[.i .i64])]⟩),
 (221,⟨Ji,[(Jj,[.v]),(Jj,[.v])]⟩),
 (225,⟨Jj,[(Jj,[.v])]⟩),
 (229,⟨Ji,[(Jj,[.i .i64]),(Jj,[.b])]⟩),
 (258,⟨Ji,[(Jj,[.v]),(Jj,[.v]),(Jj,[.i .i64])]⟩),
 (260,⟨Jj,[(Ji,[.i .i64,.v,.v,.v,.v])]⟩),
 (263,⟨Ji,[(Ji,[.i .i64,.i .i64,.v]),(Jj,[.i .i64])]⟩),
 (265,⟨Ji,[(Jj,[.v]),(Jj,[.v]),(Jj,[.b])]⟩),
 (280,⟨Ji,[(Jj,[.v]),(Jj,[.i .i64])]⟩),
 (295,⟨Jj,[(Jj,[.p])]⟩),
 (296,⟨Ji,[(Jj,[.v]),(Jj,[.i .i64])]⟩)]
def exs:List Nat:=[201,212,274,334,335,405,406,407,408,409,410,411,412,413,414,415,416,417,418,419,420,421,422,423,424,425,426,427,428,429,430,431,432,433]
noncomputable def ctx:Ctx:=⟨Tryz.prog,tab,rst,3,435,exs,[],[161],False⟩
theorem tz {t te} (h:TeOk P t te:=by exact ⟨κ,κ,κ,κ⟩):TeOk P t te:=h
theorem tabOk_all:∀p∈tab,TeOk P p.1 p.2:=by
 unfold tab;simp only [List.forall_mem_cons];exact ⟨tz,tz,tz,tz,tz,tz,tz,tz,tz,tz,tz,tz,tz,tz,tz,tz,tz,tz,tz,tz,tz,tz,tz,tz,tz,tz,tz,tz,tz,tz,tz,tz,tz,tz,λp hp=>by cases hp⟩
theorem tab_mem:∀(l:List (Nat×TE)) (t:Nat) (e:TE),tabGet l t=Jg e->(t,e)∈l
 | [],t,e,h=>by cases h
 | (k,x)::r,t,e,h=>by
  unfold tabGet at h;cases a:Nat.beq k t with
  | true=>rw [a] at h;have:=Nat.eq_of_beq_eq_true a;subst this;cases h;exact List.mem_cons_self ..
  | false=>rw [a] at h;exact List.mem_cons_of_mem _ (tab_mem r t e h)
noncomputable def fnB (f:Nat):Bool:=match P.funcs[f]? with|some fn=>fn.body.isSome&&!(fn.name== "runtime.NumGoroutine")|none=>Jj
theorem fns_all:(List.range' 3 432).all (λf=>inL exs f||fnB f)=true:=κ
theorem eq2ok:eq2B P 161=true:=κ
theorem ctxOk:CtxOk ctx where
 tab:=λt o h=>tabOk_all (t,o) (tab_mem _ t o h)
 fns:=λf j=>by
  simp only [Ctx.okf,Jz,JV] at j;have h1:3<=f:=Nat.le_of_ble_eq_true j.1.1;have g:f<435:=Nat.blt_eq.mp j.1.2;have h:=List.all_eq_true.1 fns_all f (List.mem_range'_1.2 ⟨h1,by omega⟩);have e:inL exs f=false:=j.2;simp only [e,Bool.false_or] at h;unfold fnB at h;split at h
  .rename_i fn l;simp only [Jz,JV] at h;exact ⟨fn,l,h.1,h.2⟩
  .cases h
 mixed:=κ
 ovs:=λf j=>by cases j
 eqs:=λf j=>by
  have k:f=161:=by
   unfold ctx inL at j;cases a:Nat.beq 161 f with
   | true=>exact (Nat.eq_of_beq_eq_true a).symm
   | false=>simp [a,inL] at j
  subst k;exact eq2ok
theorem zv {f:FuncId} {fn:Func} {g:Jc} {h:Heap} {R:Jl->Heap->Prop} (A:Ann) (j:P.funcs[f]?=Jg fn) (a:vcFn ctx A fn g h R)
  (e:((match fn.body with|some c=>aOk ctx A c&&cOk fn.ntmps c|none=>Jj)&&Nat.ble g.length fn.ntmps)=Ji:=by kernel_rfl):CallsH P f g.toArray h R:=
 Zg3 ctxOk A j g h R e a
variable {R:Jl->Heap->Prop} {h:Heap}
abbrev ZLS (R:Jl->Heap->Prop) (v0:Jl) (h:Heap):Prop:=
 vLen v0 λn7=>
 bif ((n7:Int):Int)<2 then
 R v0 h
 else
 ∃J:Nat->Int->Heap->Prop,(∃n_2,J n_2 1 h)/\∀(n:Nat) (_:Env) (x3:Int) (h_2:Heap),J n x3 h_2 ->
 vLen v0 λn12=>
 bif (x3:Int)<(n12:Int) then
 vIdx v0 x3 2 λp18=>
 ldI .i64 h_2 p18 λx19_0=>
 ldI .i64 h_2 (p18.add 1) λx19_1=>
 vIdx v0 (Y.wrap (x3-1)) 2 λp23=>
 ldI .i64 h_2 p23 λx24_0=>
 ldI .i64 h_2 (p23.add 1) λx24_1=>
 bif (x19_0:Int)==x24_0&&(x19_1:Int)==x24_1 then
 vSliceS v0 2 (Jg (.int .i64 x3)) Jh Jh λv28=>
 ∃J_2:Nat->Int->Int->Heap->Prop,(∃n_4,J_2 n_4 x3 1 h_2)/\∀(n_3:Nat) (_:Env) (x3_2:Int) (x5:Int) (h_3:Heap),J_2 n_3 x3_2 x5 h_3 ->
 vLen v28 λn31=>
 bif (x5:Int)<(n31:Int) then
 vIdx v28 x5 2 λp37=>
 ldI .i64 h_3 p37 λx38_0=>
 ldI .i64 h_3 (p37.add 1) λx38_1=>
 vIdx v28 (Y.wrap (x5-1)) 2 λp42=>
 ldI .i64 h_3 p42 λx43_0=>
 ldI .i64 h_3 (p42.add 1) λx43_1=>
 bif !((x38_0:Int)==x43_0&&(x38_1:Int)==x43_1) then
 vIdx v28 x5 2 λp49=>
 ldI .i64 h_3 p49 λx50_0=>
 ldI .i64 h_3 (p49.add 1) λx50_1=>
 vIdx v0 x3_2 2 λp51=>
 vStore1 h_3 p51 (.int .i64 x50_0) λh_4=>
 vStore1 h_4 (p51.add 1) (.int .i64 x50_1) λh_5=>
 ∃m_2,m_2<n_3/\J_2 m_2 (Y.wrap (x3_2+1)) (Y.wrap (x5+1)) h_5
 else
 ∃m_2,m_2<n_3/\J_2 m_2 x3_2 (Y.wrap (x5+1)) h_3
 else
 vSliceS v0 2 (Jg (.int .i64 x3_2)) Jh Jh λv56=>
 vClear [.int .i64 0,.int .i64 0] v56 h_3 λ_ h_6=>
 vSliceS v0 2 Jh (Jg (.int .i64 x3_2)) Jh λv59=>
 R v59 h_6
 else
 ∃m,m<n/\J m (Y.wrap (x3+1)) h_2
 else
 R v0 h_2
theorem ZL9 {R:Jl->Heap->Prop} {v0:Jl} {h:Heap} (a:ZLS R v0 h):CallsH P 337 #[v0] h R:=
 Zg3 ctxOk ⟨[(4,[(3,.i .i64)]),(9,[(3,.i .i64),(5,.i .i64)])],[],[],[]⟩ Tryz.func337 [v0] h R κ (Eq.mpr κ a)
abbrev ZI9 (R:Jl->Heap->Prop) (v0:Jl) (g1:Nat) (cap1:Jc) (h:Heap):Prop:=
 vLen v0 λn9=>
 bif ((n9:Int):Int)<2 then
 R v0 h
 else
 ∃J:Nat->Int->Heap->Prop,(∃n_2,J n_2 1 h)/\∀(n:Nat) (_:Env) (x5:Int) (h_2:Heap),J n x5 h_2 ->
 vLen v0 λn14=>
 bif (x5:Int)<(n14:Int) then
 vIdx v0 x5 1 λp21=>
 ldV h_2 p21 λv22=>
 vIdx v0 (Y.wrap (x5-1)) 1 λp26=>
 ldV h_2 p26 λv27=>
 vOkfU ctx g1 λ_=>
 CallsH P g1 (([v22,v27]:Jc)++cap1).toArray h_2 λr28 h_3=>∃(b28:Bool),r28=.bool b28 /\
 bif b28 then
 vSliceS v0 1 (Jg (.int .i64 x5)) Jh Jh λv31=>
 ∃J_2:Nat->Int->Int->Heap->Prop,(∃n_4,J_2 n_4 x5 1 h_3)/\∀(n_3:Nat) (_:Env) (x5_2:Int) (x7:Int) (h_4:Heap),J_2 n_3 x5_2 x7 h_4 ->
 vLen v31 λn34=>
 bif (x7:Int)<(n34:Int) then
 vIdx v31 x7 1 λp41=>
 ldV h_4 p41 λv42=>
 vIdx v31 (Y.wrap (x7-1)) 1 λp46=>
 ldV h_4 p46 λv47=>
 vOkfU ctx g1 λ_=>
 CallsH P g1 (([v42,v47]:Jc)++cap1).toArray h_4 λr48 h_5=>∃(b48:Bool),r48=.bool b48 /\
 bif !b48 then
 vIdx v31 x7 1 λp54=>
 ldV h_5 p54 λv55=>
 vIdx v0 x5_2 1 λp56=>
 vStore1 h_5 p56 v55 λh_6=>
 ∃m_2,m_2<n_3/\J_2 m_2 (Y.wrap (x5_2+1)) (Y.wrap (x7+1)) h_6
 else
 ∃m_2,m_2<n_3/\J_2 m_2 x5_2 (Y.wrap (x7+1)) h_5
 else
 vSliceS v0 1 (Jg (.int .i64 x5_2)) Jh Jh λv61=>
 vClear [.slice Jh 0 0] v61 h_4 λ_ h_7=>
 vSliceS v0 1 Jh (Jg (.int .i64 x5_2)) Jh λv64=>
 R v64 h_7
 else
 ∃m,m<n/\J m (Y.wrap (x5+1)) h_3
 else
 R v0 h_2
theorem ZM4 {R:Jl->Heap->Prop} {v0:Jl} {e:Nat} {a:Jc} {h:Heap} (f:ZI9 R v0 e a h):CallsH P 364 #[v0,.func (.func e) #[] a.toArray] h R:=
 Zg3 ctxOk ⟨[(4,[(5,.i .i64)]),(9,[(5,.i .i64),(7,.i .i64)])],[],[],[]⟩ Tryz.func364 [v0,.func (.func e) #[] a.toArray] h R κ (Eq.mpr κ f)
abbrev ZGj (R:Jl->Heap->Prop) (v0:Jl) (h:Heap):Prop:=
 vLen v0 λn7=>
 bif ((n7:Int):Int)<2 then
 R v0 h
 else
 ∃J:Nat->Int->Heap->Prop,(∃n_2,J n_2 1 h)/\∀(n:Nat) (_:Env) (x3:Int) (h_2:Heap),J n x3 h_2 ->
 vLen v0 λn12=>
 bif (x3:Int)<(n12:Int) then
 vIdx v0 x3 1 λp18=>
 ldI .i64 h_2 p18 λx19=>
 vIdx v0 (Y.wrap (x3-1)) 1 λp23=>
 ldI .i64 h_2 p23 λx24=>
 bif (x19:Int)==x24 then
 vSliceS v0 1 (Jg (.int .i64 x3)) Jh Jh λv28=>
 ∃J_2:Nat->Int->Int->Heap->Prop,(∃n_4,J_2 n_4 x3 1 h_2)/\∀(n_3:Nat) (_:Env) (x3_2:Int) (x5:Int) (h_3:Heap),J_2 n_3 x3_2 x5 h_3 ->
 vLen v28 λn31=>
 bif (x5:Int)<(n31:Int) then
 vIdx v28 x5 1 λp37=>
 ldI .i64 h_3 p37 λx38=>
 vIdx v28 (Y.wrap (x5-1)) 1 λp42=>
 ldI .i64 h_3 p42 λx43=>
 bif (x38:Int) !=x43 then
 vIdx v28 x5 1 λp49=>
 ldI .i64 h_3 p49 λx50=>
 vIdx v0 x3_2 1 λp51=>
 vStore1 h_3 p51 (.int .i64 x50) λh_4=>
 ∃m_2,m_2<n_3/\J_2 m_2 (Y.wrap (x3_2+1)) (Y.wrap (x5+1)) h_4
 else
 ∃m_2,m_2<n_3/\J_2 m_2 x3_2 (Y.wrap (x5+1)) h_3
 else
 vSliceS v0 1 (Jg (.int .i64 x3_2)) Jh Jh λv56=>
 vClear [.int .i64 0] v56 h_3 λ_ h_5=>
 vSliceS v0 1 Jh (Jg (.int .i64 x3_2)) Jh λv59=>
 R v59 h_5
 else
 ∃m,m<n/\J m (Y.wrap (x3+1)) h_2
 else
 R v0 h_2
theorem ZID {R:Jl->Heap->Prop} {v0:Jl} {h:Heap} (a:ZGj R v0 h):CallsH P 365 #[v0] h R:=
 Zg3 ctxOk ⟨[(4,[(3,.i .i64)]),(9,[(3,.i .i64),(5,.i .i64)])],[],[],[]⟩ Tryz.func365 [v0] h R κ (Eq.mpr κ a)
end Go.Proofs.YtcneolcmjjlmnaaGreatDoor
