import Derived.Test.YtahnjnfpjcfklaaGreatDoorVcSoundE
import Derived.Test.YtahnjnfpjcfklaaGreatDoorPuBase
import Derived.Test.YtahnjnfpjcfklaaGreatDoorProg
import Derived.KernelRfl
open Go.IntKind renaming i64->ε
namespace Go.Proofs.YtahnjnfpjcfklaaGreatDoor
set_option linter.unusedSimpArgs false
open Go Go.Vc Go.Proofs
set_option linter.unusedVariables false
set_option maxRecDepth 100000
noncomputable abbrev P:Program:=Tryz.prog
def tab:List (Nat×TE):=[(2,⟨.int .i64,[.i .i64],[.int .i64 0],8⟩),
 (3,⟨.int .i64,[.i .i64],[.int .i64 0],8⟩),
 (4,⟨.bool,[.b],[.bool false],1⟩),
 (5,⟨.int .u8,[.i .u8],[.int .u8 0],1⟩),
 (9,⟨.str,[.s],[.string ⟨#[]⟩],16⟩),
 (22,⟨.slice 5,[.v],[.slice none 0 0],24⟩),
 (24,⟨.slice 50,[.v],[.slice none 0 0],24⟩),
 (26,⟨.struct [(0,1,false),(1,1,false),(2,1,false)],[.i .i64,.i .i64,.v],[.int .i64 0,.int .i64 0,.slice none 0 0],40⟩),
 (37,⟨.struct [(0,1,false),(1,1,false)],[.i .i64,.v],[.int .i64 0,.slice none 0 0],32⟩),
 (48,⟨.slice 9,[.v],[.slice none 0 0],24⟩),
 (50,⟨.slice 2,[.v],[.slice none 0 0],24⟩),
 (65,⟨.struct [(0,1,false),(1,1,false),(2,1,false)],[.i .i64,.i .i64,.v],[.int .i64 0,.int .i64 0,.slice none 0 0],40⟩),
 (69,⟨.struct [(0,1,false),(1,1,false),(2,1,false)],[.i .i64,.i .i64,.v],[.int .i64 0,.int .i64 0,.slice none 0 0],40⟩),
 (71,⟨.struct [(0,3,true),(3,1,false)],[.i .i64,.i .i64,.v,.v],[.int .i64 0,.int .i64 0,.slice none 0 0,.slice none 0 0],64⟩),
 (73,⟨.slice 142,[.v],[.slice none 0 0],24⟩),
 (75,⟨.struct [(0,1,false),(1,1,false)],[.v,.v],[.slice none 0 0,.slice none 0 0],48⟩),
 (80,⟨.struct [(0,1,false),(1,1,false)],[.i .i64,.v],[.int .i64 0,.slice none 0 0],32⟩),
 (90,⟨.int .u64,[.i .u64],[.int .u64 0],8⟩),
 (92,⟨.struct [(0,1,false),(1,1,false),(2,1,false)],[.v,.i .i64,.i .u64],[.slice none 0 0,.int .i64 0,.int .u64 0],40⟩),
 (109,⟨.iface,[.v],[.nilIface],16⟩),
 (136,⟨.struct [(0,1,false),(1,1,false),(2,1,false),(3,1,false),(4,1,false)],[.i .i64,.v,.v,.v,.v],[.int .i64 0,.slice none 0 0,.slice none 0 0,.slice none 0 0,.slice none 0 0],104⟩),
 (142,⟨.struct [(0,1,false),(1,1,false)],[.i .i64,.i .i64],[.int .i64 0,.int .i64 0],16⟩),
 (165,⟨.slice 24,[.v],[.slice none 0 0],24⟩),
 (219,⟨.struct [(0,1,false),(1,1,false)],[.i .i64,.b],[.int .i64 0,.bool false],16⟩),
 (221,⟨.struct [(0,2,true),(2,2,true),(4,1,false),(5,1,false),(6,1,false),(7,2,true),(9,1,false)],[.i .i64,.b,.v,.v,.v,.i .i64,.i .i64,.v,.v,.v],[.int .i64 0,.bool false,.slice none 0 0,.slice none 0 0,.slice none 0 0,.int .i64 0,.int .i64 0,.slice none 0 0,.slice none 0 0,.slice none 0 0],176⟩),
 (222,⟨.int .u64,[.i .u64],[.int .u64 0],8⟩),
 (236,⟨.slice 238,[.v],[.slice none 0 0],24⟩),
 (238,⟨.slice 4,[.v],[.slice none 0 0],24⟩),
 (267,⟨.map 9 4,[.v],[.map none],8⟩),
 (303,⟨.slice 3,[.v],[.slice none 0 0],24⟩)]
def rst:List (Nat×RS):=[(0,⟨true,[]⟩),
 (2,⟨false,[(false,[.i .i64])]⟩),
 (3,⟨false,[(false,[.i .i64])]⟩),
 (4,⟨false,[(false,[.b])]⟩),
 (9,⟨false,[(false,[.s])]⟩),
 (24,⟨false,[(false,[.v])]⟩),
 (26,⟨false,[(true,[.i .i64,.i .i64,.v])]⟩),
 (28,⟨true,[(true,[.i .i64,.i .i64,.v]),(false,[.b])]⟩),
 (31,⟨true,[(false,[.i .i64]),(false,[.b])]⟩),
 (37,⟨false,[(true,[.i .i64,.v])]⟩),
 (38,⟨true,[(true,[.i .i64,.v]),(false,[.i .i64])]⟩),
 (40,⟨true,[(true,[.i .i64,.i .i64,.v]),(false,[.i .i64])]⟩),
 (43,⟨true,[(false,[.s]),(false,[.i .i64])]⟩),
 (45,⟨false,[(false,[.p])]⟩),
 (48,⟨false,[(false,[.v])]⟩),
 (50,⟨false,[(false,[.v])]⟩),
 (51,⟨true,[(false,[.v]),(false,[.b])]⟩),
 (65,⟨false,[(true,[.i .i64,.i .i64,.v])]⟩),
 (69,⟨false,[(true,[.i .i64,.i .i64,.v])]⟩),
 (71,⟨false,[(true,[.i .i64,.i .i64,.v,.v])]⟩),
 (73,⟨false,[(false,[.v])]⟩),
 (75,⟨false,[(true,[.v,.v])]⟩),
 (76,⟨true,[(true,[.v,.v]),(false,[.b])]⟩),
 (80,⟨false,[(true,[.i .i64,.v])]⟩),
 (87,⟨true,[(true,[.v,.v]),(false,[.i .i64])]⟩),
 (110,⟨true,[(false,[.i .i64]),(false,[.v])]⟩),
 (134,⟨true,[(false,[.v]),(false,[.v]),(false,[.i .i64])]⟩),
 (136,⟨false,[(true,[.i .i64,.v,.v,.v,.v])]⟩),
 (139,⟨true,[(true,[.i .i64,.i .i64,.v]),(false,[.i .i64])]⟩),
 (144,⟨true,[(false,[.v]),(false,[.v]),(false,[.b])]⟩),
 (151,⟨true,[(true,[.v,.v]),(false,[.v]),(false,[.i .i64])]⟩),
 (165,⟨false,[(false,[.v])]⟩),
 (167,⟨true,[(true,[.i .i64,.i .i64,.v]),(false,[.i .i64])]⟩),
 (177,⟨true,[(true,[.i .i64,.i .i64,.v,.v]),(false,[.i .i64])]⟩),
 (181,⟨true,[(false,[.i .i64]),(false,[.v])]⟩),
 (183,⟨true,[(false,[.v]),(false,[.b])]⟩),
 (202,⟨true,[(false,[.i .i64]),(false,[.i .i64])]⟩),
 (207,⟨true,[(false,[.i .i64]),(false,[.b])]⟩),
 (216,⟨true,[(false,[.v]),(false,[.i .i64])]⟩),
 (233,⟨true,[(false,[.v]),(false,[.v])]⟩),
 (236,⟨false,[(false,[.v])]⟩)]
def exs:List Nat:=[208,216,217,264,301,345,346,347,348,349,350,351,352,353,354,355,356,357,358,359,360,361,362,363,364,365,366,367,368,369,370,371,372,373]
noncomputable def ctx:Ctx:=⟨Tryz.prog,tab,rst,3,375,exs,[],[142],False⟩
theorem tz {t te} (h:TeOk P t te:=by exact ⟨κ,κ,κ,κ⟩):TeOk P t te:=h
theorem tabOk_all:∀ p∈tab,TeOk P p.1 p.2:=by
 unfold tab;simp only [List.forall_mem_cons];exact ⟨tz,tz,tz,tz,tz,tz,tz,tz,tz,tz,tz,tz,tz,tz,tz,tz,tz,tz,tz,tz,tz,tz,tz,tz,tz,tz,tz,tz,tz,tz,fun p hp=>by cases hp⟩
theorem tab_mem:∀ (l:List (Nat×TE)) (t:Nat) (e:TE),tabGet l t=some e->(t,e)∈l
 | [],t,e,h=>by cases h
 | (k,x)::r,t,e,h=>by
  unfold tabGet at h;cases a:Nat.beq k t with
  | true=>rw [a] at h;have:=Nat.eq_of_beq_eq_true a;subst this;cases h;exact List.mem_cons_self ..
  | false=>rw [a] at h;exact List.mem_cons_of_mem _ (tab_mem r t e h)
noncomputable def fnB (f:Nat):Bool:=match P.funcs[f]? with|some fn=>fn.body.isSome&&!(fn.name== "runtime.NumGoroutine")|none=>false
theorem fns_all:(List.range' 3 372).all (fun f=>inL exs f||fnB f)=true:=κ
theorem eq2ok:eq2B P 142=true:=κ
theorem ctxOk:CtxOk ctx where
 tab:=fun t k h=>tabOk_all (t,k) (tab_mem _ t k h)
 fns:=fun f j=>by
  simp only [Ctx.okf,Bool.and_eq_true,Bool.not_eq_true'] at j;have h1:3<=f:=Nat.le_of_ble_eq_true j.1.1;have g:f<375:=Nat.blt_eq.mp j.1.2;have h:=List.all_eq_true.1 fns_all f (List.mem_range'_1.2 ⟨h1,by omega⟩);have e:inL exs f=false:=j.2;simp only [e,Bool.false_or] at h;unfold fnB at h;split at h
  ·rename_i fn o;simp only [Bool.and_eq_true,Bool.not_eq_true'] at h;exact ⟨fn,o,h.1,h.2⟩
  ·cases h
 mixed:=κ
 ovs:=fun f j=>by cases j
 eqs:=fun f j=>by
  have l:f=142:=by
   unfold ctx inL at j;cases a:Nat.beq 142 f with
   | true=>exact (Nat.eq_of_beq_eq_true a).symm
   | false=>simp [a,inL] at j
  subst l;exact eq2ok
theorem zv {f:FuncId} {fn:Func} {g:List Value} {h:Heap} {R:Value->Heap->Prop} (A:Ann) (j:P.funcs[f]?=some fn) (a:vcFn ctx A fn g h R)
  (e:((match fn.body with|some c=>aOk ctx A c&&cOk fn.ntmps c|none=>false)&&Nat.ble g.length fn.ntmps)=true:=by kernel_rfl):CallsH P f g.toArray h R:=
 Zhx ctxOk A j g h R e a
variable {R:Value->Heap->Prop} {h:Heap}
abbrev ZDi (R:Value->Heap->Prop) (v0:Value) (h:Heap):Prop:=
 vLen v0 fun n7=>
 bif decide (((n7:Int):Int)<2) then
 R v0 h
 else
 ∃ J:Nat->Int->Heap->Prop,(∃ n_2,J n_2 1 h)/\∀ (n:Nat) (_:Env) (x3:Int) (h_2:Heap),J n x3 h_2 ->
 vLen v0 fun n12=>
 bif decide ((x3:Int)<(n12:Int)) then
 vIdx v0 x3 2 fun p18=>
 ldI .i64 h_2 p18 fun x19_0=>
 ldI .i64 h_2 (p18.add 1) fun x19_1=>
 vIdx v0 (ε.wrap (x3-1)) 2 fun p23=>
 ldI .i64 h_2 p23 fun x24_0=>
 ldI .i64 h_2 (p23.add 1) fun x24_1=>
 bif (x19_0:Int)==x24_0&&(x19_1:Int)==x24_1 then
 vSliceS v0 2 (some (.int .i64 x3)) none none fun v28=>
 ∃ J_2:Nat->Int->Int->Heap->Prop,(∃ n_4,J_2 n_4 x3 1 h_2)/\∀ (n_3:Nat) (_:Env) (x3_2:Int) (x5:Int) (h_3:Heap),J_2 n_3 x3_2 x5 h_3 ->
 vLen v28 fun n31=>
 bif decide ((x5:Int)<(n31:Int)) then
 vIdx v28 x5 2 fun p37=>
 ldI .i64 h_3 p37 fun x38_0=>
 ldI .i64 h_3 (p37.add 1) fun x38_1=>
 vIdx v28 (ε.wrap (x5-1)) 2 fun p42=>
 ldI .i64 h_3 p42 fun x43_0=>
 ldI .i64 h_3 (p42.add 1) fun x43_1=>
 bif !((x38_0:Int)==x43_0&&(x38_1:Int)==x43_1) then
 vIdx v28 x5 2 fun p49=>
 ldI .i64 h_3 p49 fun x50_0=>
 ldI .i64 h_3 (p49.add 1) fun x50_1=>
 vIdx v0 x3_2 2 fun p51=>
 vStore1 h_3 p51 (.int .i64 x50_0) fun h_4=>
 vStore1 h_4 (p51.add 1) (.int .i64 x50_1) fun h_5=>
 ∃ m_2,m_2<n_3/\J_2 m_2 (ε.wrap (x3_2+1)) (ε.wrap (x5+1)) h_5
 else
 ∃ m_2,m_2<n_3/\J_2 m_2 x3_2 (ε.wrap (x5+1)) h_3
 else
 vSliceS v0 2 (some (.int .i64 x3_2)) none none fun v56=>
 vClear [.int .i64 0,.int .i64 0] v56 h_3 fun _ h_6=>
 vSliceS v0 2 none (some (.int .i64 x3_2)) none fun v59=>
 R v59 h_6
 else
 ∃ m,m<n/\J m (ε.wrap (x3+1)) h_2
 else
 R v0 h_2
theorem ZDv {R:Value->Heap->Prop} {v0:Value} {h:Heap} (a:ZDi R v0 h):CallsH P 290 #[v0] h R:=
 Zhx ctxOk ⟨[(4,[(3,.i .i64)]),(9,[(3,.i .i64),(5,.i .i64)])],[],[],[]⟩ Tryz.func290 [v0] h R κ (Eq.mpr κ a)
abbrev ZHc (R:Value->Heap->Prop) (v0:Value) (g1:Nat) (cap1:List Value) (h:Heap):Prop:=
 vLen v0 fun n9=>
 bif decide (((n9:Int):Int)<2) then
 R v0 h
 else
 ∃ J:Nat->Int->Heap->Prop,(∃ n_2,J n_2 1 h)/\∀ (n:Nat) (_:Env) (x5:Int) (h_2:Heap),J n x5 h_2 ->
 vLen v0 fun n14=>
 bif decide ((x5:Int)<(n14:Int)) then
 vIdx v0 x5 1 fun p21=>
 ldV h_2 p21 fun v22=>
 vIdx v0 (ε.wrap (x5-1)) 1 fun p26=>
 ldV h_2 p26 fun v27=>
 vOkfU ctx g1 fun _=>
 CallsH P g1 (([v22,v27]:List Value)++cap1).toArray h_2 fun r28 h_3=>∃ (b28:Bool),r28=.bool b28 /\
 bif b28 then
 vSliceS v0 1 (some (.int .i64 x5)) none none fun v31=>
 ∃ J_2:Nat->Int->Int->Heap->Prop,(∃ n_4,J_2 n_4 x5 1 h_3)/\∀ (n_3:Nat) (_:Env) (x5_2:Int) (x7:Int) (h_4:Heap),J_2 n_3 x5_2 x7 h_4 ->
 vLen v31 fun n34=>
 bif decide ((x7:Int)<(n34:Int)) then
 vIdx v31 x7 1 fun p41=>
 ldV h_4 p41 fun v42=>
 vIdx v31 (ε.wrap (x7-1)) 1 fun p46=>
 ldV h_4 p46 fun v47=>
 vOkfU ctx g1 fun _=>
 CallsH P g1 (([v42,v47]:List Value)++cap1).toArray h_4 fun r48 h_5=>∃ (b48:Bool),r48=.bool b48 /\
 bif !b48 then
 vIdx v31 x7 1 fun p54=>
 ldV h_5 p54 fun v55=>
 vIdx v0 x5_2 1 fun p56=>
 vStore1 h_5 p56 v55 fun h_6=>
 ∃ m_2,m_2<n_3/\J_2 m_2 (ε.wrap (x5_2+1)) (ε.wrap (x7+1)) h_6
 else
 ∃ m_2,m_2<n_3/\J_2 m_2 x5_2 (ε.wrap (x7+1)) h_5
 else
 vSliceS v0 1 (some (.int .i64 x5_2)) none none fun v61=>
 vClear [.slice none 0 0] v61 h_4 fun _ h_7=>
 vSliceS v0 1 none (some (.int .i64 x5_2)) none fun v64=>
 R v64 h_7
 else
 ∃ m,m<n/\J m (ε.wrap (x5+1)) h_3
 else
 R v0 h_2
theorem ZEU {R:Value->Heap->Prop} {v0:Value} {e:Nat} {a:List Value} {h:Heap} (f:ZHc R v0 e a h):CallsH P 323 #[v0,.func (.func e) #[] a.toArray] h R:=
 Zhx ctxOk ⟨[(4,[(5,.i .i64)]),(9,[(5,.i .i64),(7,.i .i64)])],[],[],[]⟩ Tryz.func323 [v0,.func (.func e) #[] a.toArray] h R κ (Eq.mpr κ f)
abbrev ZIh (R:Value->Heap->Prop) (v0:Value) (h:Heap):Prop:=
 vLen v0 fun n7=>
 bif decide (((n7:Int):Int)<2) then
 R v0 h
 else
 ∃ J:Nat->Int->Heap->Prop,(∃ n_2,J n_2 1 h)/\∀ (n:Nat) (_:Env) (x3:Int) (h_2:Heap),J n x3 h_2 ->
 vLen v0 fun n12=>
 bif decide ((x3:Int)<(n12:Int)) then
 vIdx v0 x3 1 fun p18=>
 ldI .i64 h_2 p18 fun x19=>
 vIdx v0 (ε.wrap (x3-1)) 1 fun p23=>
 ldI .i64 h_2 p23 fun x24=>
 bif (x19:Int)==x24 then
 vSliceS v0 1 (some (.int .i64 x3)) none none fun v28=>
 ∃ J_2:Nat->Int->Int->Heap->Prop,(∃ n_4,J_2 n_4 x3 1 h_2)/\∀ (n_3:Nat) (_:Env) (x3_2:Int) (x5:Int) (h_3:Heap),J_2 n_3 x3_2 x5 h_3 ->
 vLen v28 fun n31=>
 bif decide ((x5:Int)<(n31:Int)) then
 vIdx v28 x5 1 fun p37=>
 ldI .i64 h_3 p37 fun x38=>
 vIdx v28 (ε.wrap (x5-1)) 1 fun p42=>
 ldI .i64 h_3 p42 fun x43=>
 bif (x38:Int) !=x43 then
 vIdx v28 x5 1 fun p49=>
 ldI .i64 h_3 p49 fun x50=>
 vIdx v0 x3_2 1 fun p51=>
 vStore1 h_3 p51 (.int .i64 x50) fun h_4=>
 ∃ m_2,m_2<n_3/\J_2 m_2 (ε.wrap (x3_2+1)) (ε.wrap (x5+1)) h_4
 else
 ∃ m_2,m_2<n_3/\J_2 m_2 x3_2 (ε.wrap (x5+1)) h_3
 else
 vSliceS v0 1 (some (.int .i64 x3_2)) none none fun v56=>
 vClear [.int .i64 0] v56 h_3 fun _ h_5=>
 vSliceS v0 1 none (some (.int .i64 x3_2)) none fun v59=>
 R v59 h_5
 else
 ∃ m,m<n/\J m (ε.wrap (x3+1)) h_2
 else
 R v0 h_2
theorem ZyY {R:Value->Heap->Prop} {v0:Value} {h:Heap} (a:ZIh R v0 h):CallsH P 324 #[v0] h R:=
 Zhx ctxOk ⟨[(4,[(3,.i .i64)]),(9,[(3,.i .i64),(5,.i .i64)])],[],[],[]⟩ Tryz.func324 [v0] h R κ (Eq.mpr κ a)
end Go.Proofs.YtahnjnfpjcfklaaGreatDoor
