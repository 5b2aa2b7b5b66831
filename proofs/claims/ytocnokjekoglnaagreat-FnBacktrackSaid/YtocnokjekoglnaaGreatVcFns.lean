import Derived.Test.YtocnokjekoglnaaGreatVcSoundE
import Derived.Test.YtocnokjekoglnaaGreatVcDn
import Derived.Test.YtocnokjekoglnaaGreatPuBase
import Derived.Test.YtocnokjekoglnaaGreatProg
import Derived.KernelRfl
namespace Go.Proofs.YtocnokjekoglnaaGreat
set_option linter.unusedSimpArgs false
open Go Go.Vc Go.Proofs
set_option linter.unusedVariables false
set_option maxRecDepth 100000
noncomputable abbrev P : Program := Tryz.prog
abbrev zw (x : Int) : Int := IntKind.i64.wrap x
abbrev zi (x : Int) : Value := .int .i64 x
abbrev zB (f : FuncId) (a : Array Value) (h : Heap) (K : Bool → Heap → Prop) : Prop := CallsH P f a h fun r h' => ∃ b, r = .bool b ∧ K b h'
abbrev zI (f : FuncId) (a : Array Value) (h : Heap) (K : Int → Heap → Prop) : Prop := CallsH P f a h fun r h' => ∃ x, r = .int .i64 x ∧ K x h'
abbrev zV (f : FuncId) (a : Array Value) (h : Heap) (K : Value → Heap → Prop) : Prop := CallsH P f a h fun r h' => ∃ v, r = v ∧ K v h'
abbrev ZfV : Nat := 11
abbrev Zda : Nat := 12
abbrev ZK : Nat := 36
abbrev ZaT : Nat := 45
abbrev Zcj : Nat := 81
abbrev ZbP : Nat := 82
abbrev ZhC : Nat := 44
abbrev Zbx : Nat := 43
abbrev Zf7 : Nat := 83
abbrev Zbc : Nat := 123
abbrev Zey : Nat := 84
abbrev ZbG : Nat := 46
abbrev Ze0 : Nat := 13
abbrev Zdv : Nat := 31
abbrev ZfR : Nat := 77
abbrev ZbU : Nat := 38
abbrev ZhH : Nat := 73
abbrev Zfc : Nat := 152
abbrev ZcT : Nat := 124
abbrev ZhE : Nat := 148
abbrev Zcm : Nat := 113
abbrev ZgE : Nat := 125
abbrev ZjT : Nat := 121
abbrev ZaY : Nat := 128
abbrev ZhJ : Nat := 176
abbrev ZgQ : Nat := 153
abbrev Zfp : Nat := 133
abbrev ZdT : Nat := 92
abbrev Zfi : Nat := 186
abbrev ZgH : Nat := 177
abbrev ZeK : Nat := 154
abbrev ZdH : Nat := 155
abbrev Zai : Nat := 126
abbrev Zhx : Nat := 85
abbrev ZhB : Nat := 47
abbrev ZfC : Nat := 48
abbrev Zfz : Nat := 14
abbrev ZdC : Nat := 122
abbrev ZeC : Nat := 80
abbrev Zdy : Nat := 42
abbrev Zht : Nat := 119
abbrev Zg7 : Nat := 118
abbrev ZhR : Nat := 75
abbrev ZhK : Nat := 76
abbrev ZbN : Nat := 35
abbrev Zha : Nat := 134
abbrev ZhV : Nat := 135
abbrev Zdc : Nat := 94
abbrev Zdd : Nat := 53
abbrev ZdM : Nat := 91
abbrev Zgj : Nat := 93
abbrev Zeq : Nat := 52
abbrev Zdg : Nat := 55
abbrev ZaA : Nat := 58
abbrev ZdK : Nat := 56
abbrev ZcL : Nat := 86
abbrev ZeV : Nat := 127
abbrev Zhp : Nat := 87
abbrev Zdi : Nat := 57
abbrev ZhI : Nat := 129
abbrev Zap : Nat := 88
abbrev Zc1 : Nat := 49
abbrev ZhG : Nat := 15
abbrev ZjS : Nat := 97
abbrev Zek : Nat := 59
abbrev Zeg : Nat := 50
abbrev ZeW : Nat := 16
abbrev Zed : Nat := 100
abbrev Zfd : Nat := 156
abbrev ZfG : Nat := 130
abbrev Zge : Nat := 131
abbrev ZcU : Nat := 89
abbrev ZdZ : Nat := 136
abbrev Zdb : Nat := 96
abbrev Zgw : Nat := 132
abbrev Ze4 : Nat := 90
abbrev ZhA : Nat := 51
abbrev ZdR : Nat := 17
abbrev ZeU : Nat := 18
abbrev Zho : Nat := 19
abbrev ZgO : Nat := 95
abbrev Zfo : Nat := 54
abbrev Zdn : Nat := 20
abbrev ZeQ : Nat := 21
abbrev ZfY : Nat := 22
abbrev Zgd : Nat := 4
abbrev ZB : Nat := 2
abbrev Ze1 : Nat := 4
abbrev Zy : Nat := 30
abbrev ZD : Nat := 37
abbrev Z2 : Nat := 42
abbrev Zkj : Nat := 87
abbrev ZmY : Nat := 124
abbrev Zm4 : Nat := 128
abbrev ZiB : Nat := 133
def tab : List (Nat × TE) := [(2, ⟨.int .i64, [.i .i64], [.int .i64 0], 8⟩),
 (4, ⟨.bool, [.b], [.bool false], 1⟩),
 (5, ⟨.int .u8, [.i .u8], [.int .u8 0], 1⟩),
 (22, ⟨.slice 5, [.v], [.slice none 0 0], 24⟩),
 (24, ⟨.slice 37, [.v], [.slice none 0 0], 24⟩),
 (30, ⟨.struct [(0, 1, false), (1, 1, false)], [.i .i64, .v], [.int .i64 0, .slice none 0 0], 32⟩),
 (37, ⟨.slice 2, [.v], [.slice none 0 0], 24⟩),
 (42, ⟨.struct [(0, 1, false), (1, 1, false)], [.i .i64, .v], [.int .i64 0, .slice none 0 0], 32⟩),
 (83, ⟨.struct [(0, 1, false), (1, 1, false)], [.i .i64, .b], [.int .i64 0, .bool false], 16⟩),
 (84, ⟨.slice 37, [.v], [.slice none 0 0], 24⟩),
 (85, ⟨.slice 4, [.v], [.slice none 0 0], 24⟩),
 (87, ⟨.struct [(0, 2, true), (2, 1, false), (3, 1, false), (4, 1, false), (5, 1, false), (6, 1, false), (7, 1, false), (8, 1, false), (9, 1, false), (10, 1, false)], [.i .i64, .b, .i .i64, .b, .v, .v, .v, .v, .i .i64, .i .i64, .v], [.int .i64 0, .bool false, .int .i64 0, .bool false, .slice none 0 0, .slice none 0 0, .slice none 0 0, .slice none 0 0, .int .i64 0, .int .i64 0, .slice none 0 0], 168⟩),
 (124, ⟨.ptr, [.p], [.pointer none], 8⟩),
 (128, ⟨.struct [(0, 2, true), (2, 2, true), (4, 1, false), (5, 1, false), (6, 1, false), (7, 1, false), (8, 1, false), (9, 1, false)], [.i .i64, .b, .i .i64, .v, .v, .b, .v, .v, .i .i64, .v], [.int .i64 0, .bool false, .int .i64 0, .slice none 0 0, .slice none 0 0, .bool false, .slice none 0 0, .slice none 0 0, .int .i64 0, .slice none 0 0], 160⟩),
 (133, ⟨.struct [(0, 1, false), (1, 1, false), (2, 1, false), (3, 1, false), (4, 1, false)], [.i .i64, .i .i64, .i .i64, .i .i64, .i .i64], [.int .i64 0, .int .i64 0, .int .i64 0, .int .i64 0, .int .i64 0], 40⟩)]
def rst : List (Nat × RS) := [(0, ⟨true, []⟩),
 (2, ⟨false, [(false, [.i .i64])]⟩),
 (3, ⟨false, [(false, [.i .i64])]⟩),
 (4, ⟨false, [(false, [.b])]⟩),
 (24, ⟨false, [(false, [.v])]⟩),
 (31, ⟨true, [(true, [.i .i64, .v]), (false, [.i .i64])]⟩),
 (33, ⟨true, [(false, [.i .i64]), (false, [.i .i64])]⟩),
 (37, ⟨false, [(false, [.v])]⟩),
 (43, ⟨true, [(true, [.i .i64, .v]), (false, [.i .i64])]⟩),
 (50, ⟨true, [(false, [.v]), (false, [.i .i64])]⟩),
 (63, ⟨true, [(false, [.v]), (false, [.i .i64])]⟩),
 (80, ⟨true, [(false, [.v]), (false, [.i .i64])]⟩),
 (84, ⟨false, [(false, [.v])]⟩),
 (122, ⟨true, [(false, [.v]), (false, [.b])]⟩),
 (125, ⟨true, [(false, [.v]), (false, [.i .i64])]⟩),
 (134, ⟨true, [(true, [.i .i64, .i .i64, .i .i64, .i .i64, .i .i64]), (false, [.b])]⟩),
 (160, ⟨true, [(false, [.i .i64]), (false, [.i .i64]), (false, [.b])]⟩)]
def exs : List Nat := []
noncomputable def ctx : Ctx := ⟨Tryz.prog, tab, rst, 3, 189, exs, []⟩
theorem te2 : TeOk P 2 ⟨.int .i64, [.i .i64], [.int .i64 0], 8⟩ := ⟨by kernel_rfl, by kernel_rfl, by kernel_rfl, by kernel_rfl⟩
theorem te4 : TeOk P 4 ⟨.bool, [.b], [.bool false], 1⟩ := ⟨by kernel_rfl, by kernel_rfl, by kernel_rfl, by kernel_rfl⟩
theorem te5 : TeOk P 5 ⟨.int .u8, [.i .u8], [.int .u8 0], 1⟩ := ⟨by kernel_rfl, by kernel_rfl, by kernel_rfl, by kernel_rfl⟩
theorem te22 : TeOk P 22 ⟨.slice 5, [.v], [.slice none 0 0], 24⟩ := ⟨by kernel_rfl, by kernel_rfl, by kernel_rfl, by kernel_rfl⟩
theorem te24 : TeOk P 24 ⟨.slice 37, [.v], [.slice none 0 0], 24⟩ := ⟨by kernel_rfl, by kernel_rfl, by kernel_rfl, by kernel_rfl⟩
theorem te30 : TeOk P 30 ⟨.struct [(0, 1, false), (1, 1, false)], [.i .i64, .v], [.int .i64 0, .slice none 0 0], 32⟩ := ⟨by kernel_rfl, by kernel_rfl, by kernel_rfl, by kernel_rfl⟩
theorem te37 : TeOk P 37 ⟨.slice 2, [.v], [.slice none 0 0], 24⟩ := ⟨by kernel_rfl, by kernel_rfl, by kernel_rfl, by kernel_rfl⟩
theorem te42 : TeOk P 42 ⟨.struct [(0, 1, false), (1, 1, false)], [.i .i64, .v], [.int .i64 0, .slice none 0 0], 32⟩ := ⟨by kernel_rfl, by kernel_rfl, by kernel_rfl, by kernel_rfl⟩
theorem te83 : TeOk P 83 ⟨.struct [(0, 1, false), (1, 1, false)], [.i .i64, .b], [.int .i64 0, .bool false], 16⟩ := ⟨by kernel_rfl, by kernel_rfl, by kernel_rfl, by kernel_rfl⟩
theorem te84 : TeOk P 84 ⟨.slice 37, [.v], [.slice none 0 0], 24⟩ := ⟨by kernel_rfl, by kernel_rfl, by kernel_rfl, by kernel_rfl⟩
theorem te85 : TeOk P 85 ⟨.slice 4, [.v], [.slice none 0 0], 24⟩ := ⟨by kernel_rfl, by kernel_rfl, by kernel_rfl, by kernel_rfl⟩
theorem te87 : TeOk P 87 ⟨.struct [(0, 2, true), (2, 1, false), (3, 1, false), (4, 1, false), (5, 1, false), (6, 1, false), (7, 1, false), (8, 1, false), (9, 1, false), (10, 1, false)], [.i .i64, .b, .i .i64, .b, .v, .v, .v, .v, .i .i64, .i .i64, .v], [.int .i64 0, .bool false, .int .i64 0, .bool false, .slice none 0 0, .slice none 0 0, .slice none 0 0, .slice none 0 0, .int .i64 0, .int .i64 0, .slice none 0 0], 168⟩ := ⟨by kernel_rfl, by kernel_rfl, by kernel_rfl, by kernel_rfl⟩
theorem te124 : TeOk P 124 ⟨.ptr, [.p], [.pointer none], 8⟩ := ⟨by kernel_rfl, by kernel_rfl, by kernel_rfl, by kernel_rfl⟩
theorem te128 : TeOk P 128 ⟨.struct [(0, 2, true), (2, 2, true), (4, 1, false), (5, 1, false), (6, 1, false), (7, 1, false), (8, 1, false), (9, 1, false)], [.i .i64, .b, .i .i64, .v, .v, .b, .v, .v, .i .i64, .v], [.int .i64 0, .bool false, .int .i64 0, .slice none 0 0, .slice none 0 0, .bool false, .slice none 0 0, .slice none 0 0, .int .i64 0, .slice none 0 0], 160⟩ := ⟨by kernel_rfl, by kernel_rfl, by kernel_rfl, by kernel_rfl⟩
theorem te133 : TeOk P 133 ⟨.struct [(0, 1, false), (1, 1, false), (2, 1, false), (3, 1, false), (4, 1, false)], [.i .i64, .i .i64, .i .i64, .i .i64, .i .i64], [.int .i64 0, .int .i64 0, .int .i64 0, .int .i64 0, .int .i64 0], 40⟩ := ⟨by kernel_rfl, by kernel_rfl, by kernel_rfl, by kernel_rfl⟩
theorem tabOk_all : ∀ p ∈ tab, TeOk P p.1 p.2 := by
 unfold tab
 simp only [List.forall_mem_cons]
 exact ⟨te2, te4, te5, te22, te24, te30, te37, te42, te83, te84, te85, te87, te124, te128, te133, fun p hp => by cases hp⟩
theorem tab_mem : ∀ (l : List (Nat × TE)) (t : Nat) (te : TE), tabGet l t = some te → (t, te) ∈ l
 | [], t, te, h => by cases h
 | (k, x) :: r, t, te, h => by
  unfold tabGet at h
  cases hb : Nat.beq k t with
  | true => rw [hb] at h; have := Nat.eq_of_beq_eq_true hb; subst this; cases h; exact List.mem_cons_self ..
  | false => rw [hb] at h; exact List.mem_cons_of_mem _ (tab_mem r t te h)
noncomputable def fnB (f : Nat) : Bool := match P.funcs[f]? with | some fn => fn.body.isSome && !(fn.name == "runtime.NumGoroutine") | none => false
theorem fns_all : (List.range' 3 186).all (fun f => inL exs f || fnB f) = true := by kernel_rfl
theorem ctxOk : CtxOk ctx where
 tab := fun t te h => tabOk_all (t, te) (tab_mem _ t te h)
 fns := fun f hf => by
  simp only [Ctx.okf, Bool.and_eq_true, Bool.not_eq_true'] at hf
  have h1 : 3 ≤ f := Nat.le_of_ble_eq_true hf.1.1
  have h2 : f < 189 := Nat.blt_eq.mp hf.1.2
  have h := List.all_eq_true.1 fns_all f (List.mem_range'_1.2 ⟨h1, by omega⟩)
  have h3 : inL exs f = false := hf.2
  simp only [h3, Bool.false_or] at h
  unfold fnB at h
  split at h
  ·rename_i fn hfn; simp only [Bool.and_eq_true, Bool.not_eq_true'] at h; exact ⟨fn, hfn, h.1, h.2⟩
  ·cases h
 mixed := by kernel_rfl
 ovs := fun f hf => by cases hf
theorem zv {F : Prop} {f : FuncId} {fn : Func} {args : List Value} {h : Heap} {R : Value → Heap → Prop} (A : Ann) (hf : P.funcs[f]? = some fn) (hv : F)
  (hn : ((match fn.body with | some c => cOk fn.ntmps c | none => false) && Nat.ble args.length fn.ntmps) = true := by kernel_rfl) (e : vcFn ctx A fn args h R = F := by kernel_rfl) : CallsH P f args.toArray h R :=
 ZoX ctxOk A hf args h R hn (e ▸ hv)
variable {R : Value → Heap → Prop} {h : Heap}
theorem ZpQ {v0 v1 : Value} (hv :
 vLen v0 fun n6 =>
 bif decide ((n6 : Int) > 1048576) then
 R (.bool true) h
 else
 vLen v1 fun n10 =>
 R (.bool (decide ((n10 : Int) > 1048576))) h) : CallsH P ZfV #[v0, v1] h R := zv ⟨[], [], []⟩ Tryz.func11 hv
theorem Zma {v0 : Value} {x1 x2 : Int} (hv :
 ∃ J : Heap → Prop, (
 bif decide (x2 ≤ 1) then
 R (zi 0) h
 else
 vLen v0 fun n12 =>
 bif decide (x1 ≥ (n12 : Int)) then
 R (zi 0) h
 else
 J h
 ) ∧ ∀ (_ : Env) (h_2 : Heap), J h_2 →
 vIdx v0 x1 1 fun p17 =>
 ldI .u8 h_2 p17 fun x18 =>
 x2 ≠ 0 ∧
 R (zi (Int.tmod (zw x18) x2)) h_2) : CallsH P Zda #[v0, zi x1, zi x2] h R := zv ⟨[], [(3, [])], []⟩ Tryz.func12 hv
theorem ZkP {x0 x1 x2 : Int} (hv :
 bif decide (x0 ≥ x1) then
 R (.bool (decide (x0 ≤ x2))) h
 else
 R (.bool false) h) : CallsH P ZK #[zi x0, zi x1, zi x2] h R := zv ⟨[], [], []⟩ Tryz.func36 hv
theorem ZlP {x0 x1 : Int} (hv :
 ∃ J : Heap → Prop, (
 zB ZK #[zi x0, zi 0, zi 32] h fun b8 h_2 =>
 bif !b8 then
 R (zi 0) h_2
 else
 zB ZK #[zi x1, zi 0, zi x0] h_2 fun b13 h_3 =>
 bif !b13 then
 R (zi 0) h_3
 else
 J h_3
 ) ∧ ∀ (_ : Env) (h_4 : Heap), J h_4 →
 lq2 (1 : Int) (1 : Int) h_4 fun J_2 n x5 x6 h_5 =>
 bif decide (x6 ≤ x1) then
 x6 ≠ 0 ∧
 ag2 J_2 n (zw (Int.tdiv (zw (x5 * (zw ((zw (x0 - x1)) + x6)))) x6)) (zw (x6 + 1)) h_5
 else
 R (zi x5) h_5) : CallsH P ZaT #[zi x0, zi x1] h R := zv ⟨[(5, [(5, .i .i64), (6, .i .i64)])], [(3, [])], []⟩ Tryz.func45 hv
theorem ZnA {v0 : Value} {x1 : Int} (hv :
 vLen v0 fun n9 =>
 lq2 ((-1) : Int) (0 : Int) h fun J n x5 x10 h_2 =>
 bif decide (x10 < (n9 : Int)) then
 vIdx v0 x10 1 fun p12 =>
 ldI .i64 h_2 p12 fun x13 =>
 bif decide (x13 ≤ x5) then
 R (.bool false) h_2
 else
 bif decide (x13 ≥ x1) then
 R (.bool false) h_2
 else
 ag2 J n x13 (zw (x10 + 1)) h_2
 else
 zB ZK #[zi x1, zi 0, zi 32] h_2 fun b25 h_3 =>
 R (.bool b25) h_3) : CallsH P Zcj #[v0, zi x1] h R := zv ⟨[(3, [(5, .i .i64), (10, .i .i64)])], [], []⟩ Tryz.func81 hv
theorem Zkl {v0 : Value} (hv :
 vLen v0 fun n4 =>
 R (zi (n4 : Int)) h) : CallsH P ZbP #[v0] h R := zv ⟨[], [], []⟩ Tryz.func82 hv
theorem Zl8 {x0 : Int} {v1 : Value} (hv :
 zB Zcj #[v1, zi x0] h fun b13 h_2 =>
 bif !b13 then
 R (.tuple #[zi 0, zi 1]) h_2
 else
 vLen v1 fun n16 =>
 lq3 (0 : Int) (0 : Int) (0 : Int) h_2 fun J n x6 x7 x17 h_3 =>
 bif decide (x17 < (n16 : Int)) then
 vIdx v1 x17 1 fun p20 =>
 ldI .i64 h_3 p20 fun x21 =>
 lq2 x6 x7 h_3 fun J_2 n_3 x6_2 x10 h_4 =>
 bif decide (x10 < x21) then
 zI ZbP #[v1] h_4 fun x34 h_5 =>
 zI ZaT #[zi (zw ((zw (x0 - 1)) - x10)), zi (zw ((zw (x34 - 1)) - x17))] h_5 fun x38 h_6 =>
 ag2 J_2 n_3 (zw (x6_2 + x38)) (zw (x10 + 1)) h_6
 else
 ag3 J n x6_2 (zw (x21 + 1)) (zw (x17 + 1)) h_4
 else
 R (.tuple #[zi x6, zi 0]) h_3) : CallsH P ZhC #[zi x0, v1] h R := zv ⟨[(5, [(6, .i .i64), (7, .i .i64), (17, .i .i64)]), (8, [(6, .i .i64), (10, .i .i64)])], [], []⟩ Tryz.func44 hv
theorem ZmD {x0 x1 : Int} {p2 : Addr} (hv :
 ldI .i64 h p2 fun x9 =>
 vNewS h (.cells #[zi x0, zi x1] ZB) 2 fun v12 h_2 =>
 CallsH P ZhC #[zi x9, v12] h_2 fun r13 h_3 => ∃ x13_0, ∃ x13_1, r13 = .tuple #[zi x13_0, zi x13_1] ∧
 R (zi x13_0) h_3) : CallsH P Zbx #[zi x0, zi x1, .pointer (some p2)] h R := zv ⟨[], [], []⟩ Tryz.func43 hv
theorem Zl5 {x0 : Int} (hv :
 vMake 8 [zi 0] ZB x0 x0 h fun v6 h_2 =>
 vLen v6 fun n8 =>
 lq1 (0 : Int) h_2 fun J n x9 h_3 =>
 bif decide (x9 < (n8 : Int)) then
 vIdx v6 x9 1 fun p15 =>
 vStore1 h_3 p15 (zi x9) fun h_4 =>
 ag1 J n (zw (x9 + 1)) h_4
 else
 R v6 h_3) : CallsH P Zf7 #[zi x0] h R := zv ⟨[(3, [(9, .i .i64)])], [], []⟩ Tryz.func83 hv
theorem Zpp {v0 : Value} (hv :
 vNilS false v0 fun b4 =>
 bif b4 then
 R (.slice none 0 0) h
 else
 vNewS h (.cells #[] ZB) 0 fun v5 h_2 =>
 vAppend 1 8 [zi 0] ZB v5 v0 h_2 fun v7 h_3 =>
 R v7 h_3) : CallsH P Zbc #[v0] h R := zv ⟨[], [], []⟩ Tryz.func123 hv
theorem Zk9 {x0 : Int} {v1 : Value} (hv :
 zB Zcj #[v1, zi x0] h fun b12 h_2 =>
 bif !b12 then
 R (.tuple #[(.slice none 0 0), .bool false]) h_2
 else
 zI ZbP #[v1] h_2 fun x15 h_3 =>
 lq1 (zw (x15 - 1)) h_3 fun J n x7 h_4 =>
 bif decide (x7 ≥ 0) then
 vIdx v1 x7 1 fun p24 =>
 ldI .i64 h_4 p24 fun x25 =>
 bif x25 == (zw ((zw (x0 - x15)) + x7)) then
 ag1 J n (zw (x7 - 1)) h_4
 else
 zV Zbc #[v1] h_4 fun v33 h_5 =>
 lq1 x7 h_5 fun J_2 n_3 x9 h_6 =>
 bif decide (x9 < x15) then
 vIdx v1 x7 1 fun p44 =>
 ldI .i64 h_6 p44 fun x45 =>
 vIdx v33 x9 1 fun p51 =>
 vStore1 h_6 p51 (zi (zw ((zw ((zw (x45 + 1)) + x9)) - x7))) fun h_7 =>
 ag1 J_2 n_3 (zw (x9 + 1)) h_7
 else
 R (.tuple #[v33, .bool true]) h_6
 else
 R (.tuple #[(.slice none 0 0), .bool false]) h_4) : CallsH P Zey #[zi x0, v1] h R := zv ⟨[(5, [(7, .i .i64)]), (10, [(9, .i .i64)])], [], []⟩ Tryz.func84 hv
theorem Zj7 {x0 x1 : Int} (hv :
 zV Zf7 #[zi x1] h fun v9 h_2 =>
 lq3 ((.slice none 0 0) : Value) v9 ((decide (x1 ≤ x0)) : Bool) h_2 fun J n v5 v6 b7 h_3 =>
 bif b7 then
 vOne v6 fun _ =>
 vNewS h_3 (.cells #[v6] ZD) 1 fun v16 h_4 =>
 vAppend 1 24 [.slice none 0 0] ZD v5 v16 h_4 fun v17 h_5 =>
 CallsH P Zey #[zi x0, v6] h_5 fun r21 h_6 => ∃ (v21_0 : Value), ∃ (b21_1 : Bool), r21 = .tuple #[v21_0, .bool b21_1] ∧
 ag3 J n v17 v21_0 b21_1 h_6
 else
 R v5 h_3) : CallsH P ZbG #[zi x0, zi x1] h R := zv ⟨[(3, [(5, .v), (6, .v), (7, .b)])], [], []⟩ Tryz.func46 hv
theorem Zo7 {x0 : Int} (hv :
 vNew h (.cells #[zi x0] ZB) fun p1 h_2 =>
 vNew h_2 (.cells #[zi 0, .slice none 0 0] Z2) fun p2 h_3 =>
 ldI .i64 h_3 p1 fun x8 =>
 zB ZK #[zi x8, zi 3, zi 11] h_3 fun b9 h_4 =>
 bif !b9 then
 vStore1 h_4 p2 (zi 0) fun h_5 =>
 vStore1 h_5 (p2.add 1) (.slice none 0 0) fun h_6 =>
 ldI .i64 h_6 p2 fun xres0_0 =>
 ldV h_6 (p2.add 1) fun vres0_1 =>
 R (.tuple #[.agg #[zi xres0_0, vres0_1], zi 2]) h_6
 else
 ldI .i64 h_4 p1 fun x13 =>
 zI ZaT #[zi x13, zi 2] h_4 fun x14 h_7 =>
 vNew h_7 (.cells #[zi 0, .slice none 0 0] Z2) fun p5 h_8 =>
 vStore1 h_8 p5 (zi x14) fun h_9 =>
 vStore1 h_9 (p5.add 1) (.slice none 0 0) fun h_10 =>
 ldI .i64 h_10 p1 fun x16 =>
 zV ZbG #[zi x16, zi 3] h_10 fun v17 h_11 =>
 vLen v17 fun n18 =>
 lq1 (0 : Int) h_11 fun J n x19 h_12 =>
 bif decide (x19 < (n18 : Int)) then
 vIdx v17 x19 1 fun p21 =>
 ldV h_12 p21 fun v22 =>
 ∃ B : Nat → Prop,
 vIdx v22 0 1 fun p27 =>
 ldI .i64 h_12 p27 fun x28 =>
 vIdx v22 1 1 fun p30 =>
 ldI .i64 h_12 p30 fun x31 =>
 zI Zbx #[zi x28, zi x31, .pointer (some p1)] h_12 fun x32 h_13 =>
 ExtBut B h_12 h_13 ∧
 vIdx v22 0 1 fun p35 =>
 ldI .i64 (hmask B h_12) p35 fun x36 =>
 vIdx v22 2 1 fun p38 =>
 ldI .i64 (hmask B h_12) p38 fun x39 =>
 zI Zbx #[zi x36, zi x39, .pointer (some p1)] h_13 fun x40 h_14 =>
 ExtBut B h_12 h_14 ∧
 vIdx v22 1 1 fun p43 =>
 ldI .i64 (hmask B h_12) p43 fun x44 =>
 vIdx v22 2 1 fun p46 =>
 ldI .i64 (hmask B h_12) p46 fun x47 =>
 zI Zbx #[zi x44, zi x47, .pointer (some p1)] h_14 fun x48 h_15 =>
 ExtBut B h_12 h_15 ∧
 vNewS h_15 (.cells #[zi x32, zi x40, zi x48] ZB) 3 fun v49 h_16 =>
 ExtBut B h_12 h_16 ∧
 vOne v49 fun _ =>
 vNewS h_16 (.cells #[v49] ZD) 1 fun v50 h_17 =>
 ExtBut B h_12 h_17 ∧
 ldV (hmask B h_12) (p5.add 1) fun v24 =>
 vAppend 1 24 [.slice none 0 0] ZD v24 v50 h_17 fun v51 h_18 =>
 vStore1 h_18 (p5.add 1) v51 fun h_19 =>
 ag1 J n (zw (x19 + 1)) h_19
 else
 ldI .i64 h_12 p5 fun x54_0 =>
 ldV h_12 (p5.add 1) fun v54_1 =>
 vStore1 h_12 p2 (zi x54_0) fun h_20 =>
 vStore1 h_20 (p2.add 1) v54_1 fun h_21 =>
 ldI .i64 h_21 p2 fun xres0_0_2 =>
 ldV h_21 (p2.add 1) fun vres0_1_2 =>
 R (.tuple #[.agg #[zi xres0_0_2, vres0_1_2], zi 0]) h_21) : CallsH P Ze0 #[zi x0] h R := zv ⟨[(6, [(19, .i .i64)])], [], []⟩ Tryz.func13 hv
theorem Zn0 {x0 : Int} (hv :
 zB ZK #[zi x0, zi 1, zi 20000] h fun b4 h_2 =>
 R (.bool b4) h_2) : CallsH P Zdv #[zi x0] h R := zv ⟨[], [], []⟩ Tryz.func31 hv
theorem Zkh {v0 : Value} {g1 : Nat} {cap1 : List Value} (hv :
 vLen v0 fun n7 =>
 lq1 (0 : Int) h fun J n x8 h_2 =>
 bif decide (x8 < (n7 : Int)) then
 vIdx v0 x8 1 fun p14 =>
 ldV h_2 p14 fun v15 =>
 vOkf ctx g1 fun _ =>
 CallsH P g1 (([v15] : List Value) ++ cap1).toArray h_2 fun r16 h_3 => ∃ (b16 : Bool), r16 = .bool b16 ∧
 bif b16 then
 R (zi x8) h_3
 else
 ag1 J n (zw (x8 + 1)) h_3
 else
 R (zi (-1)) h_2) : CallsH P ZfR #[v0, .func (.func g1) #[] cap1.toArray] h R := zv ⟨[(2, [(8, .i .i64)])], [], []⟩ Tryz.func77 hv
theorem ZoC {v0 : Value} {g1 : Nat} {cap1 : List Value} (hv :
 zI ZfR #[v0, .func (.func g1) #[] cap1.toArray] h fun x7 h_2 =>
 R (.bool (decide (x7 ≥ 0))) h_2) : CallsH P ZbU #[v0, .func (.func g1) #[] cap1.toArray] h R := zv ⟨[], [], []⟩ Tryz.func38 hv
theorem Zki {v0 : Value} {x1 : Int} (hv :
 vLen v0 fun n9 =>
 lq2 ((-1) : Int) (0 : Int) h fun J n x5 x10 h_2 =>
 bif decide (x10 < (n9 : Int)) then
 vIdx v0 x10 1 fun p12 =>
 ldI .i64 h_2 p12 fun x13 =>
 zB ZK #[zi x13, zi (zw (x5 + 1)), zi (zw (x1 - 1))] h_2 fun b19 h_3 =>
 bif !b19 then
 R (.bool false) h_3
 else
 ag2 J n x13 (zw (x10 + 1)) h_3
 else
 R (.bool true) h_2) : CallsH P ZhH #[v0, zi x1] h R := zv ⟨[(3, [(5, .i .i64), (10, .i .i64)])], [], []⟩ Tryz.func73 hv
theorem Zoo {v0 : Value} {p1 : Addr} (hv :
 vLen v0 fun n5 =>
 bif (n5 : Int) == 0 then
 R (.bool true) h
 else
 ldI .i64 h p1 fun x10 =>
 zB ZhH #[v0, zi x10] h fun b11 h_2 =>
 R (.bool (!b11)) h_2) : CallsH P Zfc #[v0, .pointer (some p1)] h R := zv ⟨[], [], []⟩ Tryz.func152 hv
theorem ZnO {x0_0 : Int} {v0_1 : Value} (hv :
 vNew h (.cells #[zi x0_0, v0_1] Z2) fun p1 h_2 =>
 ∃ J : Heap → Prop, (
 ldI .i64 h_2 p1 fun x4 =>
 zB ZK #[zi x4, zi 1, zi 64] h_2 fun b5 h_3 =>
 bif !b5 then
 R (.bool false) h_3
 else
 ldV h_3 (p1.add 1) fun v9 =>
 vLen v9 fun n10 =>
 bif decide ((n10 : Int) > 256) then
 R (.bool false) h_3
 else
 J h_3
 ) ∧ ∀ (_ : Env) (h_4 : Heap), J h_4 →
 ldV h_4 (p1.add 1) fun v14 =>
 zB ZbU #[v14, .func (.func Zfc) #[] #[.pointer (some p1)]] h_4 fun b16 h_5 =>
 R (.bool (!b16)) h_5) : CallsH P ZcT #[.agg #[zi x0_0, v0_1]] h R := zv ⟨[], [(3, [])], []⟩ Tryz.func124 hv
theorem Zou {v0 : Value} {x1 : Int} (hv :
 vLen v0 fun n7 =>
 lq1 (0 : Int) h fun J n x8 h_2 =>
 bif decide (x8 < (n7 : Int)) then
 vIdx v0 x8 1 fun p14 =>
 ldI .i64 h_2 p14 fun x15 =>
 bif x1 == x15 then
 R (zi x8) h_2
 else
 ag1 J n (zw (x8 + 1)) h_2
 else
 R (zi (-1)) h_2) : CallsH P ZhE #[v0, zi x1] h R := zv ⟨[(2, [(8, .i .i64)])], [], []⟩ Tryz.func148 hv
theorem ZlX {v0 : Value} {x1 : Int} (hv :
 zI ZhE #[v0, zi x1] h fun x7 h_2 =>
 R (.bool (decide (x7 ≥ 0))) h_2) : CallsH P Zcm #[v0, zi x1] h R := zv ⟨[], [], []⟩ Tryz.func113 hv
theorem Zoy {x0_0 : Int} {v0_1 : Value} {x1 : Int} (hv :
 vNew h (.cells #[zi x0_0, v0_1] Z2) fun p2 h_2 =>
 ldI .i64 h_2 p2 fun x9_0 =>
 ldV h_2 (p2.add 1) fun v9_1 =>
 zB ZcT #[.agg #[zi x9_0, v9_1]] h_2 fun b10 h_3 =>
 bif !b10 then
 R (.tuple #[(.slice none 0 0), zi 1]) h_3
 else
 ldI .i64 h_3 p2 fun x14 =>
 zB ZK #[zi x1, zi 0, zi (zw (x14 - 1))] h_3 fun b16 h_4 =>
 bif !b16 then
 R (.tuple #[(.slice none 0 0), zi 2]) h_4
 else
 ldV h_4 (p2.add 1) fun v19 =>
 vLen v19 fun n20 =>
 lq2 ((.slice none 0 0) : Value) (0 : Int) h_4 fun J n v6 x21 h_5 =>
 bif decide (x21 < (n20 : Int)) then
 vIdx v19 x21 1 fun p24 =>
 ldV h_5 p24 fun v25 =>
 zB Zcm #[v25, zi x1] h_5 fun b28 h_6 =>
 bif b28 then
 vNewS h_6 (.cells #[zi x21] ZB) 1 fun v31 h_7 =>
 vAppend 1 8 [zi 0] ZB v6 v31 h_7 fun v32 h_8 =>
 ag2 J n v32 (zw (x21 + 1)) h_8
 else
 ag2 J n v6 (zw (x21 + 1)) h_6
 else
 R (.tuple #[v6, zi 0]) h_5) : CallsH P ZgE #[.agg #[zi x0_0, v0_1], zi x1] h R := zv ⟨[(7, [(6, .v), (21, .i .i64)])], [], []⟩ Tryz.func125 hv
theorem Zln {p0 : Addr} (hv :
 ldI .i64 h p0 fun x6 =>
 bif x6 == 0 then
 vStore1 h (p0.add 1) (.bool true) fun h_2 =>
 R (.bool false) h_2
 else
 ldI .i64 h p0 fun x14 =>
 vStore1 h p0 (zi (zw (x14 - 1))) fun h_3 =>
 R (.bool true) h_3) : CallsH P ZaY #[.pointer (some p0)] h R := zv ⟨[], [], []⟩ Tryz.func128 hv
theorem Zlj {v0 : Value} {b1 : Bool} (hv :
 vLen v0 fun n7 =>
 lq1 (0 : Int) h fun J n x8 h_2 =>
 bif decide (x8 < (n7 : Int)) then
 vIdx v0 x8 1 fun p14 =>
 ldB h_2 p14 fun b15 =>
 bif b1 == b15 then
 R (zi x8) h_2
 else
 ag1 J n (zw (x8 + 1)) h_2
 else
 R (zi (-1)) h_2) : CallsH P ZhJ #[v0, .bool b1] h R := zv ⟨[(2, [(8, .i .i64)])], [], []⟩ Tryz.func176 hv
theorem Zmz {v0 : Value} {b1 : Bool} (hv :
 zI ZhJ #[v0, .bool b1] h fun x7 h_2 =>
 R (.bool (decide (x7 ≥ 0))) h_2) : CallsH P ZgQ #[v0, .bool b1] h R := zv ⟨[], [], []⟩ Tryz.func153 hv
theorem ZmN {v0 : Value} {g1 : Nat} {cap1 : List Value} (hv :
 vLen v0 fun n7 =>
 lq1 (0 : Int) h fun J n x8 h_2 =>
 bif decide (x8 < (n7 : Int)) then
 vIdx v0 x8 1 fun p14 =>
 ldI .i64 h_2 p14 fun x15 =>
 vOkf ctx g1 fun _ =>
 CallsH P g1 (([zi x15] : List Value) ++ cap1).toArray h_2 fun r16 h_3 => ∃ (b16 : Bool), r16 = .bool b16 ∧
 bif b16 then
 R (zi x8) h_3
 else
 ag1 J n (zw (x8 + 1)) h_3
 else
 R (zi (-1)) h_2) : CallsH P Zfp #[v0, .func (.func g1) #[] cap1.toArray] h R := zv ⟨[(2, [(8, .i .i64)])], [], []⟩ Tryz.func133 hv
theorem Zj5 {v0 : Value} {g1 : Nat} {cap1 : List Value} (hv :
 zI Zfp #[v0, .func (.func g1) #[] cap1.toArray] h fun x7 h_2 =>
 R (.bool (decide (x7 ≥ 0))) h_2) : CallsH P ZdT #[v0, .func (.func g1) #[] cap1.toArray] h R := zv ⟨[], [], []⟩ Tryz.func92 hv
theorem ZpH {x0 : Int} {p1 : Addr} (hv :
 ldP h p1 fun p4 =>
 ldV h (p4.add 6) fun v7 =>
 vIdx v7 x0 1 fun p9 =>
 ldB h p9 fun b10 =>
 R (.bool b10) h) : CallsH P Zfi #[zi x0, .pointer (some p1)] h R := zv ⟨[], [], []⟩ Tryz.func186 hv
theorem Zk6 {p0 : Addr} {x1 : Int} (hv :
 vNew h (.cells #[.pointer (some p0)] ZmY) fun p2 h_2 =>
 ldP h_2 p2 fun p5 =>
 ldV h_2 ((p5.add 2).add 1) fun v9 =>
 vIdx v9 x1 1 fun p11 =>
 ldV h_2 p11 fun v12 =>
 zB ZdT #[v12, .func (.func Zfi) #[] #[.pointer (some p2)]] h_2 fun b14 h_3 =>
 R (.bool (!b14)) h_3) : CallsH P ZgH #[.pointer (some p0), zi x1] h R := zv ⟨[], [], []⟩ Tryz.func177 hv
theorem Zoz {p0 : Addr} (hv :
 ldV h (p0.add 6) fun v13 =>
 vLen v13 fun n14 =>
 lq3 ((.slice none 0 0) : Value) false (0 : Int) h fun J n v3 b4 x15 h_2 =>
 bif decide (x15 < (n14 : Int)) then
 vIdx v13 x15 1 fun p18 =>
 ldB h_2 p18 fun b19 =>
 bif b19 then
 ag3 J n v3 b4 (zw (x15 + 1)) h_2
 else
 ldV h_2 (p0.add 4) fun v24 =>
 vIdx v24 x15 1 fun p26 =>
 ldV h_2 p26 fun v27 =>
 vLen v27 fun n28 =>
 lq2 ((.slice none 0 0) : Value) (0 : Int) h_2 fun J_2 n_3 v7 x29 h_3 =>
 bif decide (x29 < (n28 : Int)) then
 vIdx v27 x29 1 fun p31 =>
 ldI .i64 h_3 p31 fun x32 =>
 zB ZgH #[.pointer (some p0), zi x32] h_3 fun b35 h_4 =>
 bif b35 then
 vNewS h_4 (.cells #[zi x32] ZB) 1 fun v38 h_5 =>
 vAppend 1 8 [zi 0] ZB v7 v38 h_5 fun v39 h_6 =>
 ag2 J_2 n_3 v39 (zw (x29 + 1)) h_6
 else
 ag2 J_2 n_3 v7 (zw (x29 + 1)) h_4
 else
 bif !b4 then
 ag3 J n v7 true (zw (x15 + 1)) h_3
 else
 vLen v7 fun n45 =>
 vLen v3 fun n47 =>
 bif decide ((n45 : Int) < (n47 : Int)) then
 ag3 J n v7 true (zw (x15 + 1)) h_3
 else
 ag3 J n v3 b4 (zw (x15 + 1)) h_3
 else
 R v3 h_2) : CallsH P ZeK #[.pointer (some p0)] h R := zv ⟨[(4, [(3, .v), (4, .b), (15, .i .i64)]), (9, [(7, .v), (29, .i .i64)])], [], []⟩ Tryz.func154 hv
theorem ZmU {p0 : Addr} {x1 : Int} {b2 : Bool} (hv :
 ldV h ((p0.add 2).add 1) fun v12 =>
 vIdx v12 x1 1 fun p14 =>
 ldV h p14 fun v15 =>
 vLen v15 fun n16 =>
 lq1 (0 : Int) h fun J n x17 h_2 =>
 bif decide (x17 < (n16 : Int)) then
 vIdx v15 x17 1 fun p19 =>
 ldI .i64 h_2 p19 fun x20 =>
 ldV h_2 (p0.add 6) fun v24 =>
 vIdx v24 x20 1 fun p27 =>
 vStore1 h_2 p27 (.bool b2) fun h_3 =>
 ag1 J n (zw (x17 + 1)) h_3
 else
 R (.tuple #[]) h_2) : CallsH P ZdH #[.pointer (some p0), zi x1, .bool b2] h R := zv ⟨[(1, [(17, .i .i64)])], [], []⟩ Tryz.func155 hv
theorem ZoW {p0 : Addr} (hv :
 ∃ J : Heap → Prop, (
 ldB h (p0.add 1) fun b9 =>
 bif b9 then
 R (.tuple #[]) h
 else
 ldB h (p0.add 5) fun b14 =>
 bif b14 then
 ldV h (p0.add 9) fun v19 =>
 vLen v19 fun n20 =>
 bif decide ((n20 : Int) > 0) then
 R (.tuple #[]) h
 else
 zB ZaY #[.pointer (some p0)] h fun b28 h_2 =>
 bif !b28 then
 R (.tuple #[]) h_2
 else
 J h_2
 else
 zB ZaY #[.pointer (some p0)] h fun b28_2 h_3 =>
 bif !b28_2 then
 R (.tuple #[]) h_3
 else
 J h_3
 ) ∧ ∀ (_ : Env) (h_4 : Heap), J h_4 →
 ldI .i64 h_4 (p0.add 8) fun x34 =>
 vStore1 h_4 (p0.add 8) (zi (zw (x34 + 1))) fun h_5 =>
 ldV h_5 (p0.add 6) fun v41 =>
 zB ZgQ #[v41, .bool false] h_5 fun b42 h_6 =>
 bif !b42 then
 ldV h_6 (p0.add 7) fun v47 =>
 zV Zbc #[v47] h_6 fun v48 h_7 =>
 CallsH P ZjT #[v48] h_7 fun r50 h_8 => r50 = .tuple #[] ∧
 ldV h_8 (p0.add 9) fun v55 =>
 vOne v48 fun _ =>
 vNewS h_8 (.cells #[v48] ZD) 1 fun v57 h_9 =>
 vAppend 1 24 [.slice none 0 0] ZD v55 v57 h_9 fun v58 h_10 =>
 vStore1 h_10 (p0.add 9) v58 fun h_11 =>
 R (.tuple #[]) h_11
 else
 zV ZeK #[.pointer (some p0)] h_6 fun v62 h_12 =>
 vLen v62 fun n63 =>
 lq1 (0 : Int) h_12 fun J_2 n x64 h_13 =>
 bif decide (x64 < (n63 : Int)) then
 vIdx v62 x64 1 fun p66 =>
 ldI .i64 h_13 p66 fun x67 =>
 CallsH P ZdH #[.pointer (some p0), zi x67, .bool true] h_13 fun r70 h_14 => r70 = .tuple #[] ∧
 ldV h_14 (p0.add 7) fun v75 =>
 vNewS h_14 (.cells #[zi x67] ZB) 1 fun v77 h_15 =>
 vAppend 1 8 [zi 0] ZB v75 v77 h_15 fun v78 h_16 =>
 vStore1 h_16 (p0.add 7) v78 fun h_17 =>
 CallsH P Zai #[.pointer (some p0)] h_17 fun r82 h_18 => r82 = .tuple #[] ∧
 ldV h_18 (p0.add 7) fun v87 =>
 ldV h_18 (p0.add 7) fun v91 =>
 vLen v91 fun n92 =>
 vSliceS v87 1 none (some (zi (zw ((n92 : Int) - 1)))) none fun v94 =>
 vStore1 h_18 (p0.add 7) v94 fun h_19 =>
 CallsH P ZdH #[.pointer (some p0), zi x67, .bool false] h_19 fun r99 h_20 => r99 = .tuple #[] ∧
 ag1 J_2 n (zw (x64 + 1)) h_20
 else
 R (.tuple #[]) h_13) : CallsH P Zai #[.pointer (some p0)] h R := zv ⟨[(7, [(64, .i .i64)])], [(1, [])], []⟩ Tryz.func126 hv
theorem Zoc {x0_0 : Int} {v0_1 : Value} {x1 : Int} {b2 : Bool} (hv :
 vNew h (.cells #[zi x0_0, v0_1] Z2) fun p3 h_2 =>
 ldI .i64 h_2 p3 fun x12_0 =>
 ldV h_2 (p3.add 1) fun v12_1 =>
 zB ZcT #[.agg #[zi x12_0, v12_1]] h_2 fun b13 h_3 =>
 bif !b13 then
 R (.tuple #[(.pointer none), zi 1]) h_3
 else
 zB Zdv #[zi x1] h_3 fun b16 h_4 =>
 bif !b16 then
 R (.tuple #[(.pointer none), zi 2]) h_4
 else
 ∃ B : Nat → Prop,
 ldI .i64 h_4 p3 fun x23 =>
 vMake 1 [.bool false] Ze1 x23 x23 h_4 fun v24 h_5 =>
 ExtBut B h_4 h_5 ∧
 ldI .i64 (hmask B h_4) p3 fun x20_0 =>
 ldV (hmask B h_4) (p3.add 1) fun v20_1 =>
 vOne v24 fun _ =>
 vNew h_5 (.cells #[zi x1, .bool false, zi x20_0, v20_1, (.slice none 0 0), .bool b2, v24, (.slice none 0 0), zi 0, (.slice none 0 0)] Zm4) fun p26 h_6 =>
 ldI .i64 h_6 p3 fun x28 =>
 lq1 (0 : Int) h_6 fun J n x29 h_7 =>
 bif decide (x29 < x28) then
 ldI .i64 h_7 p3 fun x33_0 =>
 ldV h_7 (p3.add 1) fun v33_1 =>
 CallsH P ZgE #[.agg #[zi x33_0, v33_1], zi x29] h_7 fun r35 h_8 => ∃ (v35_0 : Value), ∃ x35_1, r35 = .tuple #[v35_0, zi x35_1] ∧
 ldV h_8 (p26.add 4) fun v42 =>
 vOne v35_0 fun _ =>
 vNewS h_8 (.cells #[v35_0] ZD) 1 fun v44 h_9 =>
 vAppend 1 24 [.slice none 0 0] ZD v42 v44 h_9 fun v45 h_10 =>
 vStore1 h_10 (p26.add 4) v45 fun h_11 =>
 ag1 J n (zw (x29 + 1)) h_11
 else
 CallsH P Zai #[.pointer (some p26)] h_7 fun r50 h_12 => r50 = .tuple #[] ∧
 ldB h_12 (p26.add 1) fun b55 =>
 bif b55 then
 R (.tuple #[(.pointer none), zi 5]) h_12
 else
 R (.tuple #[.pointer (some p26), zi 0]) h_12) : CallsH P Zhx #[.agg #[zi x0_0, v0_1], zi x1, .bool b2] h R := zv ⟨[(7, [(29, .i .i64)])], [], []⟩ Tryz.func85 hv
theorem Zpv {x0_0 : Int} {v0_1 : Value} {x1 : Int} (hv :
 vNew h (.cells #[zi x0_0, v0_1] Z2) fun p2 h_2 =>
 ldI .i64 h_2 p2 fun x9_0 =>
 ldV h_2 (p2.add 1) fun v9_1 =>
 CallsH P Zhx #[.agg #[zi x9_0, v9_1], zi x1, .bool false] h_2 fun r11 h_3 => ∃ (v11_0 : Value), ∃ x11_1, r11 = .tuple #[v11_0, zi x11_1] ∧
 bif x11_1 != 0 then
 R (.tuple #[(.slice none 0 0), zi x11_1]) h_3
 else
 vNilQ v11_0 (fun _ _ _ => False) fun p18 =>
 ldV h_3 (p18.add 9) fun v20 =>
 R (.tuple #[v20, zi 0]) h_3) : CallsH P ZhB #[.agg #[zi x0_0, v0_1], zi x1] h R := zv ⟨[], [], []⟩ Tryz.func47 hv
theorem Zot {v0 : Value} (hv :
 vLen v0 fun n4 =>
 R (zi (n4 : Int)) h) : CallsH P ZfC #[v0] h R := zv ⟨[], [], []⟩ Tryz.func48 hv
theorem Zm3 {x0_0 : Int} {v0_1 : Value} {x1 : Int} (hv :
 vNew h (.cells #[zi x0_0, v0_1] Z2) fun p2 h_2 =>
 ldI .i64 h_2 p2 fun x9_0 =>
 ldV h_2 (p2.add 1) fun v9_1 =>
 CallsH P ZhB #[.agg #[zi x9_0, v9_1], zi x1] h_2 fun r11 h_3 => ∃ (v11_0 : Value), ∃ x11_1, r11 = .tuple #[v11_0, zi x11_1] ∧
 zI ZfC #[v11_0] h_3 fun x15 h_4 =>
 R (.tuple #[zi x15, zi x11_1]) h_4) : CallsH P Zfz #[.agg #[zi x0_0, v0_1], zi x1] h R := zv ⟨[], [], []⟩ Tryz.func14 hv
theorem Zpj {x0 : Int} (hv :
 R (.bool (x0 != x0)) h) : CallsH P ZdC #[zi x0] h R := zv ⟨[], [], []⟩ Tryz.func122 hv
theorem Zo3 {x0 x1 : Int} (hv :
 zB ZdC #[zi x0] h fun b8 h_2 =>
 zB ZdC #[zi x1] h_2 fun b10 h_3 =>
 bif b8 then
 bif b10 then
 R (zi 0) h_3
 else
 R (zi (-1)) h_3
 else
 bif b10 then
 R (zi 1) h_3
 else
 bif decide (x0 < x1) then
 R (zi (-1)) h_3
 else
 bif decide (x0 > x1) then
 R (zi 1) h_3
 else
 R (zi 0) h_3) : CallsH P ZeC #[zi x0, zi x1] h R := zv ⟨[], [], []⟩ Tryz.func80 hv
theorem ZkQ {v0 v1 : Value} (hv :
 vLen v0 fun n10 =>
 lq1 (0 : Int) h fun J n x11 h_2 =>
 bif decide (x11 < (n10 : Int)) then
 vIdx v0 x11 1 fun p14 =>
 ldI .i64 h_2 p14 fun x15 =>
 vLen v1 fun n18 =>
 bif decide (x11 ≥ (n18 : Int)) then
 R (zi 1) h_2
 else
 vIdx v1 x11 1 fun p22 =>
 ldI .i64 h_2 p22 fun x23 =>
 zI ZeC #[zi x15, zi x23] h_2 fun x26 h_3 =>
 bif x26 != 0 then
 R (zi x26) h_3
 else
 ag1 J n (zw (x11 + 1)) h_3
 else
 vLen v0 fun n32 =>
 vLen v1 fun n34 =>
 bif decide ((n32 : Int) < (n34 : Int)) then
 R (zi (-1)) h_2
 else
 R (zi 0) h_2) : CallsH P Zdy #[v0, v1] h R := zv ⟨[(2, [(11, .i .i64)])], [], []⟩ Tryz.func42 hv
theorem ZnT {v0 : Value} {x1 : Int} (hv :
 vLen v0 fun n6 =>
 bif decide ((n6 : Int) > 0) then
 zB Zcj #[v0, zi x1] h fun b11 h_2 =>
 R (.bool b11) h_2
 else
 R (.bool false) h) : CallsH P Zht #[v0, zi x1] h R := zv ⟨[], [], []⟩ Tryz.func119 hv
theorem ZkH {v0 : Value} {p1 : Addr} (hv :
 ldI .i64 h p1 fun x5 =>
 zB Zht #[v0, zi x5] h fun b6 h_2 =>
 R (.bool (!b6)) h_2) : CallsH P Zg7 #[v0, .pointer (some p1)] h R := zv ⟨[], [], []⟩ Tryz.func118 hv
theorem Zlt {v0 : Value} {x1 : Int} (hv :
 vNew h (.cells #[zi x1] ZB) fun p3 h_2 =>
 ldI .i64 h_2 p3 fun x5 =>
 zB ZK #[zi x5, zi 1, zi 32] h_2 fun b6 h_3 =>
 bif b6 then
 zB ZbU #[v0, .func (.func Zg7) #[] #[.pointer (some p3)]] h_3 fun b10 h_4 =>
 R (.bool (!b10)) h_4
 else
 R (.bool false) h_3) : CallsH P ZhR #[v0, zi x1] h R := zv ⟨[], [], []⟩ Tryz.func75 hv
theorem Zni {v0 : Value} {g1 : Nat} {cap1 : List Value} (hv :
 vLen v0 fun n7 =>
 lq1 (zw ((n7 : Int) - 1)) h fun J n x5 h_2 =>
 bif decide (x5 > 0) then
 vIdx v0 x5 1 fun p16 =>
 ldV h_2 p16 fun v17 =>
 vIdx v0 (zw (x5 - 1)) 1 fun p21 =>
 ldV h_2 p21 fun v22 =>
 vOkf ctx g1 fun _ =>
 CallsH P g1 (([v17, v22] : List Value) ++ cap1).toArray h_2 fun r23 h_3 => ∃ x23, r23 = zi x23 ∧
 bif decide (x23 < 0) then
 R (.bool false) h_3
 else
 ag1 J n (zw (x5 - 1)) h_3
 else
 R (.bool true) h_2) : CallsH P ZhK #[v0, .func (.func g1) #[] cap1.toArray] h R := zv ⟨[(2, [(5, .i .i64)])], [], []⟩ Tryz.func76 hv
theorem Zn7 {x0_0 : Int} {v0_1 : Value} (hv :
 vNew h (.cells #[zi x0_0, v0_1] Zy) fun p1 h_2 =>
 ldV h_2 (p1.add 1) fun v4 =>
 ldI .i64 h_2 p1 fun x6 =>
 zB ZhR #[v4, zi x6] h_2 fun b7 h_3 =>
 bif b7 then
 ldV h_3 (p1.add 1) fun v10 =>
 vLen v10 fun n11 =>
 bif decide ((n11 : Int) ≤ 128) then
 ldV h_3 (p1.add 1) fun v16 =>
 zB ZhK #[v16, .func (.func Zdy) #[] #[]] h_3 fun b17 h_4 =>
 R (.bool b17) h_4
 else
 R (.bool false) h_3
 else
 R (.bool false) h_3) : CallsH P ZbN #[.agg #[zi x0_0, v0_1]] h R := zv ⟨[], [], []⟩ Tryz.func35 hv
theorem Zmt {x0 : Int} {g1 : Nat} {cap1 : List Value} (hv :
 lq2 ((.slice none 0 0) : Value) (0 : Int) h fun J n v5 x6 h_2 =>
 bif decide (x6 < x0) then
 lq2 ((.slice none 0 0) : Value) (0 : Int) h_2 fun J_2 n_3 v7 x8 h_3 =>
 bif decide (x8 < x0) then
 vOkf ctx g1 fun _ =>
 CallsH P g1 (([zi x6, zi x8] : List Value) ++ cap1).toArray h_3 fun r23 h_4 => ∃ x23, r23 = zi x23 ∧
 vNewS h_4 (.cells #[zi x23] ZB) 1 fun v24 h_5 =>
 vAppend 1 8 [zi 0] ZB v7 v24 h_5 fun v25 h_6 =>
 ag2 J_2 n_3 v25 (zw (x8 + 1)) h_6
 else
 vOne v7 fun _ =>
 vNewS h_3 (.cells #[v7] ZD) 1 fun v28 h_7 =>
 vAppend 1 24 [.slice none 0 0] ZD v5 v28 h_7 fun v29 h_8 =>
 ag2 J n v29 (zw (x6 + 1)) h_8
 else
 R v5 h_2) : CallsH P Zha #[zi x0, .func (.func g1) #[] cap1.toArray] h R := zv ⟨[(3, [(5, .v), (6, .i .i64)]), (7, [(7, .v), (8, .i .i64)])], [], []⟩ Tryz.func134 hv
theorem Zpt {x0 x1 : Int} (hv :
 R (zi 0) h) : CallsH P ZhV #[zi x0, zi x1] h R := zv ⟨[], [], []⟩ Tryz.func135 hv
theorem Zmp {x0 : Int} (hv :
 zV Zha #[zi x0, .func (.func ZhV) #[] #[]] h fun v4 h_2 =>
 R v4 h_2) : CallsH P Zdc #[zi x0] h R := zv ⟨[], [], []⟩ Tryz.func94 hv
theorem ZoO {x0_0 : Int} {v0_1 : Value} (hv :
 vNew h (.cells #[zi x0_0, v0_1] Zy) fun p1 h_2 =>
 ldI .i64 h_2 p1 fun x14 =>
 zV Zdc #[zi x14] h_2 fun v15 h_3 =>
 ldV h_3 (p1.add 1) fun v17 =>
 vLen v17 fun n18 =>
 lq1 (0 : Int) h_3 fun J n x19 h_4 =>
 bif decide (x19 < (n18 : Int)) then
 vIdx v17 x19 1 fun p21 =>
 ldV h_4 p21 fun v22 =>
 vLen v22 fun n24 =>
 lq1 (0 : Int) h_4 fun J_2 n_3 x25 h_5 =>
 bif decide (x25 < (n24 : Int)) then
 vIdx v22 x25 1 fun p28 =>
 ldI .i64 h_5 p28 fun x29 =>
 vSliceS v22 1 (some (zi (zw (x25 + 1)))) none none fun v33 =>
 vLen v33 fun n34 =>
 lq1 (0 : Int) h_5 fun J_3 n_5 x35 h_6 =>
 bif decide (x35 < (n34 : Int)) then
 vIdx v33 x35 1 fun p37 =>
 ldI .i64 h_6 p37 fun x38 =>
 vIdx v15 x29 1 fun p41 =>
 ldV h_6 p41 fun v42 =>
 vIdx v42 x38 1 fun p44 =>
 ldI .i64 h_6 p44 fun x45 =>
 vIdx v42 x38 1 fun p47 =>
 vStore1 h_6 p47 (zi (zw (x45 + 1))) fun h_7 =>
 ag1 J_3 n_5 (zw (x35 + 1)) h_7
 else
 ag1 J_2 n_3 (zw (x25 + 1)) h_6
 else
 ag1 J n (zw (x19 + 1)) h_5
 else
 vLen v15 fun n52 =>
 lq2 ((.slice none 0 0) : Value) (0 : Int) h_4 fun J_4 n_7 v10 x53 h_8 =>
 bif decide (x53 < (n52 : Int)) then
 vIdx v15 x53 1 fun p56 =>
 ldV h_8 p56 fun v57 =>
 vSliceS v57 1 (some (zi (zw (x53 + 1)))) none none fun v62 =>
 vAppend 1 8 [zi 0] ZB v10 v62 h_8 fun v63 h_9 =>
 ag2 J_4 n_7 v63 (zw (x53 + 1)) h_9
 else
 R v10 h_8) : CallsH P Zdd #[.agg #[zi x0_0, v0_1]] h R := zv ⟨[(3, [(19, .i .i64)]), (6, [(25, .i .i64)]), (9, [(35, .i .i64)]), (17, [(10, .v), (53, .i .i64)])], [], []⟩ Tryz.func53 hv
theorem ZpL {v0 v1 : Value} (hv :
 vLen v0 fun n7 =>
 vLen v1 fun n9 =>
 bif (n7 : Int) != (n9 : Int) then
 R (.bool false) h
 else
 vLen v0 fun n12 =>
 lq1 (0 : Int) h fun J n x13 h_2 =>
 bif decide (x13 < (n12 : Int)) then
 vIdx v0 x13 1 fun p18 =>
 ldI .i64 h_2 p18 fun x19 =>
 vIdx v1 x13 1 fun p22 =>
 ldI .i64 h_2 p22 fun x23 =>
 bif x19 != x23 then
 R (.bool false) h_2
 else
 ag1 J n (zw (x13 + 1)) h_2
 else
 R (.bool true) h_2) : CallsH P ZdM #[v0, v1] h R := zv ⟨[(4, [(13, .i .i64)])], [], []⟩ Tryz.func91 hv
theorem ZoE {x0 : Int} {p1 : Addr} (hv :
 ldI .i64 h p1 fun x5 =>
 R (.bool (decide (x0 > x5))) h) : CallsH P Zgj #[zi x0, .pointer (some p1)] h R := zv ⟨[], [], []⟩ Tryz.func93 hv
theorem ZnG {x0_0 : Int} {v0_1 : Value} {x1 x2 : Int} (hv :
 vNew h (.cells #[zi x0_0, v0_1] Zy) fun p3 h_2 =>
 vNew h_2 (.cells #[zi x2] ZB) fun p5 h_3 =>
 ldV h_3 (p3.add 1) fun v10 =>
 vLen v10 fun n11 =>
 lq1 (0 : Int) h_3 fun J n x12 h_4 =>
 bif decide (x12 < (n11 : Int)) then
 vIdx v10 x12 1 fun p15 =>
 ldV h_4 p15 fun v16 =>
 zI ZbP #[v16] h_4 fun x18 h_5 =>
 bif x18 != x1 then
 R (.bool false) h_5
 else
 bif decide (x12 > 0) then
 ldV h_5 (p3.add 1) fun v26 =>
 vIdx v26 (zw (x12 - 1)) 1 fun p29 =>
 ldV h_5 p29 fun v30 =>
 zB ZdM #[v30, v16] h_5 fun b32 h_6 =>
 bif b32 then
 R (.bool false) h_6
 else
 ag1 J n (zw (x12 + 1)) h_6
 else
 ag1 J n (zw (x12 + 1)) h_5
 else
 ldI .i64 h_4 p5 fun x36 =>
 bif decide (x36 > 0) then
 ldI .i64 h_4 p3 fun x39_0 =>
 ldV h_4 (p3.add 1) fun v39_1 =>
 zV Zdd #[.agg #[zi x39_0, v39_1]] h_4 fun v40 h_7 =>
 zB ZdT #[v40, .func (.func Zgj) #[] #[.pointer (some p5)]] h_7 fun b42 h_8 =>
 R (.bool (!b42)) h_8
 else
 R (.bool false) h_4) : CallsH P Zeq #[.agg #[zi x0_0, v0_1], zi x1, zi x2] h R := zv ⟨[(2, [(12, .i .i64)])], [], []⟩ Tryz.func52 hv
theorem Zle {x0 x1 x2 : Int} (hv :
 zB ZK #[zi x0, zi 2, zi 32] h fun b8 h_2 =>
 bif b8 then
 zB ZK #[zi x1, zi 2, zi x0] h_2 fun b12 h_3 =>
 bif b12 then
 zB ZK #[zi x2, zi 1, zi 128] h_3 fun b16 h_4 =>
 R (.bool b16) h_4
 else
 R (.bool false) h_3
 else
 R (.bool false) h_2) : CallsH P Zdg #[zi x0, zi x1, zi x2] h R := zv ⟨[], [], []⟩ Tryz.func55 hv
theorem ZoR {v0 v1 : Value} {x2 : Int} (hv :
 vLen v1 fun n11 =>
 lq1 (0 : Int) h fun J n x12 h_2 =>
 bif decide (x12 < (n11 : Int)) then
 vIdx v1 x12 1 fun p15 =>
 ldI .i64 h_2 p15 fun x16 =>
 vSliceS v1 1 (some (zi (zw (x12 + 1)))) none none fun v20 =>
 vLen v20 fun n21 =>
 lq1 (0 : Int) h_2 fun J_2 n_3 x22 h_3 =>
 bif decide (x22 < (n21 : Int)) then
 vIdx v20 x22 1 fun p24 =>
 ldI .i64 h_3 p24 fun x25 =>
 vIdx v0 x16 1 fun p28 =>
 ldV h_3 p28 fun v29 =>
 vIdx v29 x25 1 fun p31 =>
 ldI .i64 h_3 p31 fun x32 =>
 vIdx v29 x25 1 fun p35 =>
 vStore1 h_3 p35 (zi (zw (x32 + x2))) fun h_4 =>
 ag1 J_2 n_3 (zw (x22 + 1)) h_4
 else
 ag1 J n (zw (x12 + 1)) h_3
 else
 R (.tuple #[]) h_2) : CallsH P ZaA #[v0, v1, zi x2] h R := zv ⟨[(1, [(12, .i .i64)]), (4, [(22, .i .i64)])], [], []⟩ Tryz.func58 hv
theorem ZlM {x0_0 : Int} {v0_1 : Value} (hv :
 vNew h (.cells #[zi x0_0, v0_1] Zy) fun p1 h_2 =>
 ldI .i64 h_2 p1 fun x7 =>
 zV Zdc #[zi x7] h_2 fun v8 h_3 =>
 ldV h_3 (p1.add 1) fun v10 =>
 vLen v10 fun n11 =>
 lq1 (0 : Int) h_3 fun J n x12 h_4 =>
 bif decide (x12 < (n11 : Int)) then
 vIdx v10 x12 1 fun p14 =>
 ldV h_4 p14 fun v15 =>
 CallsH P ZaA #[v8, v15, zi 1] h_4 fun r18 h_5 => r18 = .tuple #[] ∧
 ag1 J n (zw (x12 + 1)) h_5
 else
 R v8 h_4) : CallsH P ZdK #[.agg #[zi x0_0, v0_1]] h R := zv ⟨[(3, [(12, .i .i64)])], [], []⟩ Tryz.func56 hv
theorem Zpq {v0 : Value} (hv :
 vLen v0 fun n7 =>
 lq2 ((.slice none 0 0) : Value) (0 : Int) h fun J n v3 x8 h_2 =>
 bif decide (x8 < (n7 : Int)) then
 vIdx v0 x8 1 fun p10 =>
 ldV h_2 p10 fun v11 =>
 zV Zbc #[v11] h_2 fun v14 h_3 =>
 vOne v14 fun _ =>
 vNewS h_3 (.cells #[v14] ZD) 1 fun v15 h_4 =>
 vAppend 1 24 [.slice none 0 0] ZD v3 v15 h_4 fun v16 h_5 =>
 ag2 J n v16 (zw (x8 + 1)) h_5
 else
 R v3 h_2) : CallsH P ZcL #[v0] h R := zv ⟨[(3, [(3, .v), (8, .i .i64)])], [], []⟩ Tryz.func86 hv
theorem ZnH {v0 : Value} {p1 : Addr} (hv :
 ldV h p1 fun v5 =>
 zB ZdM #[v0, v5] h fun b6 h_2 =>
 R (.bool b6) h_2) : CallsH P ZeV #[v0, .pointer (some p1)] h R := zv ⟨[], [], []⟩ Tryz.func127 hv
theorem Zpg {v0 v1 : Value} (hv :
 vOne v1 fun _ =>
 vNew h (.cells #[v1] ZD) fun p3 h_2 =>
 zB ZbU #[v0, .func (.func ZeV) #[] #[.pointer (some p3)]] h_2 fun b7 h_3 =>
 R (.bool b7) h_3) : CallsH P Zhp #[v0, v1] h R := zv ⟨[], [], []⟩ Tryz.func87 hv
theorem Znn {v0 v1 : Value} (hv :
 vLen v1 fun n11 =>
 lq2 (0 : Int) (0 : Int) h fun J n x5 x12 h_2 =>
 bif decide (x12 < (n11 : Int)) then
 vIdx v1 x12 1 fun p15 =>
 ldI .i64 h_2 p15 fun x16 =>
 vSliceS v1 1 (some (zi (zw (x12 + 1)))) none none fun v20 =>
 vLen v20 fun n21 =>
 lq2 x5 (0 : Int) h_2 fun J_2 n_3 x5_2 x22 h_3 =>
 bif decide (x22 < (n21 : Int)) then
 vIdx v20 x22 1 fun p24 =>
 ldI .i64 h_3 p24 fun x25 =>
 vIdx v0 x16 1 fun p29 =>
 ldV h_3 p29 fun v30 =>
 vIdx v30 x25 1 fun p32 =>
 ldI .i64 h_3 p32 fun x33 =>
 ag2 J_2 n_3 (if x33 > x5_2 then x33 else x5_2) (zw (x22 + 1)) h_3
 else
 ag2 J n x5_2 (zw (x12 + 1)) h_3
 else
 R (zi x5) h_2) : CallsH P Zdi #[v0, v1] h R := zv ⟨[(3, [(5, .i .i64), (12, .i .i64)]), (6, [(5, .i .i64), (22, .i .i64)])], [], []⟩ Tryz.func57 hv
theorem ZkJ {p0 : Addr} (hv :
 ldV h (p0.add 4) fun v11 =>
 vLen v11 fun n12 =>
 lq1 (0 : Int) h fun J n x13 h_2 =>
 bif decide (x13 < (n12 : Int)) then
 vIdx v11 x13 1 fun p16 =>
 ldV h_2 p16 fun v17 =>
 lq1 (zw (x13 + 1)) h_2 fun J_2 n_3 x7 h_3 =>
 vLen v17 fun n22 =>
 bif decide (x7 < (n22 : Int)) then
 vIdx v17 x7 1 fun p28 =>
 ldI .i64 h_3 p28 fun x29 =>
 ldI .i64 h_3 (p0.add 2) fun x33 =>
 bif decide (x29 < x33) then
 R (.tuple #[zi x13, zi x7, .bool true]) h_3
 else
 ag1 J_2 n_3 (zw (x7 + 1)) h_3
 else
 ag1 J n (zw (x13 + 1)) h_3
 else
 R (.tuple #[zi 0, zi 0, .bool false]) h_2) : CallsH P ZhI #[.pointer (some p0)] h R := zv ⟨[(2, [(13, .i .i64)]), (5, [(7, .i .i64)])], [], []⟩ Tryz.func129 hv
theorem ZoU {p0 : Addr} {x1 x2 x3 : Int} (hv :
 ∃ J : Heap → Prop, (
 ldB h (p0.add 1) fun b18 =>
 bif b18 then
 R (.tuple #[]) h
 else
 ldB h (p0.add 3) fun b23 =>
 bif b23 then
 ldI .i64 h (p0.add 9) fun x28 =>
 bif decide (x28 > 0) then
 R (.tuple #[]) h
 else
 zB ZaY #[.pointer (some p0)] h fun b36 h_2 =>
 bif !b36 then
 R (.tuple #[]) h_2
 else
 J h_2
 else
 zB ZaY #[.pointer (some p0)] h fun b36_2 h_3 =>
 bif !b36_2 then
 R (.tuple #[]) h_3
 else
 J h_3
 ) ∧ ∀ (_ : Env) (h_4 : Heap), J h_4 →
 ldI .i64 h_4 (p0.add 8) fun x42 =>
 vStore1 h_4 (p0.add 8) (zi (zw (x42 + 1))) fun h_5 =>
 CallsH P ZhI #[.pointer (some p0)] h_5 fun r48 h_6 => ∃ x48_0, ∃ x48_1, ∃ (b48_2 : Bool), r48 = .tuple #[zi x48_0, zi x48_1, .bool b48_2] ∧
 bif !b48_2 then
 ldI .i64 h_6 (p0.add 9) fun x57 =>
 vStore1 h_6 (p0.add 9) (zi (zw (x57 + 1))) fun h_7 =>
 ldI .i64 h_7 (p0.add 9) fun x64 =>
 bif x64 == 1 then
 ldV h_7 (p0.add 7) fun v70 =>
 zV ZcL #[v70] h_7 fun v71 h_8 =>
 vStore1 h_8 (p0.add 10) v71 fun h_9 =>
 R (.tuple #[]) h_9
 else
 R (.tuple #[]) h_7
 else
 ∃ J_2 : Int → Heap → Prop, (
 bif x48_0 == x2 then
 bif x48_1 == x3 then
 J_2 (zw (x1 + 1)) h_6
 else
 J_2 0 h_6
 else
 J_2 0 h_6
 ) ∧ ∀ (_ : Env) x11 (h_10 : Heap), J_2 x11 h_10 →
 lq1 x11 h_10 fun J_3 n x12 h_11 =>
 ldV h_11 (p0.add 5) fun v89 =>
 vLen v89 fun n90 =>
 bif decide (x12 < (n90 : Int)) then
 ldV h_11 (p0.add 5) fun v97 =>
 vIdx v97 x12 1 fun p99 =>
 ldV h_11 p99 fun v100 =>
 ∃ J_4 : Heap → Prop, (
 ∃ B : Nat → Prop,
 ldV h_11 (p0.add 6) fun v104 =>
 vIdx v104 x12 1 fun p106 =>
 ldB h_11 p106 fun b107 =>
 bif b107 then
 ag1 J_3 n (zw (x12 + 1)) h_11
 else
 zB Zcm #[v100, zi x48_0] h_11 fun b111 h_12 =>
 ExtBut B h_11 h_12 ∧
 bif !b111 then
 ag1 J_3 n (zw (x12 + 1)) h_12
 else
 zB Zcm #[v100, zi x48_1] h_12 fun b117 h_13 =>
 ExtBut B h_11 h_13 ∧
 bif !b117 then
 ag1 J_3 n (zw (x12 + 1)) h_13
 else
 ldV h_13 (p0.add 4) fun v124 =>
 zI Zdi #[v124, v100] h_13 fun x126 h_14 =>
 ExtBut B h_11 h_14 ∧
 ldI .i64 (hmask B h_11) (p0.add 2) fun x130 =>
 bif decide (x126 ≥ x130) then
 ag1 J_3 n (zw (x12 + 1)) h_14
 else
 J_4 h_14
 ) ∧ ∀ (_ : Env) (h_15 : Heap), J_4 h_15 →
 ldV h_15 (p0.add 6) fun v136 =>
 vIdx v136 x12 1 fun p138 =>
 vStore1 h_15 p138 (.bool true) fun h_16 =>
 ldV h_16 (p0.add 4) fun v142 =>
 CallsH P ZaA #[v142, v100, zi 1] h_16 fun r144 h_17 => r144 = .tuple #[] ∧
 ldV h_17 (p0.add 7) fun v149 =>
 vOne v100 fun _ =>
 vNewS h_17 (.cells #[v100] ZD) 1 fun v151 h_18 =>
 vAppend 1 24 [.slice none 0 0] ZD v149 v151 h_18 fun v152 h_19 =>
 vStore1 h_19 (p0.add 7) v152 fun h_20 =>
 CallsH P Zap #[.pointer (some p0), zi x12, zi x48_0, zi x48_1] h_20 fun r159 h_21 => r159 = .tuple #[] ∧
 ldV h_21 (p0.add 7) fun v164 =>
 ldV h_21 (p0.add 7) fun v168 =>
 vLen v168 fun n169 =>
 vSliceS v164 1 none (some (zi (zw ((n169 : Int) - 1)))) none fun v171 =>
 vStore1 h_21 (p0.add 7) v171 fun h_22 =>
 ldV h_22 (p0.add 4) fun v177 =>
 CallsH P ZaA #[v177, v100, zi (-1)] h_22 fun r179 h_23 => r179 = .tuple #[] ∧
 ldV h_23 (p0.add 6) fun v183 =>
 vIdx v183 x12 1 fun p185 =>
 vStore1 h_23 p185 (.bool false) fun h_24 =>
 ag1 J_3 n (zw (x12 + 1)) h_24
 else
 R (.tuple #[]) h_11) : CallsH P Zap #[.pointer (some p0), zi x1, zi x2, zi x3] h R := zv ⟨[(11, [(12, .i .i64)])], [(1, []), (10, [(11, .i .i64)]), (15, [])], []⟩ Tryz.func88 hv
theorem Zok {x0_0 : Int} {v0_1 : Value} {x1 x2 x3 : Int} {b4 : Bool} (hv :
 vNew h (.cells #[zi x0_0, v0_1] Zy) fun p5 h_2 =>
 ∃ J : Heap → Prop, (
 ∃ J_2 : Bool → Heap → Prop, (
 zB Zdv #[zi x3] h_2 fun b17 h_3 =>
 bif !b17 then
 J_2 true h_3
 else
 ldI .i64 h_3 p5 fun x21 =>
 zB Zdg #[zi x21, zi x1, zi x2] h_3 fun b24 h_4 =>
 J_2 (!b24) h_4
 ) ∧ ∀ (_ : Env) (b15 : Bool) (h_5 : Heap), J_2 b15 h_5 →
 bif b15 then
 R (.tuple #[(.pointer none), zi 2]) h_5
 else
 ldI .i64 h_5 p5 fun x29 =>
 zI ZaT #[zi x29, zi x1] h_5 fun x31 h_6 =>
 bif decide (x31 > 1500) then
 R (.tuple #[(.pointer none), zi 5]) h_6
 else
 ldI .i64 h_6 p5 fun x34_0 =>
 ldV h_6 (p5.add 1) fun v34_1 =>
 zB Zeq #[.agg #[zi x34_0, v34_1], zi x1, zi x2] h_6 fun b37 h_7 =>
 bif !b37 then
 R (.tuple #[(.pointer none), zi 6]) h_7
 else
 J h_7
 ) ∧ ∀ (_ : Env) (h_8 : Heap), J h_8 →
 ∃ B : Nat → Prop,
 ldI .i64 h_8 p5 fun x43_0 =>
 ldV h_8 (p5.add 1) fun v43_1 =>
 zV ZdK #[.agg #[zi x43_0, v43_1]] h_8 fun v44 h_9 =>
 ExtBut B h_8 h_9 ∧
 ldI .i64 (hmask B h_8) p5 fun x46 =>
 zV ZbG #[zi x46, zi x1] h_9 fun v48 h_10 =>
 ExtBut B h_8 h_10 ∧
 ldV (hmask B h_8) (p5.add 1) fun v50 =>
 zV ZcL #[v50] h_10 fun v51 h_11 =>
 vOne v44 fun _ =>
 vOne v48 fun _ =>
 vOne v51 fun _ =>
 vNew h_11 (.cells #[zi x3, .bool false, zi x2, .bool b4, v44, v48, (.slice none 0 0), v51, zi 0, zi 0, (.slice none 0 0)] Zkj) fun p53 h_12 =>
 ldV h_12 (p53.add 5) fun v57 =>
 vLen v57 fun n58 =>
 lq1 (0 : Int) h_12 fun J_3 n x59 h_13 =>
 bif decide (x59 < (n58 : Int)) then
 vIdx v57 x59 1 fun p61 =>
 ldV h_13 p61 fun v62 =>
 ∃ B_2 : Nat → Prop,
 ldV h_13 (p5.add 1) fun v69 =>
 zB Zhp #[v69, v62] h_13 fun b71 h_14 =>
 ExtBut B_2 h_13 h_14 ∧
 vNewS h_14 (.cells #[.bool b71] Ze1) 1 fun v72 h_15 =>
 ExtBut B_2 h_13 h_15 ∧
 ldV (hmask B_2 h_13) (p53.add 6) fun v67 =>
 vAppend 1 1 [.bool false] Ze1 v67 v72 h_15 fun v73 h_16 =>
 vStore1 h_16 (p53.add 6) v73 fun h_17 =>
 ag1 J_3 n (zw (x59 + 1)) h_17
 else
 CallsH P Zap #[.pointer (some p53), zi (-1), zi (-1), zi (-1)] h_13 fun r78 h_18 => r78 = .tuple #[] ∧
 ldB h_18 (p53.add 1) fun b83 =>
 bif b83 then
 R (.tuple #[(.pointer none), zi 5]) h_18
 else
 R (.tuple #[.pointer (some p53), zi 0]) h_18) : CallsH P Zc1 #[.agg #[zi x0_0, v0_1], zi x1, zi x2, zi x3, .bool b4] h R := zv ⟨[(9, [(59, .i .i64)])], [(2, [(15, .b)]), (7, [])], []⟩ Tryz.func49 hv
theorem ZmM {x0_0 : Int} {v0_1 : Value} {x1 x2 x3 : Int} (hv :
 vNew h (.cells #[zi x0_0, v0_1] Zy) fun p4 h_2 =>
 ldI .i64 h_2 p4 fun x12_0 =>
 ldV h_2 (p4.add 1) fun v12_1 =>
 zB ZbN #[.agg #[zi x12_0, v12_1]] h_2 fun b13 h_3 =>
 bif !b13 then
 R (.tuple #[zi 0, zi 1]) h_3
 else
 ldI .i64 h_3 p4 fun x16_0 =>
 ldV h_3 (p4.add 1) fun v16_1 =>
 CallsH P Zc1 #[.agg #[zi x16_0, v16_1], zi x1, zi x2, zi x3, .bool false] h_3 fun r20 h_4 => ∃ (v20_0 : Value), ∃ x20_1, r20 = .tuple #[v20_0, zi x20_1] ∧
 bif x20_1 != 0 then
 R (.tuple #[zi 0, zi x20_1]) h_4
 else
 vNilQ v20_0 (fun _ _ _ => False) fun p27 =>
 ldI .i64 h_4 (p27.add 9) fun x29 =>
 R (.tuple #[zi x29, zi 0]) h_4) : CallsH P ZhG #[.agg #[zi x0_0, v0_1], zi x1, zi x2, zi x3] h R := zv ⟨[], [], []⟩ Tryz.func15 hv
theorem Zl7 {x0 : Int} {v1 : Value} (hv :
 vNew h (.cells #[zi 0, .slice none 0 0] Zy) fun p4 h_2 =>
 vLen v1 fun n8 =>
 bif decide ((n8 : Int) > 128) then
 vStore1 h_2 p4 (zi 0) fun h_3 =>
 vStore1 h_3 (p4.add 1) (.slice none 0 0) fun h_4 =>
 ldI .i64 h_4 p4 fun xres0_0 =>
 ldV h_4 (p4.add 1) fun vres0_1 =>
 R (.tuple #[.agg #[zi xres0_0, vres0_1], zi 5]) h_4
 else
 zV ZcL #[v1] h_2 fun v13 h_5 =>
 vOne v13 fun _ =>
 vNew h_5 (.cells #[zi 0, .slice none 0 0] Zy) fun p6 h_6 =>
 vStore1 h_6 p6 (zi x0) fun h_7 =>
 vStore1 h_7 (p6.add 1) v13 fun h_8 =>
 ldV h_8 (p6.add 1) fun v16 =>
 CallsH P ZjS #[v16, .func (.func Zdy) #[] #[]] h_8 fun r17 h_9 => r17 = .tuple #[] ∧
 ldI .i64 h_9 p6 fun x18_0 =>
 ldV h_9 (p6.add 1) fun v18_1 =>
 vStore1 h_9 p4 (zi x18_0) fun h_10 =>
 vStore1 h_10 (p4.add 1) v18_1 fun h_11 =>
 ldI .i64 h_11 p4 fun xres0_0_2 =>
 ldV h_11 (p4.add 1) fun vres0_1_2 =>
 R (.tuple #[.agg #[zi xres0_0_2, vres0_1_2], zi 0]) h_11) : CallsH P Zek #[zi x0, v1] h R := zv ⟨[], [], []⟩ Tryz.func59 hv
theorem ZnF {x0_0 : Int} {v0_1 : Value} {x1 x2 x3 : Int} (hv :
 vNew h (.cells #[zi x0_0, v0_1] Zy) fun p4 h_2 =>
 vNew h_2 (.cells #[zi 0, .slice none 0 0] Zy) fun p8 h_3 =>
 ldI .i64 h_3 p4 fun x13_0 =>
 ldV h_3 (p4.add 1) fun v13_1 =>
 CallsH P Zc1 #[.agg #[zi x13_0, v13_1], zi x1, zi x2, zi x3, .bool true] h_3 fun r17 h_4 => ∃ (v17_0 : Value), ∃ x17_1, r17 = .tuple #[v17_0, zi x17_1] ∧
 bif x17_1 != 0 then
 vStore1 h_4 p8 (zi 0) fun h_5 =>
 vStore1 h_5 (p8.add 1) (.slice none 0 0) fun h_6 =>
 ldI .i64 h_6 p8 fun xres0_0 =>
 ldV h_6 (p8.add 1) fun vres0_1 =>
 R (.tuple #[.agg #[zi xres0_0, vres0_1], zi x17_1]) h_6
 else
 vNilQ v17_0 (fun _ _ _ => False) fun p25 =>
 ldI .i64 h_4 (p25.add 9) fun x27 =>
 bif x27 == 0 then
 vStore1 h_4 p8 (zi 0) fun h_7 =>
 vStore1 h_7 (p8.add 1) (.slice none 0 0) fun h_8 =>
 ldI .i64 h_8 p8 fun xres0_0_2 =>
 ldV h_8 (p8.add 1) fun vres0_1_2 =>
 R (.tuple #[.agg #[zi xres0_0_2, vres0_1_2], zi 3]) h_8
 else
 ldI .i64 h_4 p4 fun x31 =>
 vNilQ v17_0 (fun _ _ _ => False) fun p33 =>
 ldV h_4 (p33.add 10) fun v35 =>
 CallsH P Zek #[zi x31, v35] h_4 fun r36 h_9 => ∃ x36_0_0, ∃ (v36_0_1 : Value), ∃ x36_1, r36 = .tuple #[.agg #[zi x36_0_0, v36_0_1], zi x36_1] ∧
 vStore1 h_9 p8 (zi x36_0_0) fun h_10 =>
 vStore1 h_10 (p8.add 1) v36_0_1 fun h_11 =>
 ldI .i64 h_11 p8 fun xres0_0_3 =>
 ldV h_11 (p8.add 1) fun vres0_1_3 =>
 R (.tuple #[.agg #[zi xres0_0_3, vres0_1_3], zi x36_1]) h_11) : CallsH P Zeg #[.agg #[zi x0_0, v0_1], zi x1, zi x2, zi x3] h R := zv ⟨[], [], []⟩ Tryz.func50 hv
theorem ZpP {x0 x1 x2 x3 : Int} (hv :
 vNew h (.cells #[zi 0, .slice none 0 0] Zy) fun p8 h_2 =>
 CallsH P Zeg #[.agg #[zi x0, (.slice none 0 0)], zi x1, zi x2, zi x3] h_2 fun r15 h_3 => ∃ x15_0_0, ∃ (v15_0_1 : Value), ∃ x15_1, r15 = .tuple #[.agg #[zi x15_0_0, v15_0_1], zi x15_1] ∧
 vStore1 h_3 p8 (zi x15_0_0) fun h_4 =>
 vStore1 h_4 (p8.add 1) v15_0_1 fun h_5 =>
 ldI .i64 h_5 p8 fun xres0_0 =>
 ldV h_5 (p8.add 1) fun vres0_1 =>
 R (.tuple #[.agg #[zi xres0_0, vres0_1], zi x15_1]) h_5) : CallsH P ZeW #[zi x0, zi x1, zi x2, zi x3] h R := zv ⟨[], [], []⟩ Tryz.func16 hv
theorem Zll {x0 x1 x2 : Int} (hv :
 bif decide (x0 ≥ x1) then
 R (.bool (decide (x0 ≤ x2))) h
 else
 R (.bool false) h) : CallsH P Zed #[zi x0, zi x1, zi x2] h R := zv ⟨[], [], []⟩ Tryz.func100 hv
theorem ZoG {v0 : Value} {x1 x2 : Int} (hv :
 lq1 (0 : Int) h fun J n x7 h_2 =>
 vLen v0 fun n10 =>
 bif decide (x7 < (n10 : Int)) then
 vIdx v0 x7 1 fun p16 =>
 ldI .i64 h_2 p16 fun x17 =>
 zB Zed #[zi x17, zi x1, zi x2] h_2 fun b20 h_3 =>
 bif !b20 then
 R (.bool false) h_3
 else
 bif decide (x7 > 0) then
 vIdx v0 (zw (x7 - 1)) 1 fun p29 =>
 ldI .i64 h_3 p29 fun x30 =>
 vIdx v0 x7 1 fun p33 =>
 ldI .i64 h_3 p33 fun x34 =>
 bif decide (x30 ≥ x34) then
 R (.bool false) h_3
 else
 ag1 J n (zw (x7 + 1)) h_3
 else
 ag1 J n (zw (x7 + 1)) h_3
 else
 R (.bool true) h_2) : CallsH P Zfd #[v0, zi x1, zi x2] h R := zv ⟨[(2, [(7, .i .i64)])], [], []⟩ Tryz.func156 hv
theorem Zlr {v0 : Value} {x1 : Int} (hv :
 vLen v0 fun n6 =>
 bif decide ((n6 : Int) > 0) then
 zB Zfd #[v0, zi 0, zi (zw (x1 - 1))] h fun b12 h_2 =>
 R (.bool b12) h_2
 else
 R (.bool false) h) : CallsH P ZfG #[v0, zi x1] h R := zv ⟨[], [], []⟩ Tryz.func130 hv
theorem ZmI {v0 v1 : Value} (hv :
 ∃ J : Heap → Prop, (
 lq1 (0 : Int) h fun J_2 n x5 h_2 =>
 ∃ J_3 : Heap → Prop, (
 vLen v0 fun n8 =>
 bif decide (x5 < (n8 : Int)) then
 vLen v1 fun n13 =>
 bif decide (x5 < (n13 : Int)) then
 J_3 h_2
 else
 J h_2
 else
 J h_2
 ) ∧ ∀ (_ : Env) (h_3 : Heap), J_3 h_3 →
 vIdx v0 x5 1 fun p20 =>
 ldI .i64 h_3 p20 fun x21 =>
 vIdx v1 x5 1 fun p24 =>
 ldI .i64 h_3 p24 fun x25 =>
 bif decide (x21 < x25) then
 R (zi (-1)) h_3
 else
 vIdx v0 x5 1 fun p29 =>
 ldI .i64 h_3 p29 fun x30 =>
 vIdx v1 x5 1 fun p33 =>
 ldI .i64 h_3 p33 fun x34 =>
 bif decide (x30 > x34) then
 R (zi 1) h_3
 else
 ag1 J_2 n (zw (x5 + 1)) h_3
 ) ∧ ∀ (_ : Env) (h_4 : Heap), J h_4 →
 vLen v0 fun n37 =>
 vLen v1 fun n39 =>
 bif decide ((n37 : Int) < (n39 : Int)) then
 R (zi (-1)) h_4
 else
 vLen v0 fun n42 =>
 vLen v1 fun n44 =>
 bif decide ((n42 : Int) > (n44 : Int)) then
 R (zi 1) h_4
 else
 R (zi 0) h_4) : CallsH P Zge #[v0, v1] h R := zv ⟨[(2, [(5, .i .i64)])], [(4, []), (8, [])], []⟩ Tryz.func131 hv
theorem Znr {p0 : Addr} (hv :
 ∃ J : Heap → Prop, (
 ldI .i64 h p0 fun x7 =>
 zB Zed #[zi x7, zi 1, zi 32] h fun b8 h_2 =>
 bif !b8 then
 R (.bool false) h_2
 else
 ldV h_2 (p0.add 1) fun v14 =>
 vLen v14 fun n15 =>
 bif decide ((n15 : Int) > 128) then
 R (.bool false) h_2
 else
 J h_2
 ) ∧ ∀ (_ : Env) (h_3 : Heap), J h_3 →
 lq1 (0 : Int) h_3 fun J_2 n x3 h_4 =>
 ldV h_4 (p0.add 1) fun v22 =>
 vLen v22 fun n23 =>
 bif decide (x3 < (n23 : Int)) then
 ldV h_4 (p0.add 1) fun v30 =>
 vIdx v30 x3 1 fun p32 =>
 ldV h_4 p32 fun v33 =>
 ldI .i64 h_4 p0 fun x37 =>
 zB ZfG #[v33, zi x37] h_4 fun b38 h_5 =>
 bif !b38 then
 R (.bool false) h_5
 else
 bif decide (x3 > 0) then
 ldV h_5 (p0.add 1) fun v47 =>
 vIdx v47 (zw (x3 - 1)) 1 fun p50 =>
 ldV h_5 p50 fun v51 =>
 ldV h_5 (p0.add 1) fun v55 =>
 vIdx v55 x3 1 fun p57 =>
 ldV h_5 p57 fun v58 =>
 zI Zge #[v51, v58] h_5 fun x59 h_6 =>
 bif decide (x59 > 0) then
 R (.bool false) h_6
 else
 ag1 J_2 n (zw (x3 + 1)) h_6
 else
 ag1 J_2 n (zw (x3 + 1)) h_5
 else
 R (.bool true) h_4) : CallsH P ZcU #[.pointer (some p0)] h R := zv ⟨[(4, [(3, .i .i64)])], [(3, [])], []⟩ Tryz.func89 hv
theorem Zpl {v0 : Value} {x1 : Int} (hv :
 lq1 (0 : Int) h fun J n x5 h_2 =>
 vLen v0 fun n8 =>
 bif decide (x5 < (n8 : Int)) then
 vIdx v0 x5 1 fun p14 =>
 ldI .i64 h_2 p14 fun x15 =>
 bif x15 == x1 then
 R (.bool true) h_2
 else
 ag1 J n (zw (x5 + 1)) h_2
 else
 R (.bool false) h_2) : CallsH P ZdZ #[v0, zi x1] h R := zv ⟨[(2, [(5, .i .i64)])], [], []⟩ Tryz.func136 hv
theorem Zml {p0 : Addr} (hv :
 vNewS h (.cells #[] ZB) 0 fun v8 h_2 =>
 lq2 v8 (0 : Int) h_2 fun J n v3 x4 h_3 =>
 ldI .i64 h_3 p0 fun x13 =>
 bif decide (x4 < x13) then
 lq2 v3 (zw (x4 + 1)) h_3 fun J_2 n_3 v3_2 x5 h_4 =>
 ldI .i64 h_4 p0 fun x23 =>
 bif decide (x5 < x23) then
 lq2 (0 : Int) (0 : Int) h_4 fun J_3 n_5 x6 x7 h_5 =>
 ldV h_5 (p0.add 1) fun v31 =>
 vLen v31 fun n32 =>
 bif decide (x7 < (n32 : Int)) then
 ldV h_5 (p0.add 1) fun v39 =>
 vIdx v39 x7 1 fun p41 =>
 ldV h_5 p41 fun v42 =>
 zB ZdZ #[v42, zi x4] h_5 fun b44 h_6 =>
 bif b44 then
 ldV h_6 (p0.add 1) fun v49 =>
 vIdx v49 x7 1 fun p51 =>
 ldV h_6 p51 fun v52 =>
 zB ZdZ #[v52, zi x5] h_6 fun b54 h_7 =>
 bif b54 then
 ag2 J_3 n_5 (zw (x6 + 1)) (zw (x7 + 1)) h_7
 else
 ag2 J_3 n_5 x6 (zw (x7 + 1)) h_7
 else
 ag2 J_3 n_5 x6 (zw (x7 + 1)) h_6
 else
 vNewS h_5 (.cells #[zi x6] ZB) 1 fun v60 h_8 =>
 vAppend 1 8 [zi 0] ZB v3_2 v60 h_8 fun v61 h_9 =>
 ag2 J_2 n_3 v61 (zw (x5 + 1)) h_9
 else
 ag2 J n v3_2 (zw (x4 + 1)) h_4
 else
 R v3 h_3) : CallsH P Zdb #[.pointer (some p0)] h R := zv ⟨[(3, [(3, .v), (4, .i .i64)]), (6, [(3, .v), (5, .i .i64)]), (10, [(6, .i .i64), (7, .i .i64)])], [], []⟩ Tryz.func96 hv
theorem Zkk {p0 : Addr} (hv :
 ldI .i64 h p0 fun x9 =>
 vMake 8 [zi 0] ZB x9 x9 h fun v10 h_2 =>
 lq1 (0 : Int) h_2 fun J n x4 h_3 =>
 ldV h_3 (p0.add 1) fun v15 =>
 vLen v15 fun n16 =>
 bif decide (x4 < (n16 : Int)) then
 lq1 (0 : Int) h_3 fun J_2 n_3 x5 h_4 =>
 ldV h_4 (p0.add 1) fun v24 =>
 vIdx v24 x4 1 fun p26 =>
 ldV h_4 p26 fun v27 =>
 vLen v27 fun n28 =>
 bif decide (x5 < (n28 : Int)) then
 ldV h_4 (p0.add 1) fun v36 =>
 vIdx v36 x4 1 fun p38 =>
 ldV h_4 p38 fun v39 =>
 vIdx v39 x5 1 fun p41 =>
 ldI .i64 h_4 p41 fun x42 =>
 vIdx v10 x42 1 fun p43 =>
 ldI .i64 h_4 p43 fun x44 =>
 vIdx v10 x42 1 fun p46 =>
 vStore1 h_4 p46 (zi (zw (x44 + 1))) fun h_5 =>
 ag1 J_2 n_3 (zw (x5 + 1)) h_5
 else
 ag1 J n (zw (x4 + 1)) h_4
 else
 R v10 h_3) : CallsH P Zgw #[.pointer (some p0)] h R := zv ⟨[(3, [(4, .i .i64)]), (6, [(5, .i .i64)])], [], []⟩ Tryz.func132 hv
theorem Zld {p0 : Addr} (hv :
 vNew h (.cells #[zi 0, zi 0, zi 0, zi 0, zi 0] ZiB) fun p2 h_2 =>
 ∃ J : Heap → Prop, (
 ldI .i64 h_2 p0 fun x11 =>
 bif decide (x11 < 2) then
 vStore1 h_2 p2 (zi 0) fun h_3 =>
 vStore1 h_3 (p2.add 1) (zi 0) fun h_4 =>
 vStore1 h_4 (p2.add 2) (zi 0) fun h_5 =>
 vStore1 h_5 (p2.add 3) (zi 0) fun h_6 =>
 vStore1 h_6 (p2.add 4) (zi 0) fun h_7 =>
 ldI .i64 h_7 p2 fun xres0_0 =>
 ldI .i64 h_7 (p2.add 1) fun xres0_1 =>
 ldI .i64 h_7 (p2.add 2) fun xres0_2 =>
 ldI .i64 h_7 (p2.add 3) fun xres0_3 =>
 ldI .i64 h_7 (p2.add 4) fun xres0_4 =>
 R (.tuple #[.agg #[zi xres0_0, zi xres0_1, zi xres0_2, zi xres0_3, zi xres0_4], .bool false]) h_7
 else
 ldV h_2 (p0.add 1) fun v17 =>
 vLen v17 fun n18 =>
 bif (n18 : Int) == 0 then
 vStore1 h_2 p2 (zi 0) fun h_8 =>
 vStore1 h_8 (p2.add 1) (zi 0) fun h_9 =>
 vStore1 h_9 (p2.add 2) (zi 0) fun h_10 =>
 vStore1 h_10 (p2.add 3) (zi 0) fun h_11 =>
 vStore1 h_11 (p2.add 4) (zi 0) fun h_12 =>
 ldI .i64 h_12 p2 fun xres0_0_2 =>
 ldI .i64 h_12 (p2.add 1) fun xres0_1_2 =>
 ldI .i64 h_12 (p2.add 2) fun xres0_2_2 =>
 ldI .i64 h_12 (p2.add 3) fun xres0_3_2 =>
 ldI .i64 h_12 (p2.add 4) fun xres0_4_2 =>
 R (.tuple #[.agg #[zi xres0_0_2, zi xres0_1_2, zi xres0_2_2, zi xres0_3_2, zi xres0_4_2], .bool false]) h_12
 else
 J h_2
 ) ∧ ∀ (_ : Env) (h_13 : Heap), J h_13 →
 ldV h_13 (p0.add 1) fun v25 =>
 vIdx v25 0 1 fun p26 =>
 ldV h_13 p26 fun v27 =>
 vLen v27 fun n28 =>
 lq1 (0 : Int) h_13 fun J_2 n x5 h_14 =>
 ldV h_14 (p0.add 1) fun v33 =>
 vLen v33 fun n34 =>
 bif decide (x5 < (n34 : Int)) then
 ldV h_14 (p0.add 1) fun v41 =>
 vIdx v41 x5 1 fun p43 =>
 ldV h_14 p43 fun v44 =>
 vLen v44 fun n45 =>
 bif (n45 : Int) != (n28 : Int) then
 vStore1 h_14 p2 (zi 0) fun h_15 =>
 vStore1 h_15 (p2.add 1) (zi 0) fun h_16 =>
 vStore1 h_16 (p2.add 2) (zi 0) fun h_17 =>
 vStore1 h_17 (p2.add 3) (zi 0) fun h_18 =>
 vStore1 h_18 (p2.add 4) (zi 0) fun h_19 =>
 ldI .i64 h_19 p2 fun xres0_0_3 =>
 ldI .i64 h_19 (p2.add 1) fun xres0_1_3 =>
 ldI .i64 h_19 (p2.add 2) fun xres0_2_3 =>
 ldI .i64 h_19 (p2.add 3) fun xres0_3_3 =>
 ldI .i64 h_19 (p2.add 4) fun xres0_4_3 =>
 R (.tuple #[.agg #[zi xres0_0_3, zi xres0_1_3, zi xres0_2_3, zi xres0_3_3, zi xres0_4_3], .bool false]) h_19
 else
 bif decide ((n28 : Int) < 2) then
 vStore1 h_14 p2 (zi 0) fun h_20 =>
 vStore1 h_20 (p2.add 1) (zi 0) fun h_21 =>
 vStore1 h_21 (p2.add 2) (zi 0) fun h_22 =>
 vStore1 h_22 (p2.add 3) (zi 0) fun h_23 =>
 vStore1 h_23 (p2.add 4) (zi 0) fun h_24 =>
 ldI .i64 h_24 p2 fun xres0_0_4 =>
 ldI .i64 h_24 (p2.add 1) fun xres0_1_4 =>
 ldI .i64 h_24 (p2.add 2) fun xres0_2_4 =>
 ldI .i64 h_24 (p2.add 3) fun xres0_3_4 =>
 ldI .i64 h_24 (p2.add 4) fun xres0_4_4 =>
 R (.tuple #[.agg #[zi xres0_0_4, zi xres0_1_4, zi xres0_2_4, zi xres0_3_4, zi xres0_4_4], .bool false]) h_24
 else
 ag1 J_2 n (zw (x5 + 1)) h_14
 else
 zV Zdb #[.pointer (some p0)] h_14 fun v54 h_25 =>
 lq1 (0 : Int) h_25 fun J_3 n_3 x7 h_26 =>
 vLen v54 fun n57 =>
 bif decide (x7 < (n57 : Int)) then
 vIdx v54 x7 1 fun p63 =>
 ldI .i64 h_26 p63 fun x64 =>
 vIdx v54 0 1 fun p66 =>
 ldI .i64 h_26 p66 fun x67 =>
 bif x64 != x67 then
 vStore1 h_26 p2 (zi 0) fun h_27 =>
 vStore1 h_27 (p2.add 1) (zi 0) fun h_28 =>
 vStore1 h_28 (p2.add 2) (zi 0) fun h_29 =>
 vStore1 h_29 (p2.add 3) (zi 0) fun h_30 =>
 vStore1 h_30 (p2.add 4) (zi 0) fun h_31 =>
 ldI .i64 h_31 p2 fun xres0_0_5 =>
 ldI .i64 h_31 (p2.add 1) fun xres0_1_5 =>
 ldI .i64 h_31 (p2.add 2) fun xres0_2_5 =>
 ldI .i64 h_31 (p2.add 3) fun xres0_3_5 =>
 ldI .i64 h_31 (p2.add 4) fun xres0_4_5 =>
 R (.tuple #[.agg #[zi xres0_0_5, zi xres0_1_5, zi xres0_2_5, zi xres0_3_5, zi xres0_4_5], .bool false]) h_31
 else
 ag1 J_3 n_3 (zw (x7 + 1)) h_26
 else
 ∃ B : Nat → Prop,
 zV Zgw #[.pointer (some p0)] h_26 fun v80 h_32 =>
 ExtBut B h_26 h_32 ∧
 ldI .i64 (hmask B h_26) p0 fun x73 =>
 ldV (hmask B h_26) (p0.add 1) fun v77 =>
 vLen v77 fun n78 =>
 vIdx v80 0 1 fun p81 =>
 ldI .i64 h_32 p81 fun x82 =>
 vIdx v54 0 1 fun p85 =>
 ldI .i64 (hmask B h_26) p85 fun x86 =>
 vStore1 h_32 p2 (zi x73) fun h_33 =>
 vStore1 h_33 (p2.add 1) (zi (n78 : Int)) fun h_34 =>
 vStore1 h_34 (p2.add 2) (zi x82) fun h_35 =>
 vStore1 h_35 (p2.add 3) (zi (n28 : Int)) fun h_36 =>
 vStore1 h_36 (p2.add 4) (zi x86) fun h_37 =>
 ldI .i64 h_37 p2 fun xres0_0_6 =>
 ldI .i64 h_37 (p2.add 1) fun xres0_1_6 =>
 ldI .i64 h_37 (p2.add 2) fun xres0_2_6 =>
 ldI .i64 h_37 (p2.add 3) fun xres0_3_6 =>
 ldI .i64 h_37 (p2.add 4) fun xres0_4_6 =>
 R (.tuple #[.agg #[zi xres0_0_6, zi xres0_1_6, zi xres0_2_6, zi xres0_3_6, zi xres0_4_6], .bool true]) h_37) : CallsH P Ze4 #[.pointer (some p0)] h R := zv ⟨[(5, [(5, .i .i64)]), (11, [(7, .i .i64)])], [(3, [])], []⟩ Tryz.func90 hv
theorem Zlb {p0 : Addr} (hv :
 zB ZcU #[.pointer (some p0)] h fun b6 h_2 =>
 bif !b6 then
 R (.bool false) h_2
 else
 CallsH P Ze4 #[.pointer (some p0)] h_2 fun r10 h_3 => ∃ x10_0_0, ∃ x10_0_1, ∃ x10_0_2, ∃ x10_0_3, ∃ x10_0_4, ∃ (b10_1 : Bool), r10 = .tuple #[.agg #[zi x10_0_0, zi x10_0_1, zi x10_0_2, zi x10_0_3, zi x10_0_4], .bool b10_1] ∧
 vNew h_3 (.cells #[zi 0, zi 0, zi 0, zi 0, zi 0] ZiB) fun p3 h_4 =>
 vStore1 h_4 p3 (zi x10_0_0) fun h_5 =>
 vStore1 h_5 (p3.add 1) (zi x10_0_1) fun h_6 =>
 vStore1 h_6 (p3.add 2) (zi x10_0_2) fun h_7 =>
 vStore1 h_7 (p3.add 3) (zi x10_0_3) fun h_8 =>
 vStore1 h_8 (p3.add 4) (zi x10_0_4) fun h_9 =>
 bif b10_1 then
 ldI .i64 h_9 (p3.add 3) fun x16 =>
 bif x16 == 3 then
 ldI .i64 h_9 (p3.add 4) fun x21 =>
 R (.bool (x21 == 1)) h_9
 else
 R (.bool false) h_9
 else
 R (.bool false) h_9) : CallsH P ZhA #[.pointer (some p0)] h R := zv ⟨[], [], []⟩ Tryz.func51 hv
theorem Zko {x0_0 : Int} {v0_1 : Value} (hv :
 vNew h (.cells #[zi x0_0, v0_1] Zy) fun p1 h_2 =>
 zB ZhA #[.pointer (some p1)] h_2 fun b3 h_3 =>
 R (.bool b3) h_3) : CallsH P ZdR #[.agg #[zi x0_0, v0_1]] h R := zv ⟨[], [], []⟩ Tryz.func17 hv
theorem Zpb {x0_0 : Int} {v0_1 : Value} {x1 x2 x3 : Int} (hv :
 vNew h (.cells #[zi x0_0, v0_1] Zy) fun p4 h_2 =>
 vNew h_2 (.cells #[zi 0, .slice none 0 0] Zy) fun p8 h_3 =>
 ldI .i64 h_3 p4 fun x10_0 =>
 ldV h_3 (p4.add 1) fun v10_1 =>
 zB ZbN #[.agg #[zi x10_0, v10_1]] h_3 fun b11 h_4 =>
 bif !b11 then
 vStore1 h_4 p8 (zi 0) fun h_5 =>
 vStore1 h_5 (p8.add 1) (.slice none 0 0) fun h_6 =>
 ldI .i64 h_6 p8 fun xres0_0 =>
 ldV h_6 (p8.add 1) fun vres0_1 =>
 R (.tuple #[.agg #[zi xres0_0, vres0_1], zi 1]) h_6
 else
 ldI .i64 h_4 p4 fun x14_0 =>
 ldV h_4 (p4.add 1) fun v14_1 =>
 CallsH P Zeg #[.agg #[zi x14_0, v14_1], zi x1, zi x2, zi x3] h_4 fun r18 h_7 => ∃ x18_0_0, ∃ (v18_0_1 : Value), ∃ x18_1, r18 = .tuple #[.agg #[zi x18_0_0, v18_0_1], zi x18_1] ∧
 vStore1 h_7 p8 (zi x18_0_0) fun h_8 =>
 vStore1 h_8 (p8.add 1) v18_0_1 fun h_9 =>
 ldI .i64 h_9 p8 fun xres0_0_2 =>
 ldV h_9 (p8.add 1) fun vres0_1_2 =>
 R (.tuple #[.agg #[zi xres0_0_2, vres0_1_2], zi x18_1]) h_9) : CallsH P ZeU #[.agg #[zi x0_0, v0_1], zi x1, zi x2, zi x3] h R := zv ⟨[], [], []⟩ Tryz.func18 hv
theorem ZpC {x0_0 : Int} {v0_1 : Value} {x1 x2 : Int} (hv :
 vNew h (.cells #[zi x0_0, v0_1] Zy) fun p3 h_2 =>
 ldI .i64 h_2 p3 fun x10_0 =>
 ldV h_2 (p3.add 1) fun v10_1 =>
 zB ZbN #[.agg #[zi x10_0, v10_1]] h_2 fun b11 h_3 =>
 bif !b11 then
 R (.tuple #[(.slice none 0 0), zi 1]) h_3
 else
 ldI .i64 h_3 p3 fun x13_0 =>
 ldV h_3 (p3.add 1) fun v13_1 =>
 zB Zeq #[.agg #[zi x13_0, v13_1], zi x1, zi x2] h_3 fun b16 h_4 =>
 bif !b16 then
 R (.tuple #[(.slice none 0 0), zi 6]) h_4
 else
 ldI .i64 h_4 p3 fun x18_0 =>
 ldV h_4 (p3.add 1) fun v18_1 =>
 zV Zdd #[.agg #[zi x18_0, v18_1]] h_4 fun v19 h_5 =>
 vLen v19 fun n21 =>
 lq1 (0 : Int) h_5 fun J n x22 h_6 =>
 bif decide (x22 < (n21 : Int)) then
 vIdx v19 x22 1 fun p30 =>
 ldI .i64 h_6 p30 fun x31 =>
 vIdx v19 x22 1 fun p33 =>
 vStore1 h_6 p33 (zi (zw (x2 - x31))) fun h_7 =>
 ag1 J n (zw (x22 + 1)) h_7
 else
 R (.tuple #[v19, zi 0]) h_6) : CallsH P Zho #[.agg #[zi x0_0, v0_1], zi x1, zi x2] h R := zv ⟨[(7, [(22, .i .i64)])], [], []⟩ Tryz.func19 hv
theorem ZlA {v0 v1 : Value} (hv :
 vLen v0 fun n7 =>
 vLen v1 fun n9 =>
 bif (n7 : Int) != (n9 : Int) then
 R (.bool false) h
 else
 lq1 (0 : Int) h fun J n x5 h_2 =>
 vLen v0 fun n13 =>
 bif decide (x5 < (n13 : Int)) then
 vIdx v0 x5 1 fun p19 =>
 ldI .i64 h_2 p19 fun x20 =>
 vIdx v1 x5 1 fun p23 =>
 ldI .i64 h_2 p23 fun x24 =>
 bif x20 != x24 then
 R (.bool false) h_2
 else
 ag1 J n (zw (x5 + 1)) h_2
 else
 R (.bool true) h_2) : CallsH P ZgO #[v0, v1] h R := zv ⟨[(4, [(5, .i .i64)])], [], []⟩ Tryz.func95 hv
theorem ZmC {p0 : Addr} {x1 x2 : Int} (hv :
 ∃ J : Heap → Prop, (
 zB ZcU #[.pointer (some p0)] h fun b11 h_2 =>
 bif !b11 then
 R (.bool false) h_2
 else
 bif decide (x2 < 1) then
 R (.bool false) h_2
 else
 J h_2
 ) ∧ ∀ (_ : Env) (h_3 : Heap), J h_3 →
 lq1 (0 : Int) h_3 fun J_2 n x7 h_4 =>
 ldV h_4 (p0.add 1) fun v21 =>
 vLen v21 fun n22 =>
 bif decide (x7 < (n22 : Int)) then
 ldV h_4 (p0.add 1) fun v29 =>
 vIdx v29 x7 1 fun p31 =>
 ldV h_4 p31 fun v32 =>
 vLen v32 fun n33 =>
 bif (n33 : Int) != x1 then
 R (.bool false) h_4
 else
 bif decide (x7 > 0) then
 ldV h_4 (p0.add 1) fun v43 =>
 vIdx v43 x7 1 fun p45 =>
 ldV h_4 p45 fun v46 =>
 ldV h_4 (p0.add 1) fun v50 =>
 vIdx v50 (zw (x7 - 1)) 1 fun p53 =>
 ldV h_4 p53 fun v54 =>
 zB ZgO #[v46, v54] h_4 fun b55 h_5 =>
 bif b55 then
 R (.bool false) h_5
 else
 ag1 J_2 n (zw (x7 + 1)) h_5
 else
 ag1 J_2 n (zw (x7 + 1)) h_4
 else
 zV Zdb #[.pointer (some p0)] h_4 fun v59 h_6 =>
 lq1 (0 : Int) h_6 fun J_3 n_3 x9 h_7 =>
 vLen v59 fun n62 =>
 bif decide (x9 < (n62 : Int)) then
 vIdx v59 x9 1 fun p68 =>
 ldI .i64 h_7 p68 fun x69 =>
 bif decide (x69 > x2) then
 R (.bool false) h_7
 else
 ag1 J_3 n_3 (zw (x9 + 1)) h_7
 else
 R (.bool true) h_7) : CallsH P Zfo #[.pointer (some p0), zi x1, zi x2] h R := zv ⟨[(4, [(7, .i .i64)]), (10, [(9, .i .i64)])], [(3, [])], []⟩ Tryz.func54 hv
theorem Zk7 {x0_0 : Int} {v0_1 : Value} {x1 x2 : Int} (hv :
 vNew h (.cells #[zi x0_0, v0_1] Zy) fun p3 h_2 =>
 zB Zfo #[.pointer (some p3), zi x1, zi x2] h_2 fun b9 h_3 =>
 R (.bool b9) h_3) : CallsH P Zdn #[.agg #[zi x0_0, v0_1], zi x1, zi x2] h R := zv ⟨[], [], []⟩ Tryz.func20 hv
theorem ZkF {v0 v1 : Value} (hv :
 vLen v0 fun n7 =>
 vLen v1 fun n9 =>
 bif (n7 : Int) != (n9 : Int) then
 R (.bool false) h
 else
 lq1 (0 : Int) h fun J n x5 h_2 =>
 vLen v0 fun n13 =>
 bif decide (x5 < (n13 : Int)) then
 vIdx v0 x5 1 fun p19 =>
 ldI .i64 h_2 p19 fun x20 =>
 vIdx v1 x5 1 fun p23 =>
 ldI .i64 h_2 p23 fun x24 =>
 bif x20 != x24 then
 R (.bool false) h_2
 else
 ag1 J n (zw (x5 + 1)) h_2
 else
 R (.bool true) h_2) : CallsH P ZeQ #[v0, v1] h R := zv ⟨[(4, [(5, .i .i64)])], [], []⟩ Tryz.func21 hv
theorem ZnX {x0 x1 x2 : Int} (hv :
 vNew h (.cells #[zi 0, .slice none 0 0] Zy) fun p6 h_2 =>
 zB Zdg #[zi x0, zi x1, zi x2] h_2 fun b15 h_3 =>
 bif !b15 then
 vStore1 h_3 p6 (zi 0) fun h_4 =>
 vStore1 h_4 (p6.add 1) (.slice none 0 0) fun h_5 =>
 ldI .i64 h_5 p6 fun xres0_0 =>
 ldV h_5 (p6.add 1) fun vres0_1 =>
 R (.tuple #[.agg #[zi xres0_0, vres0_1], zi 2]) h_5
 else
 zI ZaT #[zi x0, zi x1] h_3 fun x20 h_6 =>
 bif decide (x20 > 1500) then
 vStore1 h_6 p6 (zi 0) fun h_7 =>
 vStore1 h_7 (p6.add 1) (.slice none 0 0) fun h_8 =>
 ldI .i64 h_8 p6 fun xres0_0_2 =>
 ldV h_8 (p6.add 1) fun vres0_1_2 =>
 R (.tuple #[.agg #[zi xres0_0_2, vres0_1_2], zi 5]) h_8
 else
 vNew h_6 (.cells #[zi 0, .slice none 0 0] Zy) fun p8 h_9 =>
 vStore1 h_9 p8 (zi x0) fun h_10 =>
 vStore1 h_10 (p8.add 1) (.slice none 0 0) fun h_11 =>
 ldI .i64 h_11 p8 fun x25_0 =>
 ldV h_11 (p8.add 1) fun v25_1 =>
 zV ZdK #[.agg #[zi x25_0, v25_1]] h_11 fun v26 h_12 =>
 zV ZbG #[zi x0, zi x1] h_12 fun v29 h_13 =>
 vLen v29 fun n30 =>
 lq1 (0 : Int) h_13 fun J n x31 h_14 =>
 bif decide (x31 < (n30 : Int)) then
 vIdx v29 x31 1 fun p33 =>
 ldV h_14 p33 fun v34 =>
 zI Zdi #[v26, v34] h_14 fun x37 h_15 =>
 bif decide (x37 < x2) then
 CallsH P ZaA #[v26, v34, zi 1] h_15 fun r42 h_16 => r42 = .tuple #[] ∧
 ldV h_16 (p8.add 1) fun v44 =>
 vOne v34 fun _ =>
 vNewS h_16 (.cells #[v34] ZD) 1 fun v46 h_17 =>
 vAppend 1 24 [.slice none 0 0] ZD v44 v46 h_17 fun v47 h_18 =>
 vStore1 h_18 (p8.add 1) v47 fun h_19 =>
 ag1 J n (zw (x31 + 1)) h_19
 else
 ag1 J n (zw (x31 + 1)) h_15
 else
 ldV h_14 (p8.add 1) fun v52 =>
 CallsH P Zek #[zi x0, v52] h_14 fun r53 h_20 => ∃ x53_0_0, ∃ (v53_0_1 : Value), ∃ x53_1, r53 = .tuple #[.agg #[zi x53_0_0, v53_0_1], zi x53_1] ∧
 vStore1 h_20 p6 (zi x53_0_0) fun h_21 =>
 vStore1 h_21 (p6.add 1) v53_0_1 fun h_22 =>
 ldI .i64 h_22 p6 fun xres0_0_3 =>
 ldV h_22 (p6.add 1) fun vres0_1_3 =>
 R (.tuple #[.agg #[zi xres0_0_3, vres0_1_3], zi x53_1]) h_22) : CallsH P ZfY #[zi x0, zi x1, zi x2] h R := zv ⟨[(8, [(31, .i .i64)])], [], []⟩ Tryz.func22 hv
theorem Znk {v0 v1 : Value} (hv :
 zB ZfV #[v0, v1] h fun b30 h_2 =>
 bif b30 then
 R (.bool true) h_2
 else
 zI Zda #[v0, zi 0, zi 5] h_2 fun x32 h_3 =>
 CallsH P Ze0 #[zi (zw (3 + x32))] h_3 fun r36 h_4 => ∃ x36_0_0, ∃ (v36_0_1 : Value), ∃ x36_1, r36 = .tuple #[.agg #[zi x36_0_0, v36_0_1], zi x36_1] ∧
 vNew h_4 (.cells #[zi 0, .slice none 0 0] Z2) fun p6 h_5 =>
 vStore1 h_5 p6 (zi x36_0_0) fun h_6 =>
 vStore1 h_6 (p6.add 1) v36_0_1 fun h_7 =>
 ldI .i64 h_7 p6 fun x40_0 =>
 ldV h_7 (p6.add 1) fun v40_1 =>
 CallsH P Zfz #[.agg #[zi x40_0, v40_1], zi 20000] h_7 fun r41 h_8 => ∃ x41_0, ∃ x41_1, r41 = .tuple #[zi x41_0, zi x41_1] ∧
 vNew h_8 (.cells #[zi 0, .slice none 0 0] Zy) fun p10 h_9 =>
 vStore1 h_9 p10 (zi (zw (3 + x32))) fun h_10 =>
 vStore1 h_10 (p10.add 1) (.slice none 0 0) fun h_11 =>
 ldI .i64 h_11 p10 fun x47_0 =>
 ldV h_11 (p10.add 1) fun v47_1 =>
 CallsH P ZhG #[.agg #[zi x47_0, v47_1], zi 3, zi 1, zi 20000] h_11 fun r48 h_12 => ∃ x48_0, ∃ x48_1, r48 = .tuple #[zi x48_0, zi x48_1] ∧
 ∃ J : Heap → Prop, (
 bif x36_1 != 0 then
 R (.bool false) h_12
 else
 bif x41_1 != 0 then
 R (.bool false) h_12
 else
 bif x48_1 != 0 then
 R (.bool false) h_12
 else
 bif x41_0 != x48_0 then
 R (.bool false) h_12
 else
 J h_12
 ) ∧ ∀ (_ : Env) (h_13 : Heap), J h_13 →
 CallsH P ZeW #[zi (zw (3 + x32)), zi 3, zi 1, zi 20000] h_13 fun r68 h_14 => ∃ x68_0_0, ∃ (v68_0_1 : Value), ∃ x68_1, r68 = .tuple #[.agg #[zi x68_0_0, v68_0_1], zi x68_1] ∧
 vNew h_14 (.cells #[zi 0, .slice none 0 0] Zy) fun p13 h_15 =>
 vStore1 h_15 p13 (zi x68_0_0) fun h_16 =>
 vStore1 h_16 (p13.add 1) v68_0_1 fun h_17 =>
 ∃ J_2 : Heap → Prop, (
 bif !((x68_1 == 0) == (decide (x41_0 > 0))) then
 R (.bool false) h_17
 else
 bif x68_1 == 0 then
 ldI .i64 h_17 p13 fun x80_0 =>
 ldV h_17 (p13.add 1) fun v80_1 =>
 zB ZdR #[.agg #[zi x80_0, v80_1]] h_17 fun b81 h_18 =>
 bif !b81 then
 R (.bool false) h_18
 else
 J_2 h_18
 else
 J_2 h_17
 ) ∧ ∀ (_ : Env) (h_19 : Heap), J_2 h_19 →
 bif x68_1 != 0 then
 R (.bool (x68_1 == 3)) h_19
 else
 ldV h_19 (p13.add 1) fun v91 =>
 vLen v91 fun n92 =>
 zI Zda #[v1, zi 0, zi (zw ((n92 : Int) + 1))] h_19 fun x94 h_20 =>
 vNewS h_20 (.cells #[] ZD) 0 fun v96 h_21 =>
 ldV h_21 (p13.add 1) fun v98 =>
 vSliceS v98 1 none (some (zi x94)) none fun v100 =>
 vAppend 1 24 [.slice none 0 0] ZD v96 v100 h_21 fun v101 h_22 =>
 vOne v101 fun _ =>
 vNew h_22 (.cells #[zi 0, .slice none 0 0] Zy) fun p16 h_23 =>
 vStore1 h_23 p16 (zi (zw (3 + x32))) fun h_24 =>
 vStore1 h_24 (p16.add 1) v101 fun h_25 =>
 ldI .i64 h_25 p16 fun x104_0 =>
 ldV h_25 (p16.add 1) fun v104_1 =>
 CallsH P ZeU #[.agg #[zi x104_0, v104_1], zi 3, zi 1, zi 20000] h_25 fun r105 h_26 => ∃ x105_0_0, ∃ (v105_0_1 : Value), ∃ x105_1, r105 = .tuple #[.agg #[zi x105_0_0, v105_0_1], zi x105_1] ∧
 vNew h_26 (.cells #[zi 0, .slice none 0 0] Zy) fun p17 h_27 =>
 vStore1 h_27 p17 (zi x105_0_0) fun h_28 =>
 vStore1 h_28 (p17.add 1) v105_0_1 fun h_29 =>
 ldI .i64 h_29 p16 fun x109_0 =>
 ldV h_29 (p16.add 1) fun v109_1 =>
 CallsH P Zho #[.agg #[zi x109_0, v109_1], zi 3, zi 1] h_29 fun r110 h_30 => ∃ (v110_0 : Value), ∃ x110_1, r110 = .tuple #[v110_0, zi x110_1] ∧
 ∃ J_3 : Heap → Prop, (
 bif x105_1 != 0 then
 R (.bool false) h_30
 else
 bif x110_1 != 0 then
 R (.bool false) h_30
 else
 ldI .i64 h_30 p17 fun x120_0 =>
 ldV h_30 (p17.add 1) fun v120_1 =>
 zB ZdR #[.agg #[zi x120_0, v120_1]] h_30 fun b121 h_31 =>
 bif !b121 then
 R (.bool false) h_31
 else
 ldI .i64 h_31 p16 fun x125_0 =>
 ldV h_31 (p16.add 1) fun v125_1 =>
 zB Zdn #[.agg #[zi x125_0, v125_1], zi 3, zi 1] h_31 fun b126 h_32 =>
 bif !b126 then
 R (.bool false) h_32
 else
 J_3 h_32
 ) ∧ ∀ (_ : Env) (h_33 : Heap), J_3 h_33 →
 lq2 (0 : Int) (0 : Int) h_33 fun J_4 n x21 x22 h_34 =>
 vLen v110_0 fun n131 =>
 bif decide (x22 < (n131 : Int)) then
 vIdx v110_0 x22 1 fun p138 =>
 ldI .i64 h_34 p138 fun x139 =>
 ag2 J_4 n (zw (x21 + x139)) (zw (x22 + 1)) h_34
 else
 lq1 (0 : Int) h_34 fun J_5 n_3 x23 h_35 =>
 ldV h_35 (p16.add 1) fun v143 =>
 vLen v143 fun n144 =>
 bif decide (x23 < (n144 : Int)) then
 lq2 false (0 : Int) h_35 fun J_6 n_5 b24 x25 h_36 =>
 ldV h_36 (p17.add 1) fun v150 =>
 vLen v150 fun n151 =>
 bif decide (x25 < (n151 : Int)) then
 bif b24 then
 ag2 J_6 n_5 true (zw (x25 + 1)) h_36
 else
 ldV h_36 (p16.add 1) fun v158 =>
 vIdx v158 x23 1 fun p160 =>
 ldV h_36 p160 fun v161 =>
 ldV h_36 (p17.add 1) fun v163 =>
 vIdx v163 x25 1 fun p165 =>
 ldV h_36 p165 fun v166 =>
 zB ZeQ #[v161, v166] h_36 fun b167 h_37 =>
 ag2 J_6 n_5 b167 (zw (x25 + 1)) h_37
 else
 bif !b24 then
 R (.bool false) h_36
 else
 ag1 J_5 n_3 (zw (x23 + 1)) h_36
 else
 CallsH P ZfY #[zi (zw (3 + x32)), zi 3, zi 1] h_35 fun r173 h_38 => ∃ x173_0_0, ∃ (v173_0_1 : Value), ∃ x173_1, r173 = .tuple #[.agg #[zi x173_0_0, v173_0_1], zi x173_1] ∧
 vNew h_38 (.cells #[zi 0, .slice none 0 0] Zy) fun p26 h_39 =>
 vStore1 h_39 p26 (zi x173_0_0) fun h_40 =>
 vStore1 h_40 (p26.add 1) v173_0_1 fun h_41 =>
 (2 : Int) ≠ 0 ∧
 bif x21 == (zw ((zw (Int.tdiv (zw ((zw (3 + x32)) * (zw ((zw (3 + x32)) - 1)))) 2)) - (zw (3 * x94)))) then
 bif x173_1 == 0 then
 ldI .i64 h_41 p26 fun x191_0 =>
 ldV h_41 (p26.add 1) fun v191_1 =>
 zB Zdn #[.agg #[zi x191_0, v191_1], zi 3, zi 1] h_41 fun b192 h_42 =>
 R (.bool b192) h_42
 else
 R (.bool false) h_41
 else
 R (.bool false) h_41) : CallsH P Zgd #[v0, v1] h R := zv ⟨[(23, [(21, .i .i64), (22, .i .i64)]), (27, [(23, .i .i64)]), (31, [(24, .b), (25, .i .i64)])], [(10, []), (13, []), (21, [])], []⟩ Tryz.func4 hv
end Go.Proofs.YtocnokjekoglnaaGreat
