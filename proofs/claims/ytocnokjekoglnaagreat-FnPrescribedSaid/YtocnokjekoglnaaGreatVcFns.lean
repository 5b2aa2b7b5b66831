import Derived.Test.YtocnokjekoglnaaGreatVcSoundE
import Derived.Test.YtocnokjekoglnaaGreatVcDn
import Derived.Test.YtocnokjekoglnaaGreatPuBase
import Derived.Test.YtocnokjekoglnaaGreatProg
import Derived.KernelRfl
namespace Go.Proofs.YtocnokjekoglnaaGreat
set_option linter.unusedSimpArgs false
open Go Go.Vc Go.Proofs
set_option linter.unusedVariables false
set_option maxRecDepth 100000
noncomputable abbrev P : Program := Tryz.prog
abbrev zw (x : Int) : Int := IntKind.i64.wrap x
abbrev zi (x : Int) : Value := .int .i64 x
abbrev zB (f : FuncId) (a : Array Value) (h : Heap) (K : Bool → Heap → Prop) : Prop := CallsH P f a h fun r h' => ∃ b, r = .bool b ∧ K b h'
abbrev zI (f : FuncId) (a : Array Value) (h : Heap) (K : Int → Heap → Prop) : Prop := CallsH P f a h fun r h' => ∃ x, r = .int .i64 x ∧ K x h'
abbrev zV (f : FuncId) (a : Array Value) (h : Heap) (K : Value → Heap → Prop) : Prop := CallsH P f a h fun r h' => ∃ v, r = v ∧ K v h'
abbrev zS (f : FuncId) (a : Array Value) (h : Heap) (K : ByteArray → Heap → Prop) : Prop := CallsH P f a h fun r h' => ∃ s, r = .string s ∧ K s h'
abbrev Zf2 : Nat := 5
abbrev ZfI : Nat := 23
abbrev Zdn : Nat := 131
abbrev Zf9 : Nat := 106
abbrev Zgu : Nat := 64
abbrev Zcr : Nat := 26
abbrev ZeN : Nat := 98
abbrev ZV : Nat := 60
abbrev Z8 : Nat := 27
abbrev ZeB : Nat := 100
abbrev ZfS : Nat := 99
abbrev Zh4 : Nat := 101
abbrev Zfq : Nat := 61
abbrev ZbD : Nat := 139
abbrev ZdK : Nat := 104
abbrev Zgg : Nat := 140
abbrev Zgj : Nat := 102
abbrev ZhG : Nat := 141
abbrev ZfC : Nat := 142
abbrev Zhv : Nat := 143
abbrev Zh6 : Nat := 103
abbrev ZfT : Nat := 144
abbrev ZgD : Nat := 105
abbrev Zft : Nat := 63
abbrev ZfV : Nat := 62
abbrev ZfX : Nat := 24
abbrev ZeJ : Nat := 25
abbrev ZfM : Nat := 28
abbrev ZeL : Nat := 29
abbrev ZhM : Nat := 6
abbrev ZX : Nat := 36
abbrev Zes : Nat := 122
abbrev ZhO : Nat := 80
abbrev ZaG : Nat := 42
abbrev Zg2 : Nat := 77
abbrev ZbX : Nat := 38
abbrev ZdM : Nat := 82
abbrev Zgd : Nat := 121
abbrev Zb2 : Nat := 123
abbrev ZgW : Nat := 108
abbrev Zhq : Nat := 107
abbrev ZgP : Nat := 65
abbrev ZeM : Nat := 83
abbrev Zez : Nat := 97
abbrev Ze3 : Nat := 145
abbrev Zhf : Nat := 146
abbrev Zex : Nat := 109
abbrev Zhs : Nat := 110
abbrev Zh0 : Nat := 66
abbrev ZbJ : Nat := 30
abbrev Zfm : Nat := 31
abbrev ZcW : Nat := 45
abbrev Ze1 : Nat := 67
abbrev ZdG : Nat := 81
abbrev Zga : Nat := 44
abbrev ZhH : Nat := 84
abbrev ZeT : Nat := 46
abbrev Zeu : Nat := 79
abbrev Zfs : Nat := 91
abbrev ZfG : Nat := 147
abbrev Zh2 : Nat := 111
abbrev Zeq : Nat := 68
abbrev Zhp : Nat := 133
abbrev Zev : Nat := 92
abbrev ZgF : Nat := 148
abbrev ZgE : Nat := 113
abbrev ZgA : Nat := 112
abbrev ZeU : Nat := 69
abbrev Zh1 : Nat := 32
abbrev Zf4 : Nat := 48
abbrev ZfR : Nat := 149
abbrev ZfO : Nat := 115
abbrev Zf6 : Nat := 114
abbrev Zhk : Nat := 70
abbrev Zgq : Nat := 71
abbrev Zbf : Nat := 116
abbrev ZhA : Nat := 128
abbrev ZeX : Nat := 150
abbrev Za2 : Nat := 117
abbrev ZhC : Nat := 72
abbrev ZhE : Nat := 33
abbrev Zgc : Nat := 86
abbrev Zfz : Nat := 59
abbrev ZhK : Nat := 73
abbrev ZhR : Nat := 74
abbrev Zgs : Nat := 34
abbrev Zg4 : Nat := 7
abbrev Zgm : Nat := 119
abbrev Zhn : Nat := 118
abbrev Zhj : Nat := 75
abbrev Zgh : Nat := 76
abbrev Ze4 : Nat := 35
abbrev Zg7 : Nat := 37
abbrev Zg6 : Nat := 8
abbrev Zh9 : Nat := 120
abbrev Zgk : Nat := 78
abbrev Zgo : Nat := 40
abbrev Zh8 : Nat := 41
abbrev ZfP : Nat := 39
abbrev ZfF : Nat := 9
abbrev ZhN : Nat := 10
abbrev ZhX : Nat := 3
abbrev Zk : Nat := 2
abbrev ZjW : Nat := 4
abbrev Zl2 : Nat := 5
abbrev Zhi : Nat := 24
abbrev ZM : Nat := 26
abbrev ZZ : Nat := 30
abbrev Zi : Nat := 37
abbrev ZoW : Nat := 97
abbrev ZjH : Nat := 112
def tab : List (Nat × TE) := [(2, ⟨.int .i64, [.i .i64], [.int .i64 0], 8⟩),
 (3, ⟨.int .i64, [.i .i64], [.int .i64 0], 8⟩),
 (4, ⟨.bool, [.b], [.bool false], 1⟩),
 (5, ⟨.int .u8, [.i .u8], [.int .u8 0], 1⟩),
 (9, ⟨.str, [.s], [.string ⟨#[]⟩], 16⟩),
 (22, ⟨.slice 5, [.v], [.slice none 0 0], 24⟩),
 (24, ⟨.slice 37, [.v], [.slice none 0 0], 24⟩),
 (26, ⟨.struct [(0, 1, false), (1, 1, false)], [.i .i64, .v], [.int .i64 0, .slice none 0 0], 32⟩),
 (30, ⟨.struct [(0, 1, false), (1, 1, false)], [.i .i64, .v], [.int .i64 0, .slice none 0 0], 32⟩),
 (37, ⟨.slice 2, [.v], [.slice none 0 0], 24⟩),
 (83, ⟨.struct [(0, 1, false), (1, 1, false)], [.i .i64, .b], [.int .i64 0, .bool false], 16⟩),
 (85, ⟨.slice 4, [.v], [.slice none 0 0], 24⟩),
 (95, ⟨.int .u64, [.i .u64], [.int .u64 0], 8⟩),
 (97, ⟨.struct [(0, 1, false), (1, 1, false), (2, 1, false)], [.v, .i .i64, .i .u64], [.slice none 0 0, .int .i64 0, .int .u64 0], 40⟩),
 (106, ⟨.slice 24, [.v], [.slice none 0 0], 24⟩),
 (112, ⟨.struct [(0, 2, true), (2, 1, false), (3, 1, false), (4, 1, false), (5, 1, false), (6, 1, false), (7, 1, false), (8, 1, false), (9, 1, false)], [.i .i64, .b, .v, .i .i64, .i .i64, .v, .v, .v, .i .i64, .v], [.int .i64 0, .bool false, .slice none 0 0, .int .i64 0, .int .i64 0, .slice none 0 0, .slice none 0 0, .slice none 0 0, .int .i64 0, .slice none 0 0], 160⟩),
 (166, ⟨.int .u64, [.i .u64], [.int .u64 0], 8⟩),
 (172, ⟨.map 9 4, [.v], [.map none], 8⟩)]
def rst : List (Nat × RS) := [(0, ⟨true, []⟩),
 (2, ⟨false, [(false, [.i .i64])]⟩),
 (3, ⟨false, [(false, [.i .i64])]⟩),
 (4, ⟨false, [(false, [.b])]⟩),
 (9, ⟨false, [(false, [.s])]⟩),
 (24, ⟨false, [(false, [.v])]⟩),
 (26, ⟨false, [(true, [.i .i64, .v])]⟩),
 (27, ⟨true, [(true, [.i .i64, .v]), (false, [.i .i64]), (false, [.i .i64]), (false, [.i .i64]), (false, [.i .i64])]⟩),
 (30, ⟨false, [(true, [.i .i64, .v])]⟩),
 (31, ⟨true, [(true, [.i .i64, .v]), (false, [.i .i64])]⟩),
 (33, ⟨true, [(false, [.i .i64]), (false, [.i .i64])]⟩),
 (35, ⟨true, [(false, [.b]), (false, [.i .i64])]⟩),
 (37, ⟨false, [(false, [.v])]⟩),
 (50, ⟨true, [(false, [.v]), (false, [.i .i64])]⟩),
 (55, ⟨false, [(false, [.p])]⟩),
 (63, ⟨true, [(false, [.v]), (false, [.i .i64])]⟩),
 (99, ⟨true, [(true, [.i .i64, .v]), (false, [.i .i64])]⟩),
 (103, ⟨true, [(false, [.v]), (false, [.v]), (false, [.b])]⟩),
 (106, ⟨false, [(false, [.v])]⟩),
 (109, ⟨false, [(false, [.p])]⟩),
 (122, ⟨true, [(false, [.v]), (false, [.b])]⟩),
 (142, ⟨true, [(false, [.i .i64]), (false, [.v])]⟩),
 (144, ⟨true, [(false, [.v]), (false, [.b])]⟩),
 (148, ⟨true, [(false, [.i .i64]), (false, [.b])]⟩)]
def exs : List Nat := []
noncomputable def ctx : Ctx := ⟨Tryz.prog, tab, rst, 3, 189, exs, []⟩
theorem te2 : TeOk P 2 ⟨.int .i64, [.i .i64], [.int .i64 0], 8⟩ := ⟨by kernel_rfl, by kernel_rfl, by kernel_rfl, by kernel_rfl⟩
theorem te3 : TeOk P 3 ⟨.int .i64, [.i .i64], [.int .i64 0], 8⟩ := ⟨by kernel_rfl, by kernel_rfl, by kernel_rfl, by kernel_rfl⟩
theorem te4 : TeOk P 4 ⟨.bool, [.b], [.bool false], 1⟩ := ⟨by kernel_rfl, by kernel_rfl, by kernel_rfl, by kernel_rfl⟩
theorem te5 : TeOk P 5 ⟨.int .u8, [.i .u8], [.int .u8 0], 1⟩ := ⟨by kernel_rfl, by kernel_rfl, by kernel_rfl, by kernel_rfl⟩
theorem te9 : TeOk P 9 ⟨.str, [.s], [.string ⟨#[]⟩], 16⟩ := ⟨by kernel_rfl, by kernel_rfl, by kernel_rfl, by kernel_rfl⟩
theorem te22 : TeOk P 22 ⟨.slice 5, [.v], [.slice none 0 0], 24⟩ := ⟨by kernel_rfl, by kernel_rfl, by kernel_rfl, by kernel_rfl⟩
theorem te24 : TeOk P 24 ⟨.slice 37, [.v], [.slice none 0 0], 24⟩ := ⟨by kernel_rfl, by kernel_rfl, by kernel_rfl, by kernel_rfl⟩
theorem te26 : TeOk P 26 ⟨.struct [(0, 1, false), (1, 1, false)], [.i .i64, .v], [.int .i64 0, .slice none 0 0], 32⟩ := ⟨by kernel_rfl, by kernel_rfl, by kernel_rfl, by kernel_rfl⟩
theorem te30 : TeOk P 30 ⟨.struct [(0, 1, false), (1, 1, false)], [.i .i64, .v], [.int .i64 0, .slice none 0 0], 32⟩ := ⟨by kernel_rfl, by kernel_rfl, by kernel_rfl, by kernel_rfl⟩
theorem te37 : TeOk P 37 ⟨.slice 2, [.v], [.slice none 0 0], 24⟩ := ⟨by kernel_rfl, by kernel_rfl, by kernel_rfl, by kernel_rfl⟩
theorem te83 : TeOk P 83 ⟨.struct [(0, 1, false), (1, 1, false)], [.i .i64, .b], [.int .i64 0, .bool false], 16⟩ := ⟨by kernel_rfl, by kernel_rfl, by kernel_rfl, by kernel_rfl⟩
theorem te85 : TeOk P 85 ⟨.slice 4, [.v], [.slice none 0 0], 24⟩ := ⟨by kernel_rfl, by kernel_rfl, by kernel_rfl, by kernel_rfl⟩
theorem te95 : TeOk P 95 ⟨.int .u64, [.i .u64], [.int .u64 0], 8⟩ := ⟨by kernel_rfl, by kernel_rfl, by kernel_rfl, by kernel_rfl⟩
theorem te97 : TeOk P 97 ⟨.struct [(0, 1, false), (1, 1, false), (2, 1, false)], [.v, .i .i64, .i .u64], [.slice none 0 0, .int .i64 0, .int .u64 0], 40⟩ := ⟨by kernel_rfl, by kernel_rfl, by kernel_rfl, by kernel_rfl⟩
theorem te106 : TeOk P 106 ⟨.slice 24, [.v], [.slice none 0 0], 24⟩ := ⟨by kernel_rfl, by kernel_rfl, by kernel_rfl, by kernel_rfl⟩
theorem te112 : TeOk P 112 ⟨.struct [(0, 2, true), (2, 1, false), (3, 1, false), (4, 1, false), (5, 1, false), (6, 1, false), (7, 1, false), (8, 1, false), (9, 1, false)], [.i .i64, .b, .v, .i .i64, .i .i64, .v, .v, .v, .i .i64, .v], [.int .i64 0, .bool false, .slice none 0 0, .int .i64 0, .int .i64 0, .slice none 0 0, .slice none 0 0, .slice none 0 0, .int .i64 0, .slice none 0 0], 160⟩ := ⟨by kernel_rfl, by kernel_rfl, by kernel_rfl, by kernel_rfl⟩
theorem te166 : TeOk P 166 ⟨.int .u64, [.i .u64], [.int .u64 0], 8⟩ := ⟨by kernel_rfl, by kernel_rfl, by kernel_rfl, by kernel_rfl⟩
theorem te172 : TeOk P 172 ⟨.map 9 4, [.v], [.map none], 8⟩ := ⟨by kernel_rfl, by kernel_rfl, by kernel_rfl, by kernel_rfl⟩
theorem tabOk_all : ∀ p ∈ tab, TeOk P p.1 p.2 := by
 unfold tab
 simp only [List.forall_mem_cons]
 exact ⟨te2, te3, te4, te5, te9, te22, te24, te26, te30, te37, te83, te85, te95, te97, te106, te112, te166, te172, fun p hp => by cases hp⟩
theorem tab_mem : ∀ (l : List (Nat × TE)) (t : Nat) (te : TE), tabGet l t = some te → (t, te) ∈ l
 | [], t, te, h => by cases h
 | (k, x) :: r, t, te, h => by
  unfold tabGet at h
  cases hb : Nat.beq k t with
  | true => rw [hb] at h; have := Nat.eq_of_beq_eq_true hb; subst this; cases h; exact List.mem_cons_self ..
  | false => rw [hb] at h; exact List.mem_cons_of_mem _ (tab_mem r t te h)
noncomputable def fnB (f : Nat) : Bool := match P.funcs[f]? with | some fn => fn.body.isSome && !(fn.name == "runtime.NumGoroutine") | none => false
theorem fns_all : (List.range' 3 186).all (fun f => inL exs f || fnB f) = true := by kernel_rfl
theorem ctxOk : CtxOk ctx where
 tab := fun t te h => tabOk_all (t, te) (tab_mem _ t te h)
 fns := fun f hf => by
  simp only [Ctx.okf, Bool.and_eq_true, Bool.not_eq_true'] at hf
  have h1 : 3 ≤ f := Nat.le_of_ble_eq_true hf.1.1
  have h2 : f < 189 := Nat.blt_eq.mp hf.1.2
  have h := List.all_eq_true.1 fns_all f (List.mem_range'_1.2 ⟨h1, by omega⟩)
  have h3 : inL exs f = false := hf.2
  simp only [h3, Bool.false_or] at h
  unfold fnB at h
  split at h
  ·rename_i fn hfn; simp only [Bool.and_eq_true, Bool.not_eq_true'] at h; exact ⟨fn, hfn, h.1, h.2⟩
  ·cases h
 mixed := by kernel_rfl
 ovs := fun f hf => by cases hf
theorem zv {F : Prop} {f : FuncId} {fn : Func} {args : List Value} {h : Heap} {R : Value → Heap → Prop} (A : Ann) (hf : P.funcs[f]? = some fn) (hv : F)
  (hn : ((match fn.body with | some c => cOk fn.ntmps c | none => false) && Nat.ble args.length fn.ntmps) = true := by kernel_rfl) (e : vcFn ctx A fn args h R = F := by kernel_rfl) : CallsH P f args.toArray h R :=
 Zqr ctxOk A hf args h R hn (e ▸ hv)
variable {R : Value → Heap → Prop} {h : Heap}
theorem ZlU {v0 : Value} (hv :
 vLen v0 fun n4 =>
 R (.bool (decide ((n4 : Int) > 1048576))) h) : CallsH P Zf2 #[v0] h R := zv ⟨[], [], []⟩ Tryz.func5 hv
theorem Zpg {v0 : Value} (hv :
 vOne v0 fun _ =>
 vNew h (.cells #[v0, zi 0, .int .u64 0] ZoW) fun p5 h_2 =>
 R (.pointer (some p5)) h_2) : CallsH P ZfI #[v0] h R := zv ⟨[], [], []⟩ Tryz.func23 hv
theorem Zoh {v0 v1 : Value} (hv :
 ∃ J : Heap → Prop, (
 lq1 (0 : Int) h fun J_2 n x5 h_2 =>
 ∃ J_3 : Heap → Prop, (
 vLen v0 fun n8 =>
 bif decide (x5 < (n8 : Int)) then
 vLen v1 fun n13 =>
 bif decide (x5 < (n13 : Int)) then
 J_3 h_2
 else
 J h_2
 else
 J h_2
 ) ∧ ∀ (_ : Env) (h_3 : Heap), J_3 h_3 →
 vIdx v0 x5 1 fun p20 =>
 ldI .i64 h_3 p20 fun x21 =>
 vIdx v1 x5 1 fun p24 =>
 ldI .i64 h_3 p24 fun x25 =>
 bif decide (x21 < x25) then
 R (zi (-1)) h_3
 else
 vIdx v0 x5 1 fun p29 =>
 ldI .i64 h_3 p29 fun x30 =>
 vIdx v1 x5 1 fun p33 =>
 ldI .i64 h_3 p33 fun x34 =>
 bif decide (x30 > x34) then
 R (zi 1) h_3
 else
 ag1 J_2 n (zw (x5 + 1)) h_3
 ) ∧ ∀ (_ : Env) (h_4 : Heap), J h_4 →
 vLen v0 fun n37 =>
 vLen v1 fun n39 =>
 bif decide ((n37 : Int) < (n39 : Int)) then
 R (zi (-1)) h_4
 else
 vLen v0 fun n42 =>
 vLen v1 fun n44 =>
 bif decide ((n42 : Int) > (n44 : Int)) then
 R (zi 1) h_4
 else
 R (zi 0) h_4) : CallsH P Zdn #[v0, v1] h R := zv ⟨[(2, [(5, .i .i64)])], [(4, []), (8, [])], []⟩ Tryz.func131 hv
theorem Zlr {v0 v1 : Value} (hv :
 vNewS h (.cells #[] Zi) 0 fun v9 h_2 =>
 lq3 v9 false (0 : Int) h_2 fun J n v5 b6 x7 h_3 =>
 vLen v0 fun n12 =>
 bif decide (x7 < (n12 : Int)) then
 vIdx v0 x7 1 fun p18 =>
 ldV h_3 p18 fun v19 =>
 zI Zdn #[v19, v1] h_3 fun x21 h_4 =>
 ∃ J_2 : Value → Bool → Heap → Prop, (
 ∃ J_3 : Bool → Heap → Prop, (
 bif !b6 then
 J_3 (decide (x21 ≥ 0)) h_4
 else
 J_3 false h_4
 ) ∧ ∀ (_ : Env) (b27 : Bool) (h_5 : Heap), J_3 b27 h_5 →
 bif b27 then
 bif decide (x21 > 0) then
 vOne v1 fun _ =>
 vNewS h_5 (.cells #[v1] Zi) 1 fun v32 h_6 =>
 vAppend 1 24 [.slice none 0 0] Zi v5 v32 h_6 fun v33 h_7 =>
 J_2 v33 true h_7
 else
 J_2 v5 true h_5
 else
 J_2 v5 b6 h_5
 ) ∧ ∀ (_ : Env) (v5_2 : Value) (b6_2 : Bool) (h_8 : Heap), J_2 v5_2 b6_2 h_8 →
 vIdx v0 x7 1 fun p37 =>
 ldV h_8 p37 fun v38 =>
 vOne v38 fun _ =>
 vNewS h_8 (.cells #[v38] Zi) 1 fun v39 h_9 =>
 vAppend 1 24 [.slice none 0 0] Zi v5_2 v39 h_9 fun v40 h_10 =>
 ag3 J n v40 b6_2 (zw (x7 + 1)) h_10
 else
 bif !b6 then
 vOne v1 fun _ =>
 vNewS h_3 (.cells #[v1] Zi) 1 fun v45 h_11 =>
 vAppend 1 24 [.slice none 0 0] Zi v5 v45 h_11 fun v46 h_12 =>
 R v46 h_12
 else
 R v5 h_3) : CallsH P Zf9 #[v0, v1] h R := zv ⟨[(4, [(5, .v), (6, .b), (7, .i .i64)])], [(8, [(27, .b)]), (11, [(5, .v), (6, .b)])], []⟩ Tryz.func106 hv
theorem ZqL {x0 : Int} {v1 : Value} (hv :
 vNew h (.cells #[zi 0, .slice none 0 0] ZM) fun p4 h_2 =>
 vNewS h_2 (.cells #[] Zi) 0 fun v7 h_3 =>
 lq2 v7 (0 : Int) h_3 fun J n v5 x6 h_4 =>
 vLen v1 fun n10 =>
 bif decide (x6 < (n10 : Int)) then
 vIdx v1 x6 1 fun p17 =>
 ldV h_4 p17 fun v18 =>
 zV Zf9 #[v5, v18] h_4 fun v19 h_5 =>
 ag2 J n v19 (zw (x6 + 1)) h_5
 else
 vOne v5 fun _ =>
 vStore1 h_4 p4 (zi x0) fun h_6 =>
 vStore1 h_6 (p4.add 1) v5 fun h_7 =>
 ldI .i64 h_7 p4 fun xres0_0 =>
 ldV h_7 (p4.add 1) fun vres0_1 =>
 R (.agg #[zi xres0_0, vres0_1]) h_7) : CallsH P Zgu #[zi x0, v1] h R := zv ⟨[(3, [(5, .v), (6, .i .i64)])], [], []⟩ Tryz.func64 hv
theorem ZpR {x0 : Int} {v1 : Value} (hv :
 vNew h (.cells #[zi 0, .slice none 0 0] ZM) fun p4 h_2 =>
 vNewS h_2 (.cells #[] Zi) 0 fun v10 h_3 =>
 lq2 v10 (0 : Int) h_3 fun J n v5 x6 h_4 =>
 vLen v1 fun n13 =>
 bif decide (x6 < (n13 : Int)) then
 lq2 v5 (0 : Int) h_4 fun J_2 n_3 v5_2 x7 h_5 =>
 bif decide (x7 < x0) then
 vNewS h_5 (.cells #[] Zk) 0 fun v22 h_6 =>
 lq2 v22 (0 : Int) h_6 fun J_3 n_5 v8 x9 h_7 =>
 bif decide (x9 < x0) then
 vIdx v1 x6 1 fun p31 =>
 ldI .i64 h_7 p31 fun x32 =>
 x0 ≠ 0 ∧
 vNewS h_7 (.cells #[zi (Int.tmod (zw ((zw (x32 * x9)) + x7)) x0)] Zk) 1 fun v39 h_8 =>
 vAppend 1 8 [zi 0] Zk v8 v39 h_8 fun v40 h_9 =>
 ag2 J_3 n_5 v40 (zw (x9 + 1)) h_9
 else
 vOne v8 fun _ =>
 vNewS h_7 (.cells #[v8] Zi) 1 fun v43 h_10 =>
 vAppend 1 24 [.slice none 0 0] Zi v5_2 v43 h_10 fun v44 h_11 =>
 ag2 J_2 n_3 v44 (zw (x7 + 1)) h_11
 else
 ag2 J n v5_2 (zw (x6 + 1)) h_5
 else
 CallsH P Zgu #[zi x0, v5] h_4 fun r47 h_12 => ∃ x47_0_0, ∃ (v47_0_1 : Value), r47 = .agg #[zi x47_0_0, v47_0_1] ∧
 vStore1 h_12 p4 (zi x47_0_0) fun h_13 =>
 vStore1 h_13 (p4.add 1) v47_0_1 fun h_14 =>
 ldI .i64 h_14 p4 fun xres0_0 =>
 ldV h_14 (p4.add 1) fun vres0_1 =>
 R (.agg #[zi xres0_0, vres0_1]) h_14) : CallsH P Zcr #[zi x0, v1] h R := zv ⟨[(3, [(5, .v), (6, .i .i64)]), (6, [(5, .v), (7, .i .i64)]), (10, [(8, .v), (9, .i .i64)])], [], []⟩ Tryz.func26 hv
theorem ZoG {p0 : Addr} (hv :
 ∃ J : Int → Heap → Prop, (
 ldI .i64 h (p0.add 1) fun x7 =>
 ldV h p0 fun v11 =>
 vLen v11 fun n12 =>
 bif decide (x7 < (n12 : Int)) then
 ldV h p0 fun v17 =>
 ldI .i64 h (p0.add 1) fun x21 =>
 vIdx v17 x21 1 fun p22 =>
 ldI .u8 h p22 fun x23 =>
 J (zw x23) h
 else
 J 0 h
 ) ∧ ∀ (_ : Env) x3 (h_2 : Heap), J x3 h_2 →
 ldI .i64 h_2 (p0.add 1) fun x28 =>
 vStore1 h_2 (p0.add 1) (zi (zw (x28 + 1))) fun h_3 =>
 ldI .u64 h_3 (p0.add 2) fun x36 =>
 vStore1 h_3 (p0.add 2) (.int .u64 (IntKind.u64.wrap ((IntKind.u64.wrap ((IntKind.u64.wrap (x36 * 6364136223846793005)) + (IntKind.u64.wrap x3))) + 1442695040888963407))) fun h_4 =>
 ldI .i64 h_4 (p0.add 1) fun x47 =>
 ldV h_4 p0 fun v51 =>
 vLen v51 fun n52 =>
 bif decide (x47 ≤ (n52 : Int)) then
 R (zi x3) h_4
 else
 ldI .u64 h_4 (p0.add 2) fun x58 =>
 (0 : Int) ≤ 40 ∧
 R (zi (zw (IntKind.u64.wrap ((BitVec.ofInt IntKind.u64.bits (Int.fdiv x58 (2 ^ min (40 : Int).toNat IntKind.u64.bits)) &&& BitVec.ofInt IntKind.u64.bits 255).toNat : Int)))) h_4) : CallsH P ZeN #[.pointer (some p0)] h R := zv ⟨[], [(4, [(3, .i .i64)])], []⟩ Tryz.func98 hv
theorem Zpb {p0 : Addr} {x1 : Int} (hv :
 bif decide (x1 ≤ 1) then
 R (zi 0) h
 else
 zI ZeN #[.pointer (some p0)] h fun x9 h_2 =>
 bif decide (x1 > 200) then
 zI ZeN #[.pointer (some p0)] h_2 fun x15 h_3 =>
 x1 ≠ 0 ∧
 R (zi (Int.tmod (zw ((zw (x9 * 256)) + x15)) x1)) h_3
 else
 x1 ≠ 0 ∧
 R (zi (Int.tmod x9 x1)) h_2) : CallsH P ZV #[.pointer (some p0), zi x1] h R := zv ⟨[], [], []⟩ Tryz.func60 hv
theorem Zqt {p0 : Addr} {v1 : Value} (hv :
 vLen v1 fun n8 =>
 zI ZV #[.pointer (some p0), zi (n8 : Int)] h fun x9 h_2 =>
 vIdx v1 x9 1 fun p10 =>
 ldI .i64 h_2 p10 fun x11 =>
 R (zi x11) h_2) : CallsH P Z8 #[.pointer (some p0), v1] h R := zv ⟨[], [], []⟩ Tryz.func27 hv
theorem ZlG {x0 x1 x2 : Int} (hv :
 bif decide (x0 ≥ x1) then
 R (.bool (decide (x0 ≤ x2))) h
 else
 R (.bool false) h) : CallsH P ZeB #[zi x0, zi x1, zi x2] h R := zv ⟨[], [], []⟩ Tryz.func100 hv
theorem Zlv {x0 : Int} (hv :
 zB ZeB #[zi x0, zi 2, zi 1000000] h fun b5 h_2 =>
 bif !b5 then
 R (.bool false) h_2
 else
 lq1 (2 : Int) h_2 fun J n x3 h_3 =>
 bif decide ((zw (x3 * x3) : Int) ≤ x0) then
 x3 ≠ 0 ∧
 bif (Int.tmod x0 x3 : Int) == 0 then
 R (.bool false) h_3
 else
 ag1 J n (zw (x3 + 1)) h_3
 else
 R (.bool true) h_3) : CallsH P ZfS #[zi x0] h R := zv ⟨[(4, [(3, .i .i64)])], [], []⟩ Tryz.func99 hv
theorem Zqo {x0 x1 x2 : Int} (hv :
 x2 ≠ 0 ∧
 lq3 x0 x1 ((Int.tmod 1 x2) : Int) h fun J n x0_2 x1_2 x7 h_2 =>
 bif decide (x1_2 > 0) then
 ∃ J_2 : Int → Heap → Prop, (
 (2 : Int) ≠ 0 ∧
 bif (Int.tmod x1_2 2 : Int) == 1 then
 x2 ≠ 0 ∧
 J_2 (Int.tmod (zw (x7 * x0_2)) x2) h_2
 else
 J_2 x7 h_2
 ) ∧ ∀ (_ : Env) x7_2 (h_3 : Heap), J_2 x7_2 h_3 →
 x2 ≠ 0 ∧
 (2 : Int) ≠ 0 ∧
 ag3 J n (Int.tmod (zw (x0_2 * x0_2)) x2) (zw (Int.tdiv x1_2 2)) x7_2 h_3
 else
 R (zi x7) h_2) : CallsH P Zh4 #[zi x0, zi x1, zi x2] h R := zv ⟨[(2, [(0, .i .i64), (1, .i .i64), (7, .i .i64)])], [(5, [(7, .i .i64)])], []⟩ Tryz.func101 hv
theorem Zl5 {x0 x1 : Int} (hv :
 vNew h (.cells #[zi 0, .slice none 0 0] ZM) fun p4 h_2 =>
 ∃ J : Heap → Prop, (
 zB ZfS #[zi x0] h_2 fun b9 h_3 =>
 bif !b9 then
 vStore1 h_3 p4 (zi 0) fun h_4 =>
 vStore1 h_4 (p4.add 1) (.slice none 0 0) fun h_5 =>
 ldI .i64 h_5 p4 fun xres0_0 =>
 ldV h_5 (p4.add 1) fun vres0_1 =>
 R (.tuple #[.agg #[zi xres0_0, vres0_1], zi 2]) h_5
 else
 bif decide (x0 > 32) then
 vStore1 h_3 p4 (zi 0) fun h_6 =>
 vStore1 h_6 (p4.add 1) (.slice none 0 0) fun h_7 =>
 ldI .i64 h_7 p4 fun xres0_0_2 =>
 ldV h_7 (p4.add 1) fun vres0_1_2 =>
 R (.tuple #[.agg #[zi xres0_0_2, vres0_1_2], zi 2]) h_7
 else
 zB ZeB #[zi x1, zi 1, zi (zw (x0 - 1))] h_3 fun b19 h_8 =>
 bif !b19 then
 vStore1 h_8 p4 (zi 0) fun h_9 =>
 vStore1 h_9 (p4.add 1) (.slice none 0 0) fun h_10 =>
 ldI .i64 h_10 p4 fun xres0_0_3 =>
 ldV h_10 (p4.add 1) fun vres0_1_3 =>
 R (.tuple #[.agg #[zi xres0_0_3, vres0_1_3], zi 2]) h_10
 else
 x1 ≠ 0 ∧
 bif (Int.tmod (zw (x0 - 1)) x1 : Int) != 0 then
 vStore1 h_8 p4 (zi 0) fun h_11 =>
 vStore1 h_11 (p4.add 1) (.slice none 0 0) fun h_12 =>
 ldI .i64 h_12 p4 fun xres0_0_4 =>
 ldV h_12 (p4.add 1) fun vres0_1_4 =>
 R (.tuple #[.agg #[zi xres0_0_4, vres0_1_4], zi 2]) h_12
 else
 J h_8
 ) ∧ ∀ (_ : Env) (h_13 : Heap), J h_13 →
 bif decide ((zw (x0 * x1) : Int) > 720) then
 vStore1 h_13 p4 (zi 0) fun h_14 =>
 vStore1 h_14 (p4.add 1) (.slice none 0 0) fun h_15 =>
 ldI .i64 h_15 p4 fun xres0_0_5 =>
 ldV h_15 (p4.add 1) fun vres0_1_5 =>
 R (.tuple #[.agg #[zi xres0_0_5, vres0_1_5], zi 5]) h_15
 else
 vNewS h_13 (.cells #[] Zk) 0 fun v35 h_16 =>
 lq2 v35 (1 : Int) h_16 fun J_2 n v6 x7 h_17 =>
 bif decide (x7 < x0) then
 zI Zh4 #[zi x7, zi x1, zi x0] h_17 fun x44 h_18 =>
 bif x44 == 1 then
 vNewS h_18 (.cells #[zi x7] Zk) 1 fun v48 h_19 =>
 vAppend 1 8 [zi 0] Zk v6 v48 h_19 fun v49 h_20 =>
 ag2 J_2 n v49 (zw (x7 + 1)) h_20
 else
 ag2 J_2 n v6 (zw (x7 + 1)) h_18
 else
 CallsH P Zcr #[zi x0, v6] h_17 fun r52 h_21 => ∃ x52_0_0, ∃ (v52_0_1 : Value), r52 = .agg #[zi x52_0_0, v52_0_1] ∧
 vStore1 h_21 p4 (zi x52_0_0) fun h_22 =>
 vStore1 h_22 (p4.add 1) v52_0_1 fun h_23 =>
 ldI .i64 h_23 p4 fun xres0_0_6 =>
 ldV h_23 (p4.add 1) fun vres0_1_6 =>
 R (.tuple #[.agg #[zi xres0_0_6, vres0_1_6], zi 0]) h_23) : CallsH P Zfq #[zi x0, zi x1] h R := zv ⟨[(7, [(6, .v), (7, .i .i64)])], [(3, [])], []⟩ Tryz.func61 hv
theorem ZqZ {x0 x1 x2 : Int} (hv :
 vNewS h (.cells #[] Zk) 0 fun v9 h_2 =>
 lq2 v9 (0 : Int) h_2 fun J n v7 x8 h_3 =>
 bif decide (x8 < x0) then
 x0 ≠ 0 ∧
 vNewS h_3 (.cells #[zi (Int.tmod (zw ((zw (x1 * x8)) + x2)) x0)] Zk) 1 fun v23 h_4 =>
 vAppend 1 8 [zi 0] Zk v7 v23 h_4 fun v24 h_5 =>
 ag2 J n v24 (zw (x8 + 1)) h_5
 else
 R v7 h_3) : CallsH P ZbD #[zi x0, zi x1, zi x2] h R := zv ⟨[(3, [(7, .v), (8, .i .i64)])], [], []⟩ Tryz.func139 hv
theorem Zqn {x0 : Int} (hv :
 vNewS h (.cells #[] Zk) 0 fun v5 h_2 =>
 lq2 v5 (0 : Int) h_2 fun J n v3 x4 h_3 =>
 bif decide (x4 < x0) then
 vNewS h_3 (.cells #[zi x4] Zk) 1 fun v13 h_4 =>
 vAppend 1 8 [zi 0] Zk v3 v13 h_4 fun v14 h_5 =>
 ag2 J n v14 (zw (x4 + 1)) h_5
 else
 R v3 h_3) : CallsH P ZdK #[zi x0] h R := zv ⟨[(3, [(3, .v), (4, .i .i64)])], [], []⟩ Tryz.func104 hv
theorem Zqx {p0 : Addr} {x1 : Int} (hv :
 zV ZdK #[zi x1] h fun v10 h_2 =>
 lq1 (zw (x1 - 1)) h_2 fun J n x6 h_3 =>
 bif decide (x6 > 0) then
 zI ZV #[.pointer (some p0), zi (zw (x6 + 1))] h_3 fun x20 h_4 =>
 vIdx v10 x6 1 fun p23 =>
 ldI .i64 h_4 p23 fun x24 =>
 vIdx v10 x20 1 fun p29 =>
 ldI .i64 h_4 p29 fun x30 =>
 vIdx v10 x6 1 fun p31 =>
 vStore1 h_4 p31 (zi x30) fun h_5 =>
 vIdx v10 x20 1 fun p35 =>
 vStore1 h_5 p35 (zi x24) fun h_6 =>
 ag1 J n (zw (x6 - 1)) h_6
 else
 R v10 h_3) : CallsH P Zgg #[.pointer (some p0), zi x1] h R := zv ⟨[(3, [(6, .i .i64)])], [], []⟩ Tryz.func140 hv
theorem ZmM {p0 : Addr} (hv :
 zI ZV #[.pointer (some p0), zi 8] h fun x8 h_2 =>
 zI ZV #[.pointer (some p0), zi 4] h_2 fun x11 h_3 =>
 bif x11 == 0 then
 zV ZbD #[zi (zw (1 + x8)), zi 1, zi 1] h_3 fun v16 h_4 =>
 vOne v16 fun _ =>
 vNewS h_4 (.cells #[v16] Zi) 1 fun v17 h_5 =>
 R (.tuple #[zi (zw (1 + x8)), v17]) h_5
 else
 bif x11 == 1 then
 zV ZbD #[zi (zw (1 + x8)), zi 1, zi 1] h_3 fun v22 h_6 =>
 zV ZbD #[zi (zw (1 + x8)), zi (zw ((zw (1 + x8)) - 1)), zi 0] h_6 fun v26 h_7 =>
 vOne v22 fun _ =>
 vOne v26 fun _ =>
 vNewS h_7 (.cells #[v22, v26] Zi) 2 fun v27 h_8 =>
 R (.tuple #[zi (zw (1 + x8)), v27]) h_8
 else
 bif x11 == 2 then
 vNewS h_3 (.cells #[zi 5, zi 7, zi 11, zi 13] Zk) 4 fun v31 h_9 =>
 zI Z8 #[.pointer (some p0), v31] h_9 fun x32 h_10 =>
 zV ZbD #[zi x32, zi 1, zi 1] h_10 fun v35 h_11 =>
 vNewS h_11 (.cells #[zi 2, zi 3, zi 4] Zk) 3 fun v38 h_12 =>
 zI Z8 #[.pointer (some p0), v38] h_12 fun x39 h_13 =>
 zV ZbD #[zi x32, zi x39, zi 0] h_13 fun v40 h_14 =>
 vOne v35 fun _ =>
 vOne v40 fun _ =>
 vNewS h_14 (.cells #[v35, v40] Zi) 2 fun v41 h_15 =>
 R (.tuple #[zi x32, v41]) h_15
 else
 zI ZV #[.pointer (some p0), zi 5] h_3 fun x43 h_16 =>
 vNewS h_16 (.cells #[] Zi) 0 fun v45 h_17 =>
 zI ZV #[.pointer (some p0), zi 3] h_17 fun x47 h_18 =>
 lq2 v45 x47 h_18 fun J n v5 x6 h_19 =>
 bif decide (x6 > 0) then
 zV Zgg #[.pointer (some p0), zi (zw (1 + x43))] h_19 fun v55 h_20 =>
 vOne v55 fun _ =>
 vNewS h_20 (.cells #[v55] Zi) 1 fun v56 h_21 =>
 vAppend 1 24 [.slice none 0 0] Zi v5 v56 h_21 fun v57 h_22 =>
 ag2 J n v57 (zw (x6 - 1)) h_22
 else
 R (.tuple #[zi (zw (1 + x43)), v5]) h_19) : CallsH P Zgj #[.pointer (some p0)] h R := zv ⟨[(13, [(5, .v), (6, .i .i64)])], [], []⟩ Tryz.func102 hv
theorem Zn6 {v0 v1 : Value} (hv :
 vNewS h (.cells #[] Zk) 0 fun v7 h_2 =>
 lq2 v7 (0 : Int) h_2 fun J n v5 x6 h_3 =>
 vLen v0 fun n10 =>
 bif decide (x6 < (n10 : Int)) then
 vIdx v0 x6 1 fun p18 =>
 ldI .i64 h_3 p18 fun x19 =>
 vIdx v1 x19 1 fun p20 =>
 ldI .i64 h_3 p20 fun x21 =>
 vNewS h_3 (.cells #[zi x21] Zk) 1 fun v22 h_4 =>
 vAppend 1 8 [zi 0] Zk v5 v22 h_4 fun v23 h_5 =>
 ag2 J n v23 (zw (x6 + 1)) h_5
 else
 R v5 h_3) : CallsH P ZhG #[v0, v1] h R := zv ⟨[(3, [(5, .v), (6, .i .i64)])], [], []⟩ Tryz.func141 hv
theorem Zoe {v0 v1 : Value} (hv :
 vLen v0 fun n11 =>
 lq2 (0 : Int) (n11 : Int) h fun J n x6 x7 h_2 =>
 bif decide (x6 < x7) then
 (2 : Int) ≠ 0 ∧
 vIdx v0 (zw (Int.tdiv (zw (x6 + x7)) 2)) 1 fun p21 =>
 ldV h_2 p21 fun v22 =>
 zI Zdn #[v22, v1] h_2 fun x24 h_3 =>
 bif x24 == 0 then
 R (.tuple #[zi (zw (Int.tdiv (zw (x6 + x7)) 2)), .bool true]) h_3
 else
 bif decide (x24 < 0) then
 ag2 J n (zw ((zw (Int.tdiv (zw (x6 + x7)) 2)) + 1)) x7 h_3
 else
 ag2 J n x6 (zw (Int.tdiv (zw (x6 + x7)) 2)) h_3
 else
 R (.tuple #[zi x6, .bool false]) h_2) : CallsH P ZfC #[v0, v1] h R := zv ⟨[(3, [(6, .i .i64), (7, .i .i64)])], [], []⟩ Tryz.func142 hv
theorem Zqz {v0 : Value} {x1 : Int} {v2 : Value} (hv :
 vNewS h (.cells #[] Zi) 0 fun v8 h_2 =>
 vSliceS v0 1 none (some (zi x1)) none fun v11 =>
 vAppend 1 24 [.slice none 0 0] Zi v8 v11 h_2 fun v12 h_3 =>
 vOne v2 fun _ =>
 vNewS h_3 (.cells #[v2] Zi) 1 fun v15 h_4 =>
 vAppend 1 24 [.slice none 0 0] Zi v12 v15 h_4 fun v16 h_5 =>
 vSliceS v0 1 (some (zi x1)) none none fun v20 =>
 vAppend 1 24 [.slice none 0 0] Zi v16 v20 h_5 fun v21 h_6 =>
 R v21 h_6) : CallsH P Zhv #[v0, zi x1, v2] h R := zv ⟨[], [], []⟩ Tryz.func143 hv
theorem Znq {x0 : Int} {v1 : Value} {x2 : Int} (hv :
 zV ZdK #[zi x0] h fun v17 h_2 =>
 vOne v17 fun _ =>
 vNewS h_2 (.cells #[v17] Zi) 1 fun v19 h_3 =>
 vOne v17 fun _ =>
 vNewS h_3 (.cells #[v17] Zi) 1 fun v21 h_4 =>
 lq3 v19 v21 (0 : Int) h_4 fun J n v9 v10 x11 h_5 =>
 vLen v10 fun n24 =>
 bif decide (x11 < (n24 : Int)) then
 lq3 v9 v10 (0 : Int) h_5 fun J_2 n_3 v9_2 v10_2 x12 h_6 =>
 vLen v1 fun n30 =>
 bif decide (x12 < (n30 : Int)) then
 vIdx v10_2 x11 1 fun p36 =>
 ldV h_6 p36 fun v37 =>
 vIdx v1 x12 1 fun p40 =>
 ldV h_6 p40 fun v41 =>
 zV ZhG #[v37, v41] h_6 fun v42 h_7 =>
 CallsH P ZfC #[v9_2, v42] h_7 fun r46 h_8 => ∃ x46_0, ∃ (b46_1 : Bool), r46 = .tuple #[zi x46_0, .bool b46_1] ∧
 bif b46_1 then
 ag3 J_2 n_3 v9_2 v10_2 (zw (x12 + 1)) h_8
 else
 vLen v9_2 fun n51 =>
 bif (n51 : Int) == x2 then
 R (.tuple #[(.slice none 0 0), .bool false]) h_8
 else
 zV Zhv #[v9_2, zi x46_0, v42] h_8 fun v57 h_9 =>
 vOne v42 fun _ =>
 vNewS h_9 (.cells #[v42] Zi) 1 fun v60 h_10 =>
 vAppend 1 24 [.slice none 0 0] Zi v10_2 v60 h_10 fun v61 h_11 =>
 ag3 J_2 n_3 v57 v61 (zw (x12 + 1)) h_11
 else
 ag3 J n v9_2 v10_2 (zw (x11 + 1)) h_6
 else
 R (.tuple #[v9, .bool true]) h_5) : CallsH P Zh6 #[zi x0, v1, zi x2] h R := zv ⟨[(5, [(9, .v), (10, .v), (11, .i .i64)]), (8, [(9, .v), (10, .v), (12, .i .i64)])], [], []⟩ Tryz.func103 hv
theorem Zoj {v0 : Value} (hv :
 vNewS h (.cells #[] Zk) 0 fun v3 h_2 =>
 vAppend 1 8 [zi 0] Zk v3 v0 h_2 fun v5 h_3 =>
 R v5 h_3) : CallsH P ZfT #[v0] h R := zv ⟨[], [], []⟩ Tryz.func144 hv
theorem ZnG {v0 : Value} (hv :
 vNewS h (.cells #[] Zi) 0 fun v7 h_2 =>
 lq2 v7 (0 : Int) h_2 fun J n v3 x4 h_3 =>
 vLen v0 fun n10 =>
 bif decide (x4 < (n10 : Int)) then
 vLen v3 fun n15 =>
 ∃ J_2 : Int → Heap → Prop, (
 lq1 (n15 : Int) h_3 fun J_3 n_3 x5 h_4 =>
 bif decide (x5 > 0) then
 vIdx v3 (zw (x5 - 1)) 1 fun p22 =>
 ldV h_4 p22 fun v23 =>
 vIdx v0 x4 1 fun p26 =>
 ldV h_4 p26 fun v27 =>
 zI Zdn #[v23, v27] h_4 fun x28 h_5 =>
 bif decide (x28 > 0) then
 ag1 J_3 n_3 (zw (x5 - 1)) h_5
 else
 J_2 x5 h_5
 else
 J_2 x5 h_4
 ) ∧ ∀ (_ : Env) x5_2 (h_6 : Heap), J_2 x5_2 h_6 →
 vNewS h_6 (.cells #[] Zi) 0 fun v33 h_7 =>
 vSliceS v3 1 none (some (zi x5_2)) none fun v36 =>
 vAppend 1 24 [.slice none 0 0] Zi v33 v36 h_7 fun v37 h_8 =>
 vIdx v0 x4 1 fun p41 =>
 ldV h_8 p41 fun v42 =>
 zV ZfT #[v42] h_8 fun v43 h_9 =>
 vOne v43 fun _ =>
 vNewS h_9 (.cells #[v43] Zi) 1 fun v44 h_10 =>
 vAppend 1 24 [.slice none 0 0] Zi v37 v44 h_10 fun v45 h_11 =>
 vSliceS v3 1 (some (zi x5_2)) none none fun v49 =>
 vAppend 1 24 [.slice none 0 0] Zi v45 v49 h_11 fun v50 h_12 =>
 ag2 J n v50 (zw (x4 + 1)) h_12
 else
 R v3 h_3) : CallsH P ZgD #[v0] h R := zv ⟨[(3, [(3, .v), (4, .i .i64)]), (6, [(5, .i .i64)])], [(8, [(5, .i .i64)])], []⟩ Tryz.func105 hv
theorem Zlq {p0 : Addr} (hv :
 vNew h (.cells #[zi 0, .slice none 0 0] ZM) fun p2 h_2 =>
 CallsH P Zgj #[.pointer (some p0)] h_2 fun r9 h_3 => ∃ x9_0, ∃ (v9_1 : Value), r9 = .tuple #[zi x9_0, v9_1] ∧
 CallsH P Zh6 #[zi x9_0, v9_1, zi 720] h_3 fun r15 h_4 => ∃ (v15_0 : Value), ∃ (b15_1 : Bool), r15 = .tuple #[v15_0, .bool b15_1] ∧
 ∃ J : Value → Heap → Prop, (
 bif !b15_1 then
 zV ZdK #[zi x9_0] h_4 fun v21 h_5 =>
 vOne v21 fun _ =>
 vNewS h_5 (.cells #[v21] Zi) 1 fun v22 h_6 =>
 J v22 h_6
 else
 J v15_0 h_4
 ) ∧ ∀ (_ : Env) (v5 : Value) (h_7 : Heap), J v5 h_7 →
 zV ZgD #[v5] h_7 fun v25 h_8 =>
 vOne v25 fun _ =>
 vStore1 h_8 p2 (zi x9_0) fun h_9 =>
 vStore1 h_9 (p2.add 1) v25 fun h_10 =>
 ldI .i64 h_10 p2 fun xres0_0 =>
 ldV h_10 (p2.add 1) fun vres0_1 =>
 R (.agg #[zi xres0_0, vres0_1]) h_10) : CallsH P Zft #[.pointer (some p0)] h R := zv ⟨[], [(5, [(5, .v)])], []⟩ Tryz.func63 hv
theorem ZoB {p0 : Addr} (hv :
 vNew h (.cells #[zi 0, .slice none 0 0] ZM) fun p2 h_2 =>
 CallsH P Zft #[.pointer (some p0)] h_2 fun r5 h_3 => ∃ x5_0_0, ∃ (v5_0_1 : Value), r5 = .agg #[zi x5_0_0, v5_0_1] ∧
 vNew h_3 (.cells #[zi 0, .slice none 0 0] ZM) fun p3 h_4 =>
 vStore1 h_4 p3 (zi x5_0_0) fun h_5 =>
 vStore1 h_5 (p3.add 1) v5_0_1 fun h_6 =>
 zI ZV #[.pointer (some p0), zi 20] h_6 fun x7 h_7 =>
 bif x7 == 0 then
 vNewS h_7 (.cells #[zi 0, zi 1, zi 33] Zk) 3 fun v11 h_8 =>
 zI Z8 #[.pointer (some p0), v11] h_8 fun x12 h_9 =>
 vStore1 h_9 p3 (zi x12) fun h_10 =>
 ldI .i64 h_10 p3 fun x47_0 =>
 ldV h_10 (p3.add 1) fun v47_1 =>
 vStore1 h_10 p2 (zi x47_0) fun h_11 =>
 vStore1 h_11 (p2.add 1) v47_1 fun h_12 =>
 ldI .i64 h_12 p2 fun xres0_0 =>
 ldV h_12 (p2.add 1) fun vres0_1 =>
 R (.agg #[zi xres0_0, vres0_1]) h_12
 else
 bif x7 == 1 then
 ldV h_7 (p3.add 1) fun v17 =>
 vSliceS v17 1 (some (zi 1)) none none fun v18 =>
 vStore1 h_7 (p3.add 1) v18 fun h_13 =>
 ldI .i64 h_13 p3 fun x47_0_2 =>
 ldV h_13 (p3.add 1) fun v47_1_2 =>
 vStore1 h_13 p2 (zi x47_0_2) fun h_14 =>
 vStore1 h_14 (p2.add 1) v47_1_2 fun h_15 =>
 ldI .i64 h_15 p2 fun xres0_0_2 =>
 ldV h_15 (p2.add 1) fun vres0_1_2 =>
 R (.agg #[zi xres0_0_2, vres0_1_2]) h_15
 else
 bif x7 == 2 then
 ∃ B : Nat → Prop,
 ldV h_7 (p3.add 1) fun v25 =>
 vIdx v25 0 1 fun p26 =>
 ldV h_7 p26 fun v27 =>
 vOne v27 fun _ =>
 vNewS h_7 (.cells #[v27] Zi) 1 fun v28 h_16 =>
 ExtBut B h_7 h_16 ∧
 ldV (hmask B h_7) (p3.add 1) fun v23 =>
 vAppend 1 24 [.slice none 0 0] Zi v23 v28 h_16 fun v29 h_17 =>
 vStore1 h_17 (p3.add 1) v29 fun h_18 =>
 ldI .i64 h_18 p3 fun x47_0_3 =>
 ldV h_18 (p3.add 1) fun v47_1_3 =>
 vStore1 h_18 p2 (zi x47_0_3) fun h_19 =>
 vStore1 h_19 (p2.add 1) v47_1_3 fun h_20 =>
 ldI .i64 h_20 p2 fun xres0_0_3 =>
 ldV h_20 (p2.add 1) fun vres0_1_3 =>
 R (.agg #[zi xres0_0_3, vres0_1_3]) h_20
 else
 bif x7 == 3 then
 ldV h_7 (p3.add 1) fun v34 =>
 vLen v34 fun n35 =>
 bif decide ((n35 : Int) > 2) then
 vNewS h_7 (.cells #[] Zi) 0 fun v37 h_21 =>
 ldV h_21 (p3.add 1) fun v39 =>
 ldV h_21 (p3.add 1) fun v41 =>
 vLen v41 fun n42 =>
 vSliceS v39 1 none (some (zi (zw ((n42 : Int) - 1)))) none fun v44 =>
 vAppend 1 24 [.slice none 0 0] Zi v37 v44 h_21 fun v45 h_22 =>
 vStore1 h_22 (p3.add 1) v45 fun h_23 =>
 ldI .i64 h_23 p3 fun x47_0_4 =>
 ldV h_23 (p3.add 1) fun v47_1_4 =>
 vStore1 h_23 p2 (zi x47_0_4) fun h_24 =>
 vStore1 h_24 (p2.add 1) v47_1_4 fun h_25 =>
 ldI .i64 h_25 p2 fun xres0_0_4 =>
 ldV h_25 (p2.add 1) fun vres0_1_4 =>
 R (.agg #[zi xres0_0_4, vres0_1_4]) h_25
 else
 ldI .i64 h_7 p3 fun x47_0_5 =>
 ldV h_7 (p3.add 1) fun v47_1_5 =>
 vStore1 h_7 p2 (zi x47_0_5) fun h_26 =>
 vStore1 h_26 (p2.add 1) v47_1_5 fun h_27 =>
 ldI .i64 h_27 p2 fun xres0_0_5 =>
 ldV h_27 (p2.add 1) fun vres0_1_5 =>
 R (.agg #[zi xres0_0_5, vres0_1_5]) h_27
 else
 ldI .i64 h_7 p3 fun x47_0_6 =>
 ldV h_7 (p3.add 1) fun v47_1_6 =>
 vStore1 h_7 p2 (zi x47_0_6) fun h_28 =>
 vStore1 h_28 (p2.add 1) v47_1_6 fun h_29 =>
 ldI .i64 h_29 p2 fun xres0_0_6 =>
 ldV h_29 (p2.add 1) fun vres0_1_6 =>
 R (.agg #[zi xres0_0_6, vres0_1_6]) h_29) : CallsH P ZfV #[.pointer (some p0)] h R := zv ⟨[], [], []⟩ Tryz.func62 hv
theorem Zmm {p0 : Addr} (hv :
 vNew h (.cells #[zi 0, .slice none 0 0] ZM) fun p2 h_2 =>
 zI ZV #[.pointer (some p0), zi 6] h_2 fun x9 h_3 =>
 bif x9 == 0 then
 zI ZV #[.pointer (some p0), zi 11] h_3 fun x13 h_4 =>
 vNewS h_4 (.cells #[zi 1] Zk) 1 fun v15 h_5 =>
 CallsH P Zcr #[zi (zw (x13 + 1)), v15] h_5 fun r16 h_6 => ∃ x16_0_0, ∃ (v16_0_1 : Value), r16 = .agg #[zi x16_0_0, v16_0_1] ∧
 vStore1 h_6 p2 (zi x16_0_0) fun h_7 =>
 vStore1 h_7 (p2.add 1) v16_0_1 fun h_8 =>
 ldI .i64 h_8 p2 fun xres0_0 =>
 ldV h_8 (p2.add 1) fun vres0_1 =>
 R (.agg #[zi xres0_0, vres0_1]) h_8
 else
 bif x9 == 1 then
 vNewS h_3 (.cells #[zi 1, zi 2, zi 3, zi 6] Zk) 4 fun v21 h_9 =>
 zI Z8 #[.pointer (some p0), v21] h_9 fun x22 h_10 =>
 CallsH P Zfq #[zi 7, zi x22] h_10 fun r23 h_11 => ∃ x23_0_0, ∃ (v23_0_1 : Value), ∃ x23_1, r23 = .tuple #[.agg #[zi x23_0_0, v23_0_1], zi x23_1] ∧
 vNew h_11 (.cells #[zi 0, .slice none 0 0] ZM) fun p3 h_12 =>
 vStore1 h_12 p3 (zi x23_0_0) fun h_13 =>
 vStore1 h_13 (p3.add 1) v23_0_1 fun h_14 =>
 ldI .i64 h_14 p3 fun x26_0 =>
 ldV h_14 (p3.add 1) fun v26_1 =>
 vStore1 h_14 p2 (zi x26_0) fun h_15 =>
 vStore1 h_15 (p2.add 1) v26_1 fun h_16 =>
 ldI .i64 h_16 p2 fun xres0_0_2 =>
 ldV h_16 (p2.add 1) fun vres0_1_2 =>
 R (.agg #[zi xres0_0_2, vres0_1_2]) h_16
 else
 bif x9 == 2 then
 vNewS h_3 (.cells #[zi 5, zi 11, zi 13] Zk) 3 fun v30 h_17 =>
 zI Z8 #[.pointer (some p0), v30] h_17 fun x31 h_18 =>
 vNewS h_18 (.cells #[zi 1, zi 2, zi 4] Zk) 3 fun v35 h_19 =>
 zI Z8 #[.pointer (some p0), v35] h_19 fun x36 h_20 =>
 CallsH P Zfq #[zi x31, zi x36] h_20 fun r37 h_21 => ∃ x37_0_0, ∃ (v37_0_1 : Value), ∃ x37_1, r37 = .tuple #[.agg #[zi x37_0_0, v37_0_1], zi x37_1] ∧
 vNew h_21 (.cells #[zi 0, .slice none 0 0] ZM) fun p6 h_22 =>
 vStore1 h_22 p6 (zi x37_0_0) fun h_23 =>
 vStore1 h_23 (p6.add 1) v37_0_1 fun h_24 =>
 ldI .i64 h_24 p6 fun x41 =>
 bif x41 == 0 then
 vNewS h_24 (.cells #[zi 1] Zk) 1 fun v44 h_25 =>
 CallsH P Zcr #[zi x31, v44] h_25 fun r45 h_26 => ∃ x45_0_0, ∃ (v45_0_1 : Value), r45 = .agg #[zi x45_0_0, v45_0_1] ∧
 vStore1 h_26 p2 (zi x45_0_0) fun h_27 =>
 vStore1 h_27 (p2.add 1) v45_0_1 fun h_28 =>
 ldI .i64 h_28 p2 fun xres0_0_3 =>
 ldV h_28 (p2.add 1) fun vres0_1_3 =>
 R (.agg #[zi xres0_0_3, vres0_1_3]) h_28
 else
 ldI .i64 h_24 p6 fun x46_0 =>
 ldV h_24 (p6.add 1) fun v46_1 =>
 vStore1 h_24 p2 (zi x46_0) fun h_29 =>
 vStore1 h_29 (p2.add 1) v46_1 fun h_30 =>
 ldI .i64 h_30 p2 fun xres0_0_4 =>
 ldV h_30 (p2.add 1) fun vres0_1_4 =>
 R (.agg #[zi xres0_0_4, vres0_1_4]) h_30
 else
 bif x9 == 3 then
 CallsH P ZfV #[.pointer (some p0)] h_3 fun r50 h_31 => ∃ x50_0_0, ∃ (v50_0_1 : Value), r50 = .agg #[zi x50_0_0, v50_0_1] ∧
 vStore1 h_31 p2 (zi x50_0_0) fun h_32 =>
 vStore1 h_32 (p2.add 1) v50_0_1 fun h_33 =>
 ldI .i64 h_33 p2 fun xres0_0_5 =>
 ldV h_33 (p2.add 1) fun vres0_1_5 =>
 R (.agg #[zi xres0_0_5, vres0_1_5]) h_33
 else
 CallsH P Zft #[.pointer (some p0)] h_3 fun r52 h_34 => ∃ x52_0_0, ∃ (v52_0_1 : Value), r52 = .agg #[zi x52_0_0, v52_0_1] ∧
 vStore1 h_34 p2 (zi x52_0_0) fun h_35 =>
 vStore1 h_35 (p2.add 1) v52_0_1 fun h_36 =>
 ldI .i64 h_36 p2 fun xres0_0_6 =>
 ldV h_36 (p2.add 1) fun vres0_1_6 =>
 R (.agg #[zi xres0_0_6, vres0_1_6]) h_36) : CallsH P ZfX #[.pointer (some p0)] h R := zv ⟨[], [], []⟩ Tryz.func24 hv
theorem ZpD {p0 : Addr} {x1 : Int} (hv :
 zI ZV #[.pointer (some p0), zi x1] h fun x7 h_2 =>
 R (.bool (x7 == 0)) h_2) : CallsH P ZeJ #[.pointer (some p0), zi x1] h R := zv ⟨[], [], []⟩ Tryz.func25 hv
theorem ZpA {p0 : Addr} (hv :
 zB ZeJ #[.pointer (some p0), zi 8] h fun b4 h_2 =>
 bif b4 then
 vNewS h_2 (.cells #[zi 0, zi (-1), zi 2000, zi 2001] Zk) 4 fun v6 h_3 =>
 zI Z8 #[.pointer (some p0), v6] h_3 fun x7 h_4 =>
 R (zi x7) h_4
 else
 zI ZV #[.pointer (some p0), zi 5] h_2 fun x9 h_5 =>
 R (zi (zw (x9 + 1))) h_5) : CallsH P ZfM #[.pointer (some p0)] h R := zv ⟨[], [], []⟩ Tryz.func28 hv
theorem Zon {p0 : Addr} (hv :
 zI ZV #[.pointer (some p0), zi 8] h fun x4 h_2 =>
 bif x4 == 0 then
 vNewS h_2 (.cells #[zi 0, zi 1, zi (-1), zi 20000, zi 20001] Zk) 5 fun v8 h_3 =>
 zI Z8 #[.pointer (some p0), v8] h_3 fun x9 h_4 =>
 R (zi x9) h_4
 else
 bif x4 == 1 then
 zI ZV #[.pointer (some p0), zi 30] h_2 fun x13 h_5 =>
 R (zi (zw (x13 + 1))) h_5
 else
 zI ZV #[.pointer (some p0), zi 1000] h_2 fun x16 h_6 =>
 R (zi (zw (300 + x16))) h_6) : CallsH P ZeL #[.pointer (some p0)] h R := zv ⟨[], [], []⟩ Tryz.func29 hv
theorem ZmD {v0 : Value} (hv :
 vNew h (.cells #[zi 0, .slice none 0 0] ZM) fun p2 h_2 =>
 CallsH P ZfI #[v0] h_2 fun r13 h_3 => ∃ (p13 : Addr), r13 = .pointer (some p13) ∧
 CallsH P ZfX #[.pointer (some p13)] h_3 fun r15 h_4 => ∃ x15_0_0, ∃ (v15_0_1 : Value), r15 = .agg #[zi x15_0_0, v15_0_1] ∧
 vNew h_4 (.cells #[zi 0, .slice none 0 0] ZM) fun p8 h_5 =>
 vStore1 h_5 p8 (zi x15_0_0) fun h_6 =>
 vStore1 h_6 (p8.add 1) v15_0_1 fun h_7 =>
 ∃ J : Heap → Prop, (
 zB ZeJ #[.pointer (some p13), zi 2] h_7 fun b17 h_8 =>
 bif b17 then
 vNewS h_8 (.cells #[zi 5, zi 6, zi 7, zi 9, zi 11, zi 13] Zk) 6 fun v19 h_9 =>
 zI Z8 #[.pointer (some p13), v19] h_9 fun x20 h_10 =>
 vNewS h_10 (.cells #[zi 1] Zk) 1 fun v21 h_11 =>
 CallsH P Zcr #[zi x20, v21] h_11 fun r22 h_12 => ∃ x22_0_0, ∃ (v22_0_1 : Value), r22 = .agg #[zi x22_0_0, v22_0_1] ∧
 vStore1 h_12 p8 (zi x22_0_0) fun h_13 =>
 vStore1 h_13 (p8.add 1) v22_0_1 fun h_14 =>
 J h_14
 else
 J h_8
 ) ∧ ∀ (_ : Env) (h_15 : Heap), J h_15 →
 vNewS h_15 (.cells #[zi 2, zi 2, zi 2, zi 1, zi 3, zi 0, zi (-1)] Zk) 7 fun v24 h_16 =>
 zI Z8 #[.pointer (some p13), v24] h_16 fun x25 h_17 =>
 vNewS h_17 (.cells #[zi 3, zi 3, zi 4, zi 2, zi 1, zi 0, zi 5] Zk) 7 fun v27 h_18 =>
 zI Z8 #[.pointer (some p13), v27] h_18 fun x28 h_19 =>
 zI ZfM #[.pointer (some p13)] h_19 fun x30 h_20 =>
 (
 ldI .i64 h_20 p8 fun x31_0 =>
 ldV h_20 (p8.add 1) fun v31_1 =>
 zI ZeL #[.pointer (some p13)] h_20 fun x36 h_21 =>
 vStore1 h_21 p2 (zi x31_0) fun h_22 =>
 vStore1 h_22 (p2.add 1) v31_1 fun h_23 =>
 ldI .i64 h_23 p2 fun xres0_0 =>
 ldV h_23 (p2.add 1) fun vres0_1 =>
 R (.tuple #[.agg #[zi xres0_0, vres0_1], zi x25, zi x28, zi x30, zi x36]) h_23
 ) ∧
 (
 zI ZeL #[.pointer (some p13)] h_20 fun x36_2 h_24 =>
 ldI .i64 h_24 p8 fun x31_0_2 =>
 ldV h_24 (p8.add 1) fun v31_1_2 =>
 vStore1 h_24 p2 (zi x31_0_2) fun h_25 =>
 vStore1 h_25 (p2.add 1) v31_1_2 fun h_26 =>
 ldI .i64 h_26 p2 fun xres0_0_2 =>
 ldV h_26 (p2.add 1) fun vres0_1_2 =>
 R (.tuple #[.agg #[zi xres0_0_2, vres0_1_2], zi x25, zi x28, zi x30, zi x36_2]) h_26
 )) : CallsH P ZhM #[v0] h R := zv ⟨[], [(5, [])], [(8, [0])]⟩ Tryz.func6 hv
theorem Zo2 {x0 x1 x2 : Int} (hv :
 bif decide (x0 ≥ x1) then
 R (.bool (decide (x0 ≤ x2))) h
 else
 R (.bool false) h) : CallsH P ZX #[zi x0, zi x1, zi x2] h R := zv ⟨[], [], []⟩ Tryz.func36 hv
theorem Zoq {x0 : Int} (hv :
 R (.bool (x0 != x0)) h) : CallsH P Zes #[zi x0] h R := zv ⟨[], [], []⟩ Tryz.func122 hv
theorem Zmc {x0 x1 : Int} (hv :
 zB Zes #[zi x0] h fun b8 h_2 =>
 zB Zes #[zi x1] h_2 fun b10 h_3 =>
 bif b8 then
 bif b10 then
 R (zi 0) h_3
 else
 R (zi (-1)) h_3
 else
 bif b10 then
 R (zi 1) h_3
 else
 bif decide (x0 < x1) then
 R (zi (-1)) h_3
 else
 bif decide (x0 > x1) then
 R (zi 1) h_3
 else
 R (zi 0) h_3) : CallsH P ZhO #[zi x0, zi x1] h R := zv ⟨[], [], []⟩ Tryz.func80 hv
theorem Zne {v0 v1 : Value} (hv :
 vLen v0 fun n10 =>
 lq1 (0 : Int) h fun J n x11 h_2 =>
 bif decide (x11 < (n10 : Int)) then
 vIdx v0 x11 1 fun p14 =>
 ldI .i64 h_2 p14 fun x15 =>
 vLen v1 fun n18 =>
 bif decide (x11 ≥ (n18 : Int)) then
 R (zi 1) h_2
 else
 vIdx v1 x11 1 fun p22 =>
 ldI .i64 h_2 p22 fun x23 =>
 zI ZhO #[zi x15, zi x23] h_2 fun x26 h_3 =>
 bif x26 != 0 then
 R (zi x26) h_3
 else
 ag1 J n (zw (x11 + 1)) h_3
 else
 vLen v0 fun n32 =>
 vLen v1 fun n34 =>
 bif decide ((n32 : Int) < (n34 : Int)) then
 R (zi (-1)) h_2
 else
 R (zi 0) h_2) : CallsH P ZaG #[v0, v1] h R := zv ⟨[(2, [(11, .i .i64)])], [], []⟩ Tryz.func42 hv
theorem Zom {v0 : Value} {g1 : Nat} {cap1 : List Value} (hv :
 vLen v0 fun n7 =>
 lq1 (0 : Int) h fun J n x8 h_2 =>
 bif decide (x8 < (n7 : Int)) then
 vIdx v0 x8 1 fun p14 =>
 ldV h_2 p14 fun v15 =>
 vOkf ctx g1 fun _ =>
 CallsH P g1 (([v15] : List Value) ++ cap1).toArray h_2 fun r16 h_3 => ∃ (b16 : Bool), r16 = .bool b16 ∧
 bif b16 then
 R (zi x8) h_3
 else
 ag1 J n (zw (x8 + 1)) h_3
 else
 R (zi (-1)) h_2) : CallsH P Zg2 #[v0, .func (.func g1) #[] cap1.toArray] h R := zv ⟨[(2, [(8, .i .i64)])], [], []⟩ Tryz.func77 hv
theorem ZlD {v0 : Value} {g1 : Nat} {cap1 : List Value} (hv :
 zI Zg2 #[v0, .func (.func g1) #[] cap1.toArray] h fun x7 h_2 =>
 R (.bool (decide (x7 ≥ 0))) h_2) : CallsH P ZbX #[v0, .func (.func g1) #[] cap1.toArray] h R := zv ⟨[], [], []⟩ Tryz.func38 hv
theorem Zo0 {v0 : Value} (hv :
 vLen v0 fun n4 =>
 R (zi (n4 : Int)) h) : CallsH P ZdM #[v0] h R := zv ⟨[], [], []⟩ Tryz.func82 hv
theorem Zqc {v0 : Value} (hv :
 vNilS false v0 fun b4 =>
 bif b4 then
 R (.slice none 0 0) h
 else
 vNewS h (.cells #[] Zk) 0 fun v5 h_2 =>
 vAppend 1 8 [zi 0] Zk v5 v0 h_2 fun v7 h_3 =>
 R v7 h_3) : CallsH P Zb2 #[v0] h R := zv ⟨[], [], []⟩ Tryz.func123 hv
theorem ZnR {v0 : Value} (hv :
 zV Zb2 #[v0] h fun v7 h_2 =>
 CallsH P Zgd #[v7] h_2 fun r9 h_3 => r9 = .tuple #[] ∧
 vLen v7 fun n11 =>
 lq1 (0 : Int) h_3 fun J n x12 h_4 =>
 bif decide (x12 < (n11 : Int)) then
 vIdx v7 x12 1 fun p15 =>
 ldI .i64 h_4 p15 fun x16 =>
 bif x16 != x12 then
 R (.bool false) h_4
 else
 ag1 J n (zw (x12 + 1)) h_4
 else
 vLen v0 fun n22 =>
 R (.bool (decide ((n22 : Int) ≤ 32))) h_4) : CallsH P ZgW #[v0] h R := zv ⟨[(4, [(12, .i .i64)])], [], []⟩ Tryz.func108 hv
theorem Zk1 {v0 : Value} {p1 : Addr} (hv :
 ∃ B : Nat → Prop,
 zI ZdM #[v0] h fun x5 h_2 =>
 ExtBut B h h_2 ∧
 ldI .i64 (hmask B h) p1 fun x6 =>
 bif x5 != x6 then
 R (.bool true) h_2
 else
 zB ZgW #[v0] h_2 fun b10 h_3 =>
 R (.bool (!b10)) h_3) : CallsH P Zhq #[v0, .pointer (some p1)] h R := zv ⟨[], [], []⟩ Tryz.func107 hv
theorem Zm0 {x0 : Int} {v1 : Value} (hv :
 vNew h (.cells #[zi x0] Zk) fun p2 h_2 =>
 zB ZbX #[v1, .func (.func Zhq) #[] #[.pointer (some p2)]] h_2 fun b7 h_3 =>
 R (.bool (!b7)) h_3) : CallsH P ZgP #[zi x0, v1] h R := zv ⟨[], [], []⟩ Tryz.func65 hv
theorem ZmC {x0 : Int} (hv :
 vMake 8 [zi 0] Zk x0 x0 h fun v6 h_2 =>
 vLen v6 fun n8 =>
 lq1 (0 : Int) h_2 fun J n x9 h_3 =>
 bif decide (x9 < (n8 : Int)) then
 vIdx v6 x9 1 fun p15 =>
 vStore1 h_3 p15 (zi x9) fun h_4 =>
 ag1 J n (zw (x9 + 1)) h_4
 else
 R v6 h_3) : CallsH P ZeM #[zi x0] h R := zv ⟨[(3, [(9, .i .i64)])], [], []⟩ Tryz.func83 hv
theorem Zqg {v0 : Value} (hv :
 vLen v0 fun n7 =>
 vMake 1 [.int .u8 0] Zl2 (n7 : Int) (n7 : Int) h fun v8 h_2 =>
 vLen v0 fun n10 =>
 lq1 (0 : Int) h_2 fun J n x11 h_3 =>
 bif decide (x11 < (n10 : Int)) then
 vIdx v0 x11 1 fun p14 =>
 ldI .i64 h_3 p14 fun x15 =>
 vIdx v8 x11 1 fun p20 =>
 vStore1 h_3 p20 (.int .u8 (IntKind.u8.wrap x15)) fun h_4 =>
 ag1 J n (zw (x11 + 1)) h_4
 else
 vB2S v8 h_3 fun s23 =>
 R (.string s23) h_3) : CallsH P Ze3 #[v0] h R := zv ⟨[(3, [(11, .i .i64)])], [], []⟩ Tryz.func145 hv
theorem Zmb {v0 v1 : Value} (hv :
 vLen v0 fun n8 =>
 vMake 8 [zi 0] Zk (n8 : Int) (n8 : Int) h fun v9 h_2 =>
 vLen v9 fun n11 =>
 lq1 (0 : Int) h_2 fun J n x12 h_3 =>
 bif decide (x12 < (n11 : Int)) then
 vIdx v0 x12 1 fun p20 =>
 ldI .i64 h_3 p20 fun x21 =>
 vIdx v1 x21 1 fun p22 =>
 ldI .i64 h_3 p22 fun x23 =>
 vIdx v9 x12 1 fun p24 =>
 vStore1 h_3 p24 (zi x23) fun h_4 =>
 ag1 J n (zw (x12 + 1)) h_4
 else
 R v9 h_3) : CallsH P Zhf #[v0, v1] h R := zv ⟨[(3, [(12, .i .i64)])], [], []⟩ Tryz.func146 hv
theorem ZpF {x0 : Int} {v1 : Value} (hv :
 zV ZeM #[zi x0] h fun v14 h_2 =>
 vOne v14 fun _ =>
 vNewS h_2 (.cells #[v14] Zi) 1 fun v15 h_3 =>
 vMapNew h_3 fun v16 h_4 =>
 vIdx v15 0 1 fun p18 =>
 ldV h_4 p18 fun v19 =>
 zS Ze3 #[v19] h_4 fun s20 h_5 =>
 vMapSet .str v16 (.string s20) (.bool true) h_5 fun h_6 =>
 lq2 v15 (0 : Int) h_6 fun J n v6 x8 h_7 =>
 vLen v6 fun n24 =>
 bif decide (x8 < (n24 : Int)) then
 vLen v1 fun n29 =>
 lq2 v6 (0 : Int) h_7 fun J_2 n_3 v6_2 x30 h_8 =>
 bif decide (x30 < (n29 : Int)) then
 vIdx v1 x30 1 fun p32 =>
 ldV h_8 p32 fun v33 =>
 vIdx v6_2 x8 1 fun p36 =>
 ldV h_8 p36 fun v37 =>
 zV Zhf #[v37, v33] h_8 fun v39 h_9 =>
 zS Ze3 #[v39] h_9 fun s41 h_10 =>
 mapGetB .str v16 (.string s41) h_10 fun b44 =>
 bif !b44 then
 vMapSet .str v16 (.string s41) (.bool true) h_10 fun h_11 =>
 vOne v39 fun _ =>
 vNewS h_11 (.cells #[v39] Zi) 1 fun v50 h_12 =>
 vAppend 1 24 [.slice none 0 0] Zi v6_2 v50 h_12 fun v51 h_13 =>
 ag2 J_2 n_3 v51 (zw (x30 + 1)) h_13
 else
 ag2 J_2 n_3 v6_2 (zw (x30 + 1)) h_10
 else
 vLen v6_2 fun n54 =>
 bif decide ((n54 : Int) > 720) then
 R (.tuple #[(.slice none 0 0), .bool false]) h_8
 else
 ag2 J n v6_2 (zw (x8 + 1)) h_8
 else
 CallsH P Zez #[v6, .func (.func ZaG) #[] #[]] h_7 fun r57 h_14 => r57 = .tuple #[] ∧
 R (.tuple #[v6, .bool true]) h_14) : CallsH P Zex #[zi x0, v1] h R := zv ⟨[(4, [(6, .v), (8, .i .i64)]), (7, [(6, .v), (30, .i .i64)])], [], []⟩ Tryz.func109 hv
theorem Zpq {v0 v1 : Value} {g2 : Nat} {cap2 : List Value} (hv :
 vLen v0 fun n13 =>
 lq2 (0 : Int) (n13 : Int) h fun J n x9 x10 h_2 =>
 bif decide (x9 < x10) then
 (0 : Int) ≤ 1 ∧
 vIdx v0 (zw (Int.fdiv (IntKind.u64.wrap (zw (x9 + x10))) (2 ^ min (1 : Int).toNat IntKind.u64.bits))) 1 fun p27 =>
 ldV h_2 p27 fun v28 =>
 vOkf ctx g2 fun _ =>
 CallsH P g2 (([v28, v1] : List Value) ++ cap2).toArray h_2 fun r30 h_3 => ∃ x30, r30 = zi x30 ∧
 bif decide (x30 < 0) then
 ag2 J n (zw ((zw (Int.fdiv (IntKind.u64.wrap (zw (x9 + x10))) (2 ^ min (1 : Int).toNat IntKind.u64.bits))) + 1)) x10 h_3
 else
 ag2 J n x9 (zw (Int.fdiv (IntKind.u64.wrap (zw (x9 + x10))) (2 ^ min (1 : Int).toNat IntKind.u64.bits))) h_3
 else
 bif decide (x9 < (n13 : Int)) then
 vIdx v0 x9 1 fun p43 =>
 ldV h_2 p43 fun v44 =>
 vOkf ctx g2 fun _ =>
 CallsH P g2 (([v44, v1] : List Value) ++ cap2).toArray h_2 fun r46 h_4 => ∃ x46, r46 = zi x46 ∧
 R (.tuple #[zi x9, .bool (x46 == 0)]) h_4
 else
 R (.tuple #[zi x9, .bool false]) h_2) : CallsH P Zhs #[v0, v1, .func (.func g2) #[] cap2.toArray] h R := zv ⟨[(3, [(9, .i .i64), (10, .i .i64)])], [], []⟩ Tryz.func110 hv
theorem Zm9 {x0 : Int} {v1 : Value} (hv :
 CallsH P Zex #[zi x0, (.slice none 0 0)] h fun r16 h_2 => ∃ (v16_0 : Value), ∃ (b16_1 : Bool), r16 = .tuple #[v16_0, .bool b16_1] ∧
 vLen v1 fun n20 =>
 lq4 ((.slice none 0 0) : Value) v16_0 b16_1 (0 : Int) h_2 fun J n v7 v8 b9 x21 h_3 =>
 bif decide (x21 < (n20 : Int)) then
 vIdx v1 x21 1 fun p23 =>
 ldV h_3 p23 fun v24 =>
 ∃ J_2 : Heap → Prop, (
 CallsH P Zhs #[v8, v24, .func (.func ZaG) #[] #[]] h_3 fun r28 h_4 => ∃ x28_0, ∃ (b28_1 : Bool), r28 = .tuple #[zi x28_0, .bool b28_1] ∧
 bif b28_1 then
 ag4 J n v7 v8 b9 (zw (x21 + 1)) h_4
 else
 bif !b9 then
 ag4 J n v7 v8 b9 (zw (x21 + 1)) h_4
 else
 J_2 h_4
 ) ∧ ∀ (_ : Env) (h_5 : Heap), J_2 h_5 →
 vOne v24 fun _ =>
 vNewS h_5 (.cells #[v24] Zi) 1 fun v38 h_6 =>
 vAppend 1 24 [.slice none 0 0] Zi v7 v38 h_6 fun v39 h_7 =>
 CallsH P Zex #[zi x0, v39] h_7 fun r43 h_8 => ∃ (v43_0 : Value), ∃ (b43_1 : Bool), r43 = .tuple #[v43_0, .bool b43_1] ∧
 ag4 J n v39 v43_0 b43_1 (zw (x21 + 1)) h_8
 else
 R (.tuple #[v7, v8, .bool b9]) h_3) : CallsH P Zh0 #[zi x0, v1] h R := zv ⟨[(4, [(7, .v), (8, .v), (9, .b), (21, .i .i64)])], [(8, [])], []⟩ Tryz.func66 hv
theorem ZpW {x0_0 : Int} {v0_1 : Value} (hv :
 vNew h (.cells #[zi x0_0, v0_1] ZM) fun p1 h_2 =>
 ∃ J : Heap → Prop, (
 ldI .i64 h_2 p1 fun x8 =>
 zB ZX #[zi x8, zi 1, zi 32] h_2 fun b9 h_3 =>
 bif !b9 then
 R (.bool false) h_3
 else
 ldV h_3 (p1.add 1) fun v13 =>
 vLen v13 fun n14 =>
 bif decide ((n14 : Int) < 1) then
 R (.bool false) h_3
 else
 ldV h_3 (p1.add 1) fun v19 =>
 vLen v19 fun n20 =>
 bif decide ((n20 : Int) > 720) then
 R (.bool false) h_3
 else
 ldI .i64 h_3 p1 fun x25 =>
 ldV h_3 (p1.add 1) fun v27 =>
 zB ZgP #[zi x25, v27] h_3 fun b28 h_4 =>
 bif !b28 then
 R (.bool false) h_4
 else
 J h_4
 ) ∧ ∀ (_ : Env) (h_5 : Heap), J h_5 →
 lq1 (1 : Int) h_5 fun J_2 n x3 h_6 =>
 ldV h_6 (p1.add 1) fun v33 =>
 vLen v33 fun n34 =>
 bif decide (x3 < (n34 : Int)) then
 ldV h_6 (p1.add 1) fun v39 =>
 vIdx v39 (zw (x3 - 1)) 1 fun p42 =>
 ldV h_6 p42 fun v43 =>
 ldV h_6 (p1.add 1) fun v45 =>
 vIdx v45 x3 1 fun p47 =>
 ldV h_6 p47 fun v48 =>
 zI ZaG #[v43, v48] h_6 fun x49 h_7 =>
 bif decide (x49 ≥ 0) then
 R (.bool false) h_7
 else
 ag1 J_2 n (zw (x3 + 1)) h_7
 else
 ldI .i64 h_6 p1 fun x53 =>
 ldV h_6 (p1.add 1) fun v55 =>
 CallsH P Zh0 #[zi x53, v55] h_6 fun r56 h_8 => ∃ (v56_0 : Value), ∃ (v56_1 : Value), ∃ (b56_2 : Bool), r56 = .tuple #[v56_0, v56_1, .bool b56_2] ∧
 bif b56_2 then
 vLen v56_1 fun n63 =>
 ldV h_8 (p1.add 1) fun v65 =>
 vLen v65 fun n66 =>
 R (.bool ((n63 : Int) == (n66 : Int))) h_8
 else
 R (.bool false) h_8) : CallsH P ZbJ #[.agg #[zi x0_0, v0_1]] h R := zv ⟨[(4, [(3, .i .i64)])], [(3, [])], []⟩ Tryz.func30 hv
theorem Zqa {x0 : Int} (hv :
 zB ZX #[zi x0, zi 1, zi 20000] h fun b4 h_2 =>
 R (.bool b4) h_2) : CallsH P Zfm #[zi x0] h R := zv ⟨[], [], []⟩ Tryz.func31 hv
theorem ZpI {x0 x1 : Int} (hv :
 ∃ J : Heap → Prop, (
 zB ZX #[zi x0, zi 0, zi 32] h fun b8 h_2 =>
 bif !b8 then
 R (zi 0) h_2
 else
 zB ZX #[zi x1, zi 0, zi x0] h_2 fun b13 h_3 =>
 bif !b13 then
 R (zi 0) h_3
 else
 J h_3
 ) ∧ ∀ (_ : Env) (h_4 : Heap), J h_4 →
 lq2 (1 : Int) (1 : Int) h_4 fun J_2 n x5 x6 h_5 =>
 bif decide (x6 ≤ x1) then
 x6 ≠ 0 ∧
 ag2 J_2 n (zw (Int.tdiv (zw (x5 * (zw ((zw (x0 - x1)) + x6)))) x6)) (zw (x6 + 1)) h_5
 else
 R (zi x5) h_5) : CallsH P ZcW #[zi x0, zi x1] h R := zv ⟨[(5, [(5, .i .i64), (6, .i .i64)])], [(3, [])], []⟩ Tryz.func45 hv
theorem ZqJ {x0_0 : Int} {v0_1 v1 : Value} (hv :
 vNew h (.cells #[zi x0_0, v0_1] ZM) fun p2 h_2 =>
 ldI .i64 h_2 p2 fun x9_0 =>
 ldV h_2 (p2.add 1) fun v9_1 =>
 zB ZbJ #[.agg #[zi x9_0, v9_1]] h_2 fun b10 h_3 =>
 bif !b10 then
 R (zi 1) h_3
 else
 vLen v1 fun n13 =>
 lq1 (0 : Int) h_3 fun J n x14 h_4 =>
 bif decide (x14 < (n13 : Int)) then
 vIdx v1 x14 1 fun p16 =>
 ldI .i64 h_4 p16 fun x17 =>
 ldI .i64 h_4 p2 fun x20 =>
 zB ZX #[zi x17, zi 0, zi x20] h_4 fun b21 h_5 =>
 bif !b21 then
 R (zi 2) h_5
 else
 ag1 J n (zw (x14 + 1)) h_5
 else
 vLen v1 fun n25 =>
 lq1 (0 : Int) h_4 fun J_2 n_3 x26 h_6 =>
 bif decide (x26 < (n25 : Int)) then
 vIdx v1 x26 1 fun p28 =>
 ldI .i64 h_6 p28 fun x29 =>
 ldI .i64 h_6 p2 fun x31 =>
 zI ZcW #[zi x31, zi x29] h_6 fun x33 h_7 =>
 bif decide (x33 > 2000) then
 R (zi 5) h_7
 else
 ag1 J_2 n_3 (zw (x26 + 1)) h_7
 else
 R (zi 0) h_6) : CallsH P Ze1 #[.agg #[zi x0_0, v0_1], v1] h R := zv ⟨[(4, [(14, .i .i64)]), (10, [(26, .i .i64)])], [], []⟩ Tryz.func67 hv
theorem Zlf {v0 : Value} {x1 : Int} (hv :
 vLen v0 fun n9 =>
 lq2 ((-1) : Int) (0 : Int) h fun J n x5 x10 h_2 =>
 bif decide (x10 < (n9 : Int)) then
 vIdx v0 x10 1 fun p12 =>
 ldI .i64 h_2 p12 fun x13 =>
 bif decide (x13 ≤ x5) then
 R (.bool false) h_2
 else
 bif decide (x13 ≥ x1) then
 R (.bool false) h_2
 else
 ag2 J n x13 (zw (x10 + 1)) h_2
 else
 zB ZX #[zi x1, zi 0, zi 32] h_2 fun b25 h_3 =>
 R (.bool b25) h_3) : CallsH P ZdG #[v0, zi x1] h R := zv ⟨[(3, [(5, .i .i64), (10, .i .i64)])], [], []⟩ Tryz.func81 hv
theorem Zlk {x0 : Int} {v1 : Value} (hv :
 zB ZdG #[v1, zi x0] h fun b13 h_2 =>
 bif !b13 then
 R (.tuple #[zi 0, zi 1]) h_2
 else
 vLen v1 fun n16 =>
 lq3 (0 : Int) (0 : Int) (0 : Int) h_2 fun J n x6 x7 x17 h_3 =>
 bif decide (x17 < (n16 : Int)) then
 vIdx v1 x17 1 fun p20 =>
 ldI .i64 h_3 p20 fun x21 =>
 lq2 x6 x7 h_3 fun J_2 n_3 x6_2 x10 h_4 =>
 bif decide (x10 < x21) then
 zI ZdM #[v1] h_4 fun x34 h_5 =>
 zI ZcW #[zi (zw ((zw (x0 - 1)) - x10)), zi (zw ((zw (x34 - 1)) - x17))] h_5 fun x38 h_6 =>
 ag2 J_2 n_3 (zw (x6_2 + x38)) (zw (x10 + 1)) h_6
 else
 ag3 J n x6_2 (zw (x21 + 1)) (zw (x17 + 1)) h_4
 else
 R (.tuple #[zi x6, zi 0]) h_3) : CallsH P Zga #[zi x0, v1] h R := zv ⟨[(5, [(6, .i .i64), (7, .i .i64), (17, .i .i64)]), (8, [(6, .i .i64), (10, .i .i64)])], [], []⟩ Tryz.func44 hv
theorem Zn7 {x0 : Int} {v1 : Value} (hv :
 zB ZdG #[v1, zi x0] h fun b12 h_2 =>
 bif !b12 then
 R (.tuple #[(.slice none 0 0), .bool false]) h_2
 else
 zI ZdM #[v1] h_2 fun x15 h_3 =>
 lq1 (zw (x15 - 1)) h_3 fun J n x7 h_4 =>
 bif decide (x7 ≥ 0) then
 vIdx v1 x7 1 fun p24 =>
 ldI .i64 h_4 p24 fun x25 =>
 bif x25 == (zw ((zw (x0 - x15)) + x7)) then
 ag1 J n (zw (x7 - 1)) h_4
 else
 zV Zb2 #[v1] h_4 fun v33 h_5 =>
 lq1 x7 h_5 fun J_2 n_3 x9 h_6 =>
 bif decide (x9 < x15) then
 vIdx v1 x7 1 fun p44 =>
 ldI .i64 h_6 p44 fun x45 =>
 vIdx v33 x9 1 fun p51 =>
 vStore1 h_6 p51 (zi (zw ((zw ((zw (x45 + 1)) + x9)) - x7))) fun h_7 =>
 ag1 J_2 n_3 (zw (x9 + 1)) h_7
 else
 R (.tuple #[v33, .bool true]) h_6
 else
 R (.tuple #[(.slice none 0 0), .bool false]) h_4) : CallsH P ZhH #[zi x0, v1] h R := zv ⟨[(5, [(7, .i .i64)]), (10, [(9, .i .i64)])], [], []⟩ Tryz.func84 hv
theorem ZmQ {x0 x1 : Int} (hv :
 zV ZeM #[zi x1] h fun v9 h_2 =>
 lq3 ((.slice none 0 0) : Value) v9 ((decide (x1 ≤ x0)) : Bool) h_2 fun J n v5 v6 b7 h_3 =>
 bif b7 then
 vOne v6 fun _ =>
 vNewS h_3 (.cells #[v6] Zi) 1 fun v16 h_4 =>
 vAppend 1 24 [.slice none 0 0] Zi v5 v16 h_4 fun v17 h_5 =>
 CallsH P ZhH #[zi x0, v6] h_5 fun r21 h_6 => ∃ (v21_0 : Value), ∃ (b21_1 : Bool), r21 = .tuple #[v21_0, .bool b21_1] ∧
 ag3 J n v17 v21_0 b21_1 h_6
 else
 R v5 h_3) : CallsH P ZeT #[zi x0, zi x1] h R := zv ⟨[(3, [(5, .v), (6, .v), (7, .b)])], [], []⟩ Tryz.func46 hv
theorem ZlQ {v0 v1 : Value} (hv :
 vLen v1 fun n9 =>
 lq2 ((.slice none 0 0) : Value) (0 : Int) h fun J n v5 x10 h_2 =>
 bif decide (x10 < (n9 : Int)) then
 vIdx v1 x10 1 fun p12 =>
 ldI .i64 h_2 p12 fun x13 =>
 vIdx v0 x13 1 fun p17 =>
 ldI .i64 h_2 p17 fun x18 =>
 vNewS h_2 (.cells #[zi x18] Zk) 1 fun v19 h_3 =>
 vAppend 1 8 [zi 0] Zk v5 v19 h_3 fun v20 h_4 =>
 ag2 J n v20 (zw (x10 + 1)) h_4
 else
 CallsH P Zgd #[v5] h_2 fun r23 h_5 => r23 = .tuple #[] ∧
 R v5 h_5) : CallsH P Zeu #[v0, v1] h R := zv ⟨[(3, [(5, .v), (10, .i .i64)])], [], []⟩ Tryz.func79 hv
theorem ZmE {v0 v1 : Value} (hv :
 vLen v0 fun n7 =>
 vLen v1 fun n9 =>
 bif (n7 : Int) != (n9 : Int) then
 R (.bool false) h
 else
 vLen v0 fun n12 =>
 lq1 (0 : Int) h fun J n x13 h_2 =>
 bif decide (x13 < (n12 : Int)) then
 vIdx v0 x13 1 fun p18 =>
 ldI .i64 h_2 p18 fun x19 =>
 vIdx v1 x13 1 fun p22 =>
 ldI .i64 h_2 p22 fun x23 =>
 bif x19 != x23 then
 R (.bool false) h_2
 else
 ag1 J n (zw (x13 + 1)) h_2
 else
 R (.bool true) h_2) : CallsH P Zfs #[v0, v1] h R := zv ⟨[(4, [(13, .i .i64)])], [], []⟩ Tryz.func91 hv
theorem ZmO {v0 : Value} {g1 : Nat} {cap1 : List Value} (hv :
 vLen v0 fun n9 =>
 bif decide ((n9 : Int) < 2) then
 R v0 h
 else
 lq1 (1 : Int) h fun J n x5 h_2 =>
 vLen v0 fun n14 =>
 bif decide (x5 < (n14 : Int)) then
 vIdx v0 x5 1 fun p21 =>
 ldV h_2 p21 fun v22 =>
 vIdx v0 (zw (x5 - 1)) 1 fun p26 =>
 ldV h_2 p26 fun v27 =>
 vOkf ctx g1 fun _ =>
 CallsH P g1 (([v22, v27] : List Value) ++ cap1).toArray h_2 fun r28 h_3 => ∃ (b28 : Bool), r28 = .bool b28 ∧
 bif b28 then
 vSliceS v0 1 (some (zi x5)) none none fun v31 =>
 lq2 x5 (1 : Int) h_3 fun J_2 n_3 x5_2 x7 h_4 =>
 vLen v31 fun n34 =>
 bif decide (x7 < (n34 : Int)) then
 vIdx v31 x7 1 fun p41 =>
 ldV h_4 p41 fun v42 =>
 vIdx v31 (zw (x7 - 1)) 1 fun p46 =>
 ldV h_4 p46 fun v47 =>
 vOkf ctx g1 fun _ =>
 CallsH P g1 (([v42, v47] : List Value) ++ cap1).toArray h_4 fun r48 h_5 => ∃ (b48 : Bool), r48 = .bool b48 ∧
 bif !b48 then
 vIdx v31 x7 1 fun p54 =>
 ldV h_5 p54 fun v55 =>
 vIdx v0 x5_2 1 fun p56 =>
 vStore1 h_5 p56 v55 fun h_6 =>
 ag2 J_2 n_3 (zw (x5_2 + 1)) (zw (x7 + 1)) h_6
 else
 ag2 J_2 n_3 x5_2 (zw (x7 + 1)) h_5
 else
 vSliceS v0 1 (some (zi x5_2)) none none fun v61 =>
 vClear [.slice none 0 0] v61 h_4 fun _ h_7 =>
 vSliceS v0 1 none (some (zi x5_2)) none fun v64 =>
 R v64 h_7
 else
 ag1 J n (zw (x5 + 1)) h_3
 else
 R v0 h_2) : CallsH P ZfG #[v0, .func (.func g1) #[] cap1.toArray] h R := zv ⟨[(4, [(5, .i .i64)]), (9, [(5, .i .i64), (7, .i .i64)])], [], []⟩ Tryz.func147 hv
theorem ZlW {x0_0 : Int} {v0_1 v1 : Value} (hv :
 vNew h (.cells #[zi x0_0, v0_1] ZM) fun p2 h_2 =>
 ldV h_2 (p2.add 1) fun v9 =>
 vLen v9 fun n10 =>
 lq2 ((.slice none 0 0) : Value) (0 : Int) h_2 fun J n v5 x11 h_3 =>
 bif decide (x11 < (n10 : Int)) then
 vIdx v9 x11 1 fun p13 =>
 ldV h_3 p13 fun v14 =>
 zV Zeu #[v14, v1] h_3 fun v18 h_4 =>
 vOne v18 fun _ =>
 vNewS h_4 (.cells #[v18] Zi) 1 fun v19 h_5 =>
 vAppend 1 24 [.slice none 0 0] Zi v5 v19 h_5 fun v20 h_6 =>
 ag2 J n v20 (zw (x11 + 1)) h_6
 else
 CallsH P Zez #[v5, .func (.func ZaG) #[] #[]] h_3 fun r23 h_7 => r23 = .tuple #[] ∧
 zV ZfG #[v5, .func (.func Zfs) #[] #[]] h_7 fun v25 h_8 =>
 R v25 h_8) : CallsH P Zh2 #[.agg #[zi x0_0, v0_1], v1] h R := zv ⟨[(3, [(5, .v), (11, .i .i64)])], [], []⟩ Tryz.func111 hv
theorem ZpP {x0_0 : Int} {v0_1 : Value} {x1 : Int} (hv :
 vNew h (.cells #[zi x0_0, v0_1] ZM) fun p2 h_2 =>
 ldI .i64 h_2 p2 fun x15 =>
 zI ZcW #[zi x15, zi x1] h_2 fun x17 h_3 =>
 vMake 1 [.bool false] ZjW x17 x17 h_3 fun v18 h_4 =>
 ldI .i64 h_4 p2 fun x20 =>
 zV ZeT #[zi x20, zi x1] h_4 fun v22 h_5 =>
 vLen v22 fun n23 =>
 lq2 ((.slice none 0 0) : Value) (0 : Int) h_5 fun J n v6 x24 h_6 =>
 bif decide (x24 < (n23 : Int)) then
 vIdx v22 x24 1 fun p27 =>
 ldV h_6 p27 fun v28 =>
 vIdx v18 x24 1 fun p31 =>
 ldB h_6 p31 fun b32 =>
 bif b32 then
 ag2 J n v6 (zw (x24 + 1)) h_6
 else
 ldI .i64 h_6 p2 fun x33_0 =>
 ldV h_6 (p2.add 1) fun v33_1 =>
 zV Zh2 #[.agg #[zi x33_0, v33_1], v28] h_6 fun v35 h_7 =>
 vLen v35 fun n37 =>
 lq1 (0 : Int) h_7 fun J_2 n_3 x38 h_8 =>
 bif decide (x38 < (n37 : Int)) then
 vIdx v35 x38 1 fun p40 =>
 ldV h_8 p40 fun v41 =>
 ldI .i64 h_8 p2 fun x44 =>
 CallsH P Zga #[zi x44, v41] h_8 fun r46 h_9 => ∃ x46_0, ∃ x46_1, r46 = .tuple #[zi x46_0, zi x46_1] ∧
 vIdx v18 x46_0 1 fun p51 =>
 vStore1 h_9 p51 (.bool true) fun h_10 =>
 ag1 J_2 n_3 (zw (x38 + 1)) h_10
 else
 vOne v35 fun _ =>
 vNewS h_8 (.cells #[v35] Zhi) 1 fun v55 h_11 =>
 vAppend 1 24 [.slice none 0 0] Zhi v6 v55 h_11 fun v56 h_12 =>
 ag2 J n v56 (zw (x24 + 1)) h_12
 else
 R v6 h_6) : CallsH P Zeq #[.agg #[zi x0_0, v0_1], zi x1] h R := zv ⟨[(4, [(6, .v), (24, .i .i64)]), (9, [(38, .i .i64)])], [], []⟩ Tryz.func68 hv
theorem ZnO {v0 : Value} {g1 : Nat} {cap1 : List Value} (hv :
 vLen v0 fun n7 =>
 lq1 (0 : Int) h fun J n x8 h_2 =>
 bif decide (x8 < (n7 : Int)) then
 vIdx v0 x8 1 fun p14 =>
 ldI .i64 h_2 p14 fun x15 =>
 vOkf ctx g1 fun _ =>
 CallsH P g1 (([zi x15] : List Value) ++ cap1).toArray h_2 fun r16 h_3 => ∃ (b16 : Bool), r16 = .bool b16 ∧
 bif b16 then
 R (zi x8) h_3
 else
 ag1 J n (zw (x8 + 1)) h_3
 else
 R (zi (-1)) h_2) : CallsH P Zhp #[v0, .func (.func g1) #[] cap1.toArray] h R := zv ⟨[(2, [(8, .i .i64)])], [], []⟩ Tryz.func133 hv
theorem Zpo {v0 : Value} {g1 : Nat} {cap1 : List Value} (hv :
 zI Zhp #[v0, .func (.func g1) #[] cap1.toArray] h fun x7 h_2 =>
 R (.bool (decide (x7 ≥ 0))) h_2) : CallsH P Zev #[v0, .func (.func g1) #[] cap1.toArray] h R := zv ⟨[], [], []⟩ Tryz.func92 hv
theorem Zm1 {v0 : Value} {x1 : Int} (hv :
 vLen v0 fun n7 =>
 lq1 (0 : Int) h fun J n x8 h_2 =>
 bif decide (x8 < (n7 : Int)) then
 vIdx v0 x8 1 fun p14 =>
 ldI .i64 h_2 p14 fun x15 =>
 bif x1 == x15 then
 R (zi x8) h_2
 else
 ag1 J n (zw (x8 + 1)) h_2
 else
 R (zi (-1)) h_2) : CallsH P ZgF #[v0, zi x1] h R := zv ⟨[(2, [(8, .i .i64)])], [], []⟩ Tryz.func148 hv
theorem Zqv {v0 : Value} {x1 : Int} (hv :
 zI ZgF #[v0, zi x1] h fun x7 h_2 =>
 R (.bool (decide (x7 ≥ 0))) h_2) : CallsH P ZgE #[v0, zi x1] h R := zv ⟨[], [], []⟩ Tryz.func113 hv
theorem Zqh {x0 : Int} {p1 : Addr} (hv :
 ldV h p1 fun v4 =>
 zB ZgE #[v4, zi x0] h fun b6 h_2 =>
 R (.bool (!b6)) h_2) : CallsH P ZgA #[zi x0, .pointer (some p1)] h R := zv ⟨[], [], []⟩ Tryz.func112 hv
theorem ZmB {v0 v1 : Value} (hv :
 vOne v0 fun _ =>
 vNew h (.cells #[v0] Zi) fun p2 h_2 =>
 zB Zev #[v1, .func (.func ZgA) #[] #[.pointer (some p2)]] h_2 fun b7 h_3 =>
 R (.bool (!b7)) h_3) : CallsH P ZeU #[v0, v1] h R := zv ⟨[], [], []⟩ Tryz.func69 hv
theorem Zqp {x0_0 : Int} {v0_1 : Value} {x1 x2 : Int} (hv :
 vNew h (.cells #[zi x0_0, v0_1] ZM) fun p3 h_2 =>
 ∃ J : Heap → Prop, (
 ldI .i64 h_2 p3 fun x20_0 =>
 ldV h_2 (p3.add 1) fun v20_1 =>
 zB ZbJ #[.agg #[zi x20_0, v20_1]] h_2 fun b21 h_3 =>
 bif !b21 then
 R (.tuple #[(.slice none 0 0), zi 1]) h_3
 else
 zB ZX #[zi x1, zi 0, zi x2] h_3 fun b26 h_4 =>
 bif !b26 then
 R (.tuple #[(.slice none 0 0), zi 2]) h_4
 else
 ldI .i64 h_4 p3 fun x31 =>
 bif decide (x2 > x31) then
 R (.tuple #[(.slice none 0 0), zi 2]) h_4
 else
 J h_4
 ) ∧ ∀ (_ : Env) (h_5 : Heap), J h_5 →
 ldI .i64 h_5 p3 fun x34_0 =>
 ldV h_5 (p3.add 1) fun v34_1 =>
 vNewS h_5 (.cells #[zi x1, zi x2] Zk) 2 fun v37 h_6 =>
 zI Ze1 #[.agg #[zi x34_0, v34_1], v37] h_6 fun x38 h_7 =>
 bif x38 != 0 then
 R (.tuple #[(.slice none 0 0), zi x38]) h_7
 else
 ldI .i64 h_7 p3 fun x42_0 =>
 ldV h_7 (p3.add 1) fun v42_1 =>
 zV Zeq #[.agg #[zi x42_0, v42_1], zi x2] h_7 fun v44 h_8 =>
 ldI .i64 h_8 p3 fun x45_0 =>
 ldV h_8 (p3.add 1) fun v45_1 =>
 zV Zeq #[.agg #[zi x45_0, v45_1], zi x1] h_8 fun v47 h_9 =>
 vLen v47 fun n48 =>
 lq2 ((.slice none 0 0) : Value) (0 : Int) h_9 fun J_2 n v10 x49 h_10 =>
 bif decide (x49 < (n48 : Int)) then
 vIdx v47 x49 1 fun p51 =>
 ldV h_10 p51 fun v52 =>
 vLen v44 fun n54 =>
 lq2 ((.slice none 0 0) : Value) (0 : Int) h_10 fun J_3 n_3 v13 x55 h_11 =>
 bif decide (x55 < (n54 : Int)) then
 vIdx v44 x55 1 fun p57 =>
 ldV h_11 p57 fun v58 =>
 vLen v58 fun n60 =>
 lq2 (0 : Int) (0 : Int) h_11 fun J_4 n_5 x16 x61 h_12 =>
 bif decide (x61 < (n60 : Int)) then
 vIdx v58 x61 1 fun p63 =>
 ldV h_12 p63 fun v64 =>
 vIdx v52 0 1 fun p67 =>
 ldV h_12 p67 fun v68 =>
 zB ZeU #[v64, v68] h_12 fun b69 h_13 =>
 bif b69 then
 ag2 J_4 n_5 (zw (x16 + 1)) (zw (x61 + 1)) h_13
 else
 ag2 J_4 n_5 x16 (zw (x61 + 1)) h_13
 else
 vNewS h_12 (.cells #[zi x16] Zk) 1 fun v75 h_14 =>
 vAppend 1 8 [zi 0] Zk v13 v75 h_14 fun v76 h_15 =>
 ag2 J_3 n_3 v76 (zw (x55 + 1)) h_15
 else
 vOne v13 fun _ =>
 vNewS h_11 (.cells #[v13] Zi) 1 fun v80 h_16 =>
 vAppend 1 24 [.slice none 0 0] Zi v10 v80 h_16 fun v81 h_17 =>
 ag2 J_2 n v81 (zw (x49 + 1)) h_17
 else
 R (.tuple #[v10, zi 0]) h_10) : CallsH P Zh1 #[.agg #[zi x0_0, v0_1], zi x1, zi x2] h R := zv ⟨[(11, [(10, .v), (49, .i .i64)]), (15, [(13, .v), (55, .i .i64)]), (19, [(16, .i .i64), (61, .i .i64)])], [(5, [])], []⟩ Tryz.func32 hv
theorem ZlA {v0 : Value} (hv :
 vLen v0 fun n4 =>
 R (zi (n4 : Int)) h) : CallsH P Zf4 #[v0] h R := zv ⟨[], [], []⟩ Tryz.func48 hv
theorem ZmP {x0 : Int} {p1 : Addr} (hv :
 ldI .i64 h p1 fun x5 =>
 zB ZX #[zi x0, zi 0, zi (zw (x5 - 1))] h fun b7 h_2 =>
 R (.bool (!b7)) h_2) : CallsH P ZfR #[zi x0, .pointer (some p1)] h R := zv ⟨[], [], []⟩ Tryz.func149 hv
theorem ZlV {x0 : Int} {v1 : Value} (hv :
 vNew h (.cells #[zi x0] Zk) fun p2 h_2 =>
 zB Zev #[v1, .func (.func ZfR) #[] #[.pointer (some p2)]] h_2 fun b7 h_3 =>
 R (.bool (!b7)) h_3) : CallsH P ZfO #[zi x0, v1] h R := zv ⟨[], [], []⟩ Tryz.func115 hv
theorem ZmX {v0 : Value} {p1 : Addr} (hv :
 vLen v0 fun n5 =>
 ldV h p1 fun v6 =>
 vIdx v6 0 1 fun p7 =>
 ldV h p7 fun v8 =>
 vLen v8 fun n9 =>
 bif (n5 : Int) != (n9 : Int) then
 R (.bool true) h
 else
 zB ZfO #[zi 2001, v0] h fun b13 h_2 =>
 R (.bool (!b13)) h_2) : CallsH P Zf6 #[v0, .pointer (some p1)] h R := zv ⟨[], [], []⟩ Tryz.func114 hv
theorem Zmz {v0 : Value} (hv :
 vOne v0 fun _ =>
 vNew h (.cells #[v0] Zhi) fun p1 h_2 =>
 ∃ J : Heap → Prop, (
 ldV h_2 p1 fun v3 =>
 zI Zf4 #[v3] h_2 fun x4 h_3 =>
 zB ZX #[zi x4, zi 1, zi 2000] h_3 fun b5 h_4 =>
 bif !b5 then
 R (.bool false) h_4
 else
 ldV h_4 p1 fun v8 =>
 vIdx v8 0 1 fun p9 =>
 ldV h_4 p9 fun v10 =>
 vLen v10 fun n11 =>
 bif decide ((n11 : Int) > 2000) then
 R (.bool false) h_4
 else
 J h_4
 ) ∧ ∀ (_ : Env) (h_5 : Heap), J h_5 →
 ldV h_5 p1 fun v14 =>
 zB ZbX #[v14, .func (.func Zf6) #[] #[.pointer (some p1)]] h_5 fun b16 h_6 =>
 R (.bool (!b16)) h_6) : CallsH P Zhk #[v0] h R := zv ⟨[], [(3, [])], []⟩ Tryz.func70 hv
theorem ZqF {x0 : Int} (hv :
 zB ZX #[zi x0, zi 1, zi 2000] h fun b4 h_2 =>
 R (.bool b4) h_2) : CallsH P Zgq #[zi x0] h R := zv ⟨[], [], []⟩ Tryz.func71 hv
theorem Zln {p0 : Addr} {v1 : Value} {x2 x3 : Int} (hv :
 ldV h (p0.add 2) fun v13 =>
 vLen v13 fun n14 =>
 lq1 (0 : Int) h fun J n x15 h_2 =>
 bif decide (x15 < (n14 : Int)) then
 vIdx v13 x15 1 fun p18 =>
 ldV h_2 p18 fun v19 =>
 vIdx v1 x15 1 fun p22 =>
 ldI .i64 h_2 p22 fun x23 =>
 vIdx v19 x2 1 fun p27 =>
 ldI .i64 h_2 p27 fun x28 =>
 vIdx v1 x15 1 fun p31 =>
 vStore1 h_2 p31 (zi (zw (x23 + (zw (x3 * x28))))) fun h_3 =>
 ag1 J n (zw (x15 + 1)) h_3
 else
 R (.tuple #[]) h_2) : CallsH P Zbf #[.pointer (some p0), v1, zi x2, zi x3] h R := zv ⟨[(1, [(15, .i .i64)])], [], []⟩ Tryz.func116 hv
theorem Zp4 {p0 : Addr} (hv :
 ldI .i64 h p0 fun x6 =>
 bif x6 == 0 then
 vStore1 h (p0.add 1) (.bool true) fun h_2 =>
 R (.bool false) h_2
 else
 ldI .i64 h p0 fun x14 =>
 vStore1 h p0 (zi (zw (x14 - 1))) fun h_3 =>
 R (.bool true) h_3) : CallsH P ZhA #[.pointer (some p0)] h R := zv ⟨[], [], []⟩ Tryz.func128 hv
theorem Zqf {p0 : Addr} (hv :
 ldV h (p0.add 5) fun v8 =>
 vLen v8 fun n9 =>
 lq1 (0 : Int) h fun J n x10 h_2 =>
 bif decide (x10 < (n9 : Int)) then
 vIdx v8 x10 1 fun p13 =>
 ldI .i64 h_2 p13 fun x14 =>
 ldI .i64 h_2 (p0.add 3) fun x19 =>
 bif decide (x14 > x19) then
 R (.bool false) h_2
 else
 ldV h_2 (p0.add 6) fun v26 =>
 vIdx v26 x10 1 fun p28 =>
 ldI .i64 h_2 p28 fun x29 =>
 ldI .i64 h_2 (p0.add 3) fun x34 =>
 bif decide ((zw (x14 + x29) : Int) < x34) then
 R (.bool false) h_2
 else
 ag1 J n (zw (x10 + 1)) h_2
 else
 R (.bool true) h_2) : CallsH P ZeX #[.pointer (some p0)] h R := zv ⟨[(2, [(10, .i .i64)])], [], []⟩ Tryz.func150 hv
theorem Zni {p0 : Addr} {x1 : Int} (hv :
 ldV h (p0.add 2) fun v10 =>
 vIdx v10 0 1 fun p11 =>
 ldV h p11 fun v12 =>
 vLen v12 fun n13 =>
 bif x1 == (n13 : Int) then
 zB ZeX #[.pointer (some p0)] h fun b16 h_2 =>
 bif b16 then
 ∃ J : Heap → Prop, (
 ldI .i64 h_2 (p0.add 8) fun x20 =>
 bif x20 == 0 then
 ldV h_2 (p0.add 7) fun v26 =>
 zV Zb2 #[v26] h_2 fun v27 h_3 =>
 vStore1 h_3 (p0.add 9) v27 fun h_4 =>
 J h_4
 else
 J h_2
 ) ∧ ∀ (_ : Env) (h_5 : Heap), J h_5 →
 ldI .i64 h_5 (p0.add 8) fun x33 =>
 vStore1 h_5 (p0.add 8) (zi (zw (x33 + 1))) fun h_6 =>
 R (.tuple #[]) h_6
 else
 R (.tuple #[]) h_2
 else
 ldV h (p0.add 6) fun v41 =>
 CallsH P Zbf #[.pointer (some p0), v41, zi x1, zi (-1)] h fun r43 h_7 => r43 = .tuple #[] ∧
 vNewS h_7 (.cells #[.bool true, .bool false] ZjW) 2 fun v44 h_8 =>
 vLen v44 fun n45 =>
 lq1 (0 : Int) h_8 fun J_2 n x46 h_9 =>
 bif decide (x46 < (n45 : Int)) then
 vIdx v44 x46 1 fun p48 =>
 ldB h_9 p48 fun b49 =>
 ∃ J_3 : Heap → Prop, (
 bif b49 then
 ldV h_9 (p0.add 5) fun v55 =>
 CallsH P Zbf #[.pointer (some p0), v55, zi x1, zi 1] h_9 fun r57 h_10 => r57 = .tuple #[] ∧
 ldV h_10 (p0.add 7) fun v62 =>
 vNewS h_10 (.cells #[zi x1] Zk) 1 fun v64 h_11 =>
 vAppend 1 8 [zi 0] Zk v62 v64 h_11 fun v65 h_12 =>
 vStore1 h_12 (p0.add 7) v65 fun h_13 =>
 J_3 h_13
 else
 J_3 h_9
 ) ∧ ∀ (_ : Env) (h_14 : Heap), J_3 h_14 →
 ∃ J_4 : Heap → Prop, (
 zB ZeX #[.pointer (some p0)] h_14 fun b69 h_15 =>
 bif b69 then
 ldI .i64 h_15 (p0.add 8) fun x74 =>
 ldI .i64 h_15 (p0.add 4) fun x78 =>
 bif decide (x74 < x78) then
 ldB h_15 (p0.add 1) fun b86 =>
 bif !b86 then
 zB ZhA #[.pointer (some p0)] h_15 fun b93 h_16 =>
 bif b93 then
 CallsH P Za2 #[.pointer (some p0), zi (zw (x1 + 1))] h_16 fun r98 h_17 => r98 = .tuple #[] ∧
 J_4 h_17
 else
 J_4 h_16
 else
 J_4 h_15
 else
 J_4 h_15
 else
 J_4 h_15
 ) ∧ ∀ (_ : Env) (h_18 : Heap), J_4 h_18 →
 bif b49 then
 ldV h_18 (p0.add 5) fun v104 =>
 CallsH P Zbf #[.pointer (some p0), v104, zi x1, zi (-1)] h_18 fun r106 h_19 => r106 = .tuple #[] ∧
 ldV h_19 (p0.add 7) fun v111 =>
 ldV h_19 (p0.add 7) fun v115 =>
 vLen v115 fun n116 =>
 vSliceS v111 1 none (some (zi (zw ((n116 : Int) - 1)))) none fun v118 =>
 vStore1 h_19 (p0.add 7) v118 fun h_20 =>
 ag1 J_2 n (zw (x46 + 1)) h_20
 else
 ag1 J_2 n (zw (x46 + 1)) h_18
 else
 ldV h_9 (p0.add 6) fun v126 =>
 CallsH P Zbf #[.pointer (some p0), v126, zi x1, zi 1] h_9 fun r128 h_21 => r128 = .tuple #[] ∧
 R (.tuple #[]) h_21) : CallsH P Za2 #[.pointer (some p0), zi x1] h R := zv ⟨[(7, [(46, .i .i64)])], [(4, []), (12, []), (14, [])], []⟩ Tryz.func117 hv
theorem ZpB {v0 : Value} {x1 x2 x3 : Int} (hv :
 (
 vLen v0 fun n17 =>
 vMake 8 [zi 0] Zk (n17 : Int) (n17 : Int) h fun v18 h_2 =>
 vLen v0 fun n20 =>
 vMake 8 [zi 0] Zk (n20 : Int) (n20 : Int) h_2 fun v21 h_3 =>
 vOne v0 fun _ =>
 vOne v18 fun _ =>
 vOne v21 fun _ =>
 vNew h_3 (.cells #[zi x3, .bool false, v0, zi x1, zi x2, v18, v21, (.slice none 0 0), zi 0, (.slice none 0 0)] ZjH) fun p23 h_4 =>
 vIdx v0 0 1 fun p25 =>
 ldV h_4 p25 fun v26 =>
 vLen v26 fun n27 =>
 lq1 (0 : Int) h_4 fun J n x28 h_5 =>
 bif decide (x28 < (n27 : Int)) then
 ldV h_5 (p23.add 6) fun v35 =>
 CallsH P Zbf #[.pointer (some p23), v35, zi x28, zi 1] h_5 fun r37 h_6 => r37 = .tuple #[] ∧
 ag1 J n (zw (x28 + 1)) h_6
 else
 CallsH P Za2 #[.pointer (some p23), zi 0] h_5 fun r40 h_7 => r40 = .tuple #[] ∧
 R (.pointer (some p23)) h_7
 ) ∧
 (
 vLen v0 fun n20_2 =>
 vMake 8 [zi 0] Zk (n20_2 : Int) (n20_2 : Int) h fun v21_2 h_8 =>
 vLen v0 fun n17_2 =>
 vMake 8 [zi 0] Zk (n17_2 : Int) (n17_2 : Int) h_8 fun v18_2 h_9 =>
 vOne v0 fun _ =>
 vOne v18_2 fun _ =>
 vOne v21_2 fun _ =>
 vNew h_9 (.cells #[zi x3, .bool false, v0, zi x1, zi x2, v18_2, v21_2, (.slice none 0 0), zi 0, (.slice none 0 0)] ZjH) fun p23_2 h_10 =>
 vIdx v0 0 1 fun p25_2 =>
 ldV h_10 p25_2 fun v26_2 =>
 vLen v26_2 fun n27_2 =>
 lq1 (0 : Int) h_10 fun J_2 n_3 x28_2 h_11 =>
 bif decide (x28_2 < (n27_2 : Int)) then
 ldV h_11 (p23_2.add 6) fun v35_2 =>
 CallsH P Zbf #[.pointer (some p23_2), v35_2, zi x28_2, zi 1] h_11 fun r37_2 h_12 => r37_2 = .tuple #[] ∧
 ag1 J_2 n_3 (zw (x28_2 + 1)) h_12
 else
 CallsH P Za2 #[.pointer (some p23_2), zi 0] h_11 fun r40_2 h_13 => r40_2 = .tuple #[] ∧
 R (.pointer (some p23_2)) h_13
 )) : CallsH P ZhC #[v0, zi x1, zi x2, zi x3] h R := zv ⟨[(3, [(28, .i .i64)])], [], []⟩ Tryz.func72 hv
theorem ZmG {v0 : Value} {x1 x2 : Int} (hv :
 zB Zhk #[v0] h fun b10 h_2 =>
 bif !b10 then
 R (.tuple #[(.slice none 0 0), zi 1]) h_2
 else
 ∃ J : Heap → Prop, (
 zB Zfm #[zi x2] h_2 fun b13 h_3 =>
 bif !b13 then
 R (.tuple #[(.slice none 0 0), zi 2]) h_3
 else
 zB Zgq #[zi x1] h_3 fun b17 h_4 =>
 bif !b17 then
 R (.tuple #[(.slice none 0 0), zi 2]) h_4
 else
 J h_4
 ) ∧ ∀ (_ : Env) (h_5 : Heap), J h_5 →
 CallsH P ZhC #[v0, zi x1, zi 1, zi x2] h_5 fun r23 h_6 => ∃ (p23 : Addr), r23 = .pointer (some p23) ∧
 ldB h_6 (p23.add 1) fun b33 =>
 bif b33 then
 R (.tuple #[(.slice none 0 0), zi 5]) h_6
 else
 ldI .i64 h_6 (p23.add 8) fun x38 =>
 bif x38 == 0 then
 R (.tuple #[(.slice none 0 0), zi 3]) h_6
 else
 ldV h_6 (p23.add 9) fun v27 =>
 R (.tuple #[v27, zi 0]) h_6) : CallsH P ZhE #[v0, zi x1, zi x2] h R := zv ⟨[], [(5, [])], []⟩ Tryz.func33 hv
theorem Znj {v0 : Value} (hv :
 vLen v0 fun n7 =>
 lq2 ((.slice none 0 0) : Value) (0 : Int) h fun J n v3 x8 h_2 =>
 bif decide (x8 < (n7 : Int)) then
 vIdx v0 x8 1 fun p10 =>
 ldV h_2 p10 fun v11 =>
 zV Zb2 #[v11] h_2 fun v14 h_3 =>
 vOne v14 fun _ =>
 vNewS h_3 (.cells #[v14] Zi) 1 fun v15 h_4 =>
 vAppend 1 24 [.slice none 0 0] Zi v3 v15 h_4 fun v16 h_5 =>
 ag2 J n v16 (zw (x8 + 1)) h_5
 else
 R v3 h_2) : CallsH P Zgc #[v0] h R := zv ⟨[(3, [(3, .v), (8, .i .i64)])], [], []⟩ Tryz.func86 hv
theorem Znt {x0 : Int} {v1 : Value} (hv :
 vNew h (.cells #[zi 0, .slice none 0 0] ZZ) fun p4 h_2 =>
 vLen v1 fun n8 =>
 bif decide ((n8 : Int) > 128) then
 vStore1 h_2 p4 (zi 0) fun h_3 =>
 vStore1 h_3 (p4.add 1) (.slice none 0 0) fun h_4 =>
 ldI .i64 h_4 p4 fun xres0_0 =>
 ldV h_4 (p4.add 1) fun vres0_1 =>
 R (.tuple #[.agg #[zi xres0_0, vres0_1], zi 5]) h_4
 else
 zV Zgc #[v1] h_2 fun v13 h_5 =>
 vOne v13 fun _ =>
 vNew h_5 (.cells #[zi 0, .slice none 0 0] ZZ) fun p6 h_6 =>
 vStore1 h_6 p6 (zi x0) fun h_7 =>
 vStore1 h_7 (p6.add 1) v13 fun h_8 =>
 ldV h_8 (p6.add 1) fun v16 =>
 CallsH P Zez #[v16, .func (.func ZaG) #[] #[]] h_8 fun r17 h_9 => r17 = .tuple #[] ∧
 ldI .i64 h_9 p6 fun x18_0 =>
 ldV h_9 (p6.add 1) fun v18_1 =>
 vStore1 h_9 p4 (zi x18_0) fun h_10 =>
 vStore1 h_10 (p4.add 1) v18_1 fun h_11 =>
 ldI .i64 h_11 p4 fun xres0_0_2 =>
 ldV h_11 (p4.add 1) fun vres0_1_2 =>
 R (.tuple #[.agg #[zi xres0_0_2, vres0_1_2], zi 0]) h_11) : CallsH P Zfz #[zi x0, v1] h R := zv ⟨[], [], []⟩ Tryz.func59 hv
theorem Zl8 {v0 : Value} {x1 : Int} (hv :
 vLen v0 fun n9 =>
 lq2 ((-1) : Int) (0 : Int) h fun J n x5 x10 h_2 =>
 bif decide (x10 < (n9 : Int)) then
 vIdx v0 x10 1 fun p12 =>
 ldI .i64 h_2 p12 fun x13 =>
 zB ZX #[zi x13, zi (zw (x5 + 1)), zi (zw (x1 - 1))] h_2 fun b19 h_3 =>
 bif !b19 then
 R (.bool false) h_3
 else
 ag2 J n x13 (zw (x10 + 1)) h_3
 else
 R (.bool true) h_2) : CallsH P ZhK #[v0, zi x1] h R := zv ⟨[(3, [(5, .i .i64), (10, .i .i64)])], [], []⟩ Tryz.func73 hv
theorem ZnP {v0 : Value} (hv :
 vLen v0 fun n4 =>
 R (zi (n4 : Int)) h) : CallsH P ZhR #[v0] h R := zv ⟨[], [], []⟩ Tryz.func74 hv
theorem Zk5 {x0_0 : Int} {v0_1 : Value} {x1 : Int} {v2 : Value} (hv :
 vNew h (.cells #[zi x0_0, v0_1] ZM) fun p3 h_2 =>
 vNew h_2 (.cells #[zi 0, .slice none 0 0] ZZ) fun p6 h_3 =>
 ldI .i64 h_3 p3 fun x14_0 =>
 ldV h_3 (p3.add 1) fun v14_1 =>
 zB ZbJ #[.agg #[zi x14_0, v14_1]] h_3 fun b15 h_4 =>
 bif !b15 then
 vStore1 h_4 p6 (zi 0) fun h_5 =>
 vStore1 h_5 (p6.add 1) (.slice none 0 0) fun h_6 =>
 ldI .i64 h_6 p6 fun xres0_0 =>
 ldV h_6 (p6.add 1) fun vres0_1 =>
 R (.tuple #[.agg #[zi xres0_0, vres0_1], zi 1]) h_6
 else
 bif x1 == 0 then
 vStore1 h_4 p6 (zi 0) fun h_7 =>
 vStore1 h_7 (p6.add 1) (.slice none 0 0) fun h_8 =>
 ldI .i64 h_8 p6 fun xres0_0_2 =>
 ldV h_8 (p6.add 1) fun vres0_1_2 =>
 R (.tuple #[.agg #[zi xres0_0_2, vres0_1_2], zi 2]) h_8
 else
 ldI .i64 h_4 p3 fun x22_0 =>
 ldV h_4 (p3.add 1) fun v22_1 =>
 vNewS h_4 (.cells #[zi x1] Zk) 1 fun v24 h_9 =>
 zI Ze1 #[.agg #[zi x22_0, v22_1], v24] h_9 fun x25 h_10 =>
 bif x25 != 0 then
 vStore1 h_10 p6 (zi 0) fun h_11 =>
 vStore1 h_11 (p6.add 1) (.slice none 0 0) fun h_12 =>
 ldI .i64 h_12 p6 fun xres0_0_3 =>
 ldV h_12 (p6.add 1) fun vres0_1_3 =>
 R (.tuple #[.agg #[zi xres0_0_3, vres0_1_3], zi x25]) h_12
 else
 ldI .i64 h_10 p3 fun x30_0 =>
 ldV h_10 (p3.add 1) fun v30_1 =>
 zV Zeq #[.agg #[zi x30_0, v30_1], zi x1] h_10 fun v32 h_13 =>
 zI ZhR #[v32] h_13 fun x35 h_14 =>
 zB ZhK #[v2, zi x35] h_14 fun b36 h_15 =>
 bif !b36 then
 vStore1 h_15 p6 (zi 0) fun h_16 =>
 vStore1 h_16 (p6.add 1) (.slice none 0 0) fun h_17 =>
 ldI .i64 h_17 p6 fun xres0_0_4 =>
 ldV h_17 (p6.add 1) fun vres0_1_4 =>
 R (.tuple #[.agg #[zi xres0_0_4, vres0_1_4], zi 2]) h_17
 else
 vLen v2 fun n40 =>
 lq2 ((.slice none 0 0) : Value) (0 : Int) h_15 fun J n v10 x41 h_18 =>
 bif decide (x41 < (n40 : Int)) then
 vIdx v2 x41 1 fun p43 =>
 ldI .i64 h_18 p43 fun x44 =>
 vIdx v32 x44 1 fun p48 =>
 ldV h_18 p48 fun v49 =>
 vAppend 1 24 [.slice none 0 0] Zi v10 v49 h_18 fun v50 h_19 =>
 ag2 J n v50 (zw (x41 + 1)) h_19
 else
 ldI .i64 h_18 p3 fun x53 =>
 CallsH P Zfz #[zi x53, v10] h_18 fun r55 h_20 => ∃ x55_0_0, ∃ (v55_0_1 : Value), ∃ x55_1, r55 = .tuple #[.agg #[zi x55_0_0, v55_0_1], zi x55_1] ∧
 vStore1 h_20 p6 (zi x55_0_0) fun h_21 =>
 vStore1 h_21 (p6.add 1) v55_0_1 fun h_22 =>
 ldI .i64 h_22 p6 fun xres0_0_5 =>
 ldV h_22 (p6.add 1) fun vres0_1_5 =>
 R (.tuple #[.agg #[zi xres0_0_5, vres0_1_5], zi x55_1]) h_22) : CallsH P Zgs #[.agg #[zi x0_0, v0_1], zi x1, v2] h R := zv ⟨[(13, [(10, .v), (41, .i .i64)])], [], []⟩ Tryz.func34 hv
theorem Zmy {x0_0 : Int} {v0_1 : Value} {x1 x2 x3 x4 : Int} (hv :
 vNew h (.cells #[zi x0_0, v0_1] ZM) fun p5 h_2 =>
 vNew h_2 (.cells #[zi 0, .slice none 0 0] ZZ) fun p10 h_3 =>
 ldI .i64 h_3 p5 fun x15_0 =>
 ldV h_3 (p5.add 1) fun v15_1 =>
 zB ZbJ #[.agg #[zi x15_0, v15_1]] h_3 fun b16 h_4 =>
 bif !b16 then
 vStore1 h_4 p10 (zi 0) fun h_5 =>
 vStore1 h_5 (p10.add 1) (.slice none 0 0) fun h_6 =>
 ldI .i64 h_6 p10 fun xres0_0 =>
 ldV h_6 (p10.add 1) fun vres0_1 =>
 R (.tuple #[.agg #[zi xres0_0, vres0_1], zi 1]) h_6
 else
 zB Zfm #[zi x4] h_4 fun b20 h_7 =>
 bif !b20 then
 vStore1 h_7 p10 (zi 0) fun h_8 =>
 vStore1 h_8 (p10.add 1) (.slice none 0 0) fun h_9 =>
 ldI .i64 h_9 p10 fun xres0_0_2 =>
 ldV h_9 (p10.add 1) fun vres0_1_2 =>
 R (.tuple #[.agg #[zi xres0_0_2, vres0_1_2], zi 2]) h_9
 else
 ldI .i64 h_7 p5 fun x24_0 =>
 ldV h_7 (p5.add 1) fun v24_1 =>
 CallsH P Zh1 #[.agg #[zi x24_0, v24_1], zi x1, zi x2] h_7 fun r27 h_10 => ∃ (v27_0 : Value), ∃ x27_1, r27 = .tuple #[v27_0, zi x27_1] ∧
 bif x27_1 != 0 then
 vStore1 h_10 p10 (zi 0) fun h_11 =>
 vStore1 h_11 (p10.add 1) (.slice none 0 0) fun h_12 =>
 ldI .i64 h_12 p10 fun xres0_0_3 =>
 ldV h_12 (p10.add 1) fun vres0_1_3 =>
 R (.tuple #[.agg #[zi xres0_0_3, vres0_1_3], zi x27_1]) h_12
 else
 bif x2 == 0 then
 vStore1 h_10 p10 (zi 0) fun h_13 =>
 vStore1 h_13 (p10.add 1) (.slice none 0 0) fun h_14 =>
 ldI .i64 h_14 p10 fun xres0_0_4 =>
 ldV h_14 (p10.add 1) fun vres0_1_4 =>
 R (.tuple #[.agg #[zi xres0_0_4, vres0_1_4], zi 2]) h_14
 else
 CallsH P ZhE #[v27_0, zi x3, zi x4] h_10 fun r41 h_15 => ∃ (v41_0 : Value), ∃ x41_1, r41 = .tuple #[v41_0, zi x41_1] ∧
 bif x41_1 != 0 then
 vStore1 h_15 p10 (zi 0) fun h_16 =>
 vStore1 h_16 (p10.add 1) (.slice none 0 0) fun h_17 =>
 ldI .i64 h_17 p10 fun xres0_0_5 =>
 ldV h_17 (p10.add 1) fun vres0_1_5 =>
 R (.tuple #[.agg #[zi xres0_0_5, vres0_1_5], zi x41_1]) h_17
 else
 ldI .i64 h_15 p5 fun x48_0 =>
 ldV h_15 (p5.add 1) fun v48_1 =>
 CallsH P Zgs #[.agg #[zi x48_0, v48_1], zi x2, v41_0] h_15 fun r51 h_18 => ∃ x51_0_0, ∃ (v51_0_1 : Value), ∃ x51_1, r51 = .tuple #[.agg #[zi x51_0_0, v51_0_1], zi x51_1] ∧
 vStore1 h_18 p10 (zi x51_0_0) fun h_19 =>
 vStore1 h_19 (p10.add 1) v51_0_1 fun h_20 =>
 ldI .i64 h_20 p10 fun xres0_0_6 =>
 ldV h_20 (p10.add 1) fun vres0_1_6 =>
 R (.tuple #[.agg #[zi xres0_0_6, vres0_1_6], zi x51_1]) h_20) : CallsH P Zg4 #[.agg #[zi x0_0, v0_1], zi x1, zi x2, zi x3, zi x4] h R := zv ⟨[], [], []⟩ Tryz.func7 hv
theorem Zm2 {v0 : Value} {x1 : Int} (hv :
 vLen v0 fun n6 =>
 bif decide ((n6 : Int) > 0) then
 zB ZdG #[v0, zi x1] h fun b11 h_2 =>
 R (.bool b11) h_2
 else
 R (.bool false) h) : CallsH P Zgm #[v0, zi x1] h R := zv ⟨[], [], []⟩ Tryz.func119 hv
theorem Zqs {v0 : Value} {p1 : Addr} (hv :
 ldI .i64 h p1 fun x5 =>
 zB Zgm #[v0, zi x5] h fun b6 h_2 =>
 R (.bool (!b6)) h_2) : CallsH P Zhn #[v0, .pointer (some p1)] h R := zv ⟨[], [], []⟩ Tryz.func118 hv
theorem Zl1 {v0 : Value} {x1 : Int} (hv :
 vNew h (.cells #[zi x1] Zk) fun p3 h_2 =>
 ldI .i64 h_2 p3 fun x5 =>
 zB ZX #[zi x5, zi 1, zi 32] h_2 fun b6 h_3 =>
 bif b6 then
 zB ZbX #[v0, .func (.func Zhn) #[] #[.pointer (some p3)]] h_3 fun b10 h_4 =>
 R (.bool (!b10)) h_4
 else
 R (.bool false) h_3) : CallsH P Zhj #[v0, zi x1] h R := zv ⟨[], [], []⟩ Tryz.func75 hv
theorem Zpw {v0 : Value} {g1 : Nat} {cap1 : List Value} (hv :
 vLen v0 fun n7 =>
 lq1 (zw ((n7 : Int) - 1)) h fun J n x5 h_2 =>
 bif decide (x5 > 0) then
 vIdx v0 x5 1 fun p16 =>
 ldV h_2 p16 fun v17 =>
 vIdx v0 (zw (x5 - 1)) 1 fun p21 =>
 ldV h_2 p21 fun v22 =>
 vOkf ctx g1 fun _ =>
 CallsH P g1 (([v17, v22] : List Value) ++ cap1).toArray h_2 fun r23 h_3 => ∃ x23, r23 = zi x23 ∧
 bif decide (x23 < 0) then
 R (.bool false) h_3
 else
 ag1 J n (zw (x5 - 1)) h_3
 else
 R (.bool true) h_2) : CallsH P Zgh #[v0, .func (.func g1) #[] cap1.toArray] h R := zv ⟨[(2, [(5, .i .i64)])], [], []⟩ Tryz.func76 hv
theorem ZnC {x0_0 : Int} {v0_1 : Value} (hv :
 vNew h (.cells #[zi x0_0, v0_1] ZZ) fun p1 h_2 =>
 ldV h_2 (p1.add 1) fun v4 =>
 ldI .i64 h_2 p1 fun x6 =>
 zB Zhj #[v4, zi x6] h_2 fun b7 h_3 =>
 bif b7 then
 ldV h_3 (p1.add 1) fun v10 =>
 vLen v10 fun n11 =>
 bif decide ((n11 : Int) ≤ 128) then
 ldV h_3 (p1.add 1) fun v16 =>
 zB Zgh #[v16, .func (.func ZaG) #[] #[]] h_3 fun b17 h_4 =>
 R (.bool b17) h_4
 else
 R (.bool false) h_3
 else
 R (.bool false) h_3) : CallsH P Ze4 #[.agg #[zi x0_0, v0_1]] h R := zv ⟨[], [], []⟩ Tryz.func35 hv
theorem ZpG {x0_0 : Int} {v0_1 : Value} {x1 : Int} (hv :
 vNew h (.cells #[zi x0_0, v0_1] ZZ) fun p2 h_2 =>
 ldI .i64 h_2 p2 fun x12 =>
 zV ZeT #[zi x12, zi x1] h_2 fun v14 h_3 =>
 vLen v14 fun n15 =>
 lq2 ((-1) : Int) (0 : Int) h_3 fun J n x5 x16 h_4 =>
 bif decide (x16 < (n15 : Int)) then
 vIdx v14 x16 1 fun p18 =>
 ldV h_4 p18 fun v19 =>
 ldV h_4 (p2.add 1) fun v21 =>
 vLen v21 fun n22 =>
 lq2 (0 : Int) (0 : Int) h_4 fun J_2 n_3 x8 x23 h_5 =>
 bif decide (x23 < (n22 : Int)) then
 vIdx v21 x23 1 fun p25 =>
 ldV h_5 p25 fun v26 =>
 zB ZeU #[v26, v19] h_5 fun b29 h_6 =>
 bif b29 then
 ag2 J_2 n_3 (zw (x8 + 1)) (zw (x23 + 1)) h_6
 else
 ag2 J_2 n_3 x8 (zw (x23 + 1)) h_6
 else
 bif decide (x5 ≥ 0) then
 bif x8 != x5 then
 R (zi 0) h_5
 else
 ag2 J n x8 (zw (x16 + 1)) h_5
 else
 ag2 J n x8 (zw (x16 + 1)) h_5
 else
 R (zi (if (0 : Int) > x5 then 0 else x5)) h_4) : CallsH P Zg7 #[.agg #[zi x0_0, v0_1], zi x1] h R := zv ⟨[(3, [(5, .i .i64), (16, .i .i64)]), (7, [(8, .i .i64), (23, .i .i64)])], [], []⟩ Tryz.func37 hv
theorem Zlm {x0_0 : Int} {v0_1 : Value} {x1 : Int} (hv :
 vNew h (.cells #[zi x0_0, v0_1] ZZ) fun p2 h_2 =>
 ldI .i64 h_2 p2 fun x6_0 =>
 ldV h_2 (p2.add 1) fun v6_1 =>
 zB Ze4 #[.agg #[zi x6_0, v6_1]] h_2 fun b7 h_3 =>
 bif !b7 then
 R (.tuple #[zi 0, zi 1]) h_3
 else
 zB ZX #[zi x1, zi 0, zi 3] h_3 fun b10 h_4 =>
 bif !b10 then
 R (.tuple #[zi 0, zi 2]) h_4
 else
 ldI .i64 h_4 p2 fun x12_0 =>
 ldV h_4 (p2.add 1) fun v12_1 =>
 zI Zg7 #[.agg #[zi x12_0, v12_1], zi x1] h_4 fun x14 h_5 =>
 R (.tuple #[zi x14, zi 0]) h_5) : CallsH P Zg6 #[.agg #[zi x0_0, v0_1], zi x1] h R := zv ⟨[], [], []⟩ Tryz.func8 hv
theorem ZnY {v0 v1 : Value} {g2 : Nat} {cap2 : List Value} (hv :
 vLen v0 fun n11 =>
 vLen v1 fun n13 =>
 bif (n11 : Int) != (n13 : Int) then
 R (.bool false) h
 else
 vLen v0 fun n16 =>
 lq1 (0 : Int) h fun J n x17 h_2 =>
 bif decide (x17 < (n16 : Int)) then
 vIdx v0 x17 1 fun p20 =>
 ldV h_2 p20 fun v21 =>
 vIdx v1 x17 1 fun p24 =>
 ldV h_2 p24 fun v25 =>
 vOkf ctx g2 fun _ =>
 CallsH P g2 (([v21, v25] : List Value) ++ cap2).toArray h_2 fun r29 h_3 => ∃ (b29 : Bool), r29 = .bool b29 ∧
 bif !b29 then
 R (.bool false) h_3
 else
 ag1 J n (zw (x17 + 1)) h_3
 else
 R (.bool true) h_2) : CallsH P Zh9 #[v0, v1, .func (.func g2) #[] cap2.toArray] h R := zv ⟨[(4, [(17, .i .i64)])], [], []⟩ Tryz.func120 hv
theorem Zph {v0 v1 : Value} (hv :
 zB Zh9 #[v0, v1, .func (.func Zfs) #[] #[]] h fun b7 h_2 =>
 R (.bool b7) h_2) : CallsH P Zgk #[v0, v1] h R := zv ⟨[], [], []⟩ Tryz.func78 hv
theorem ZlO {x0_0 : Int} {v0_1 : Value} {x1_0 : Int} {v1_1 : Value} (hv :
 vNew h (.cells #[zi x0_0, v0_1] ZZ) fun p2 h_2 =>
 vNew h_2 (.cells #[zi x1_0, v1_1] ZZ) fun p3 h_3 =>
 ldI .i64 h_3 p2 fun x6 =>
 ldI .i64 h_3 p3 fun x8 =>
 bif x6 == x8 then
 ldV h_3 (p2.add 1) fun v12 =>
 ldV h_3 (p3.add 1) fun v14 =>
 zB Zgk #[v12, v14] h_3 fun b15 h_4 =>
 R (.bool b15) h_4
 else
 R (.bool false) h_3) : CallsH P Zgo #[.agg #[zi x0_0, v0_1], .agg #[zi x1_0, v1_1]] h R := zv ⟨[], [], []⟩ Tryz.func40 hv
theorem ZmU {x0_0 : Int} {v0_1 v1 : Value} (hv :
 vNew h (.cells #[zi x0_0, v0_1] ZZ) fun p2 h_2 =>
 vNew h_2 (.cells #[zi 0, .slice none 0 0] ZZ) fun p4 h_3 =>
 ldV h_3 (p2.add 1) fun v11 =>
 vLen v11 fun n12 =>
 lq2 ((.slice none 0 0) : Value) (0 : Int) h_3 fun J n v5 x13 h_4 =>
 bif decide (x13 < (n12 : Int)) then
 vIdx v11 x13 1 fun p15 =>
 ldV h_4 p15 fun v16 =>
 zV Zeu #[v1, v16] h_4 fun v20 h_5 =>
 vOne v20 fun _ =>
 vNewS h_5 (.cells #[v20] Zi) 1 fun v21 h_6 =>
 vAppend 1 24 [.slice none 0 0] Zi v5 v21 h_6 fun v22 h_7 =>
 ag2 J n v22 (zw (x13 + 1)) h_7
 else
 ldI .i64 h_4 p2 fun x26 =>
 CallsH P Zfz #[zi x26, v5] h_4 fun r28 h_8 => ∃ x28_0_0, ∃ (v28_0_1 : Value), ∃ x28_1, r28 = .tuple #[.agg #[zi x28_0_0, v28_0_1], zi x28_1] ∧
 vNew h_8 (.cells #[zi 0, .slice none 0 0] ZZ) fun p8 h_9 =>
 vStore1 h_9 p8 (zi x28_0_0) fun h_10 =>
 vStore1 h_10 (p8.add 1) v28_0_1 fun h_11 =>
 ldI .i64 h_11 p8 fun x31_0 =>
 ldV h_11 (p8.add 1) fun v31_1 =>
 vStore1 h_11 p4 (zi x31_0) fun h_12 =>
 vStore1 h_12 (p4.add 1) v31_1 fun h_13 =>
 ldI .i64 h_13 p4 fun xres0_0 =>
 ldV h_13 (p4.add 1) fun vres0_1 =>
 R (.agg #[zi xres0_0, vres0_1]) h_13) : CallsH P Zh8 #[.agg #[zi x0_0, v0_1], v1] h R := zv ⟨[(3, [(5, .v), (13, .i .i64)])], [], []⟩ Tryz.func41 hv
theorem Zlw {v0 : Value} {p1 : Addr} (hv :
 ∃ B : Nat → Prop,
 ldI .i64 h p1 fun x4_0 =>
 ldV h (p1.add 1) fun v4_1 =>
 CallsH P Zh8 #[.agg #[zi x4_0, v4_1], v0] h fun r6 h_2 => ∃ x6_0_0, ∃ (v6_0_1 : Value), r6 = .agg #[zi x6_0_0, v6_0_1] ∧
 ExtBut B h h_2 ∧
 ldI .i64 (hmask B h) p1 fun x7_0 =>
 ldV (hmask B h) (p1.add 1) fun v7_1 =>
 zB Zgo #[.agg #[zi x6_0_0, v6_0_1], .agg #[zi x7_0, v7_1]] h_2 fun b8 h_3 =>
 R (.bool (!b8)) h_3) : CallsH P ZfP #[v0, .pointer (some p1)] h R := zv ⟨[], [], []⟩ Tryz.func39 hv
theorem Zqe {x0_0 : Int} {v0_1 : Value} {x1_0 : Int} {v1_1 : Value} (hv :
 vNew h (.cells #[zi x0_0, v0_1] ZZ) fun p2 h_2 =>
 vNew h_2 (.cells #[zi x1_0, v1_1] ZM) fun p3 h_3 =>
 ∃ J : Heap → Prop, (
 ldI .i64 h_3 p2 fun x6_0 =>
 ldV h_3 (p2.add 1) fun v6_1 =>
 zB Ze4 #[.agg #[zi x6_0, v6_1]] h_3 fun b7 h_4 =>
 bif !b7 then
 R (.tuple #[.bool false, zi 1]) h_4
 else
 ldI .i64 h_4 p3 fun x10_0 =>
 ldV h_4 (p3.add 1) fun v10_1 =>
 zB ZbJ #[.agg #[zi x10_0, v10_1]] h_4 fun b11 h_5 =>
 bif !b11 then
 R (.tuple #[.bool false, zi 1]) h_5
 else
 J h_5
 ) ∧ ∀ (_ : Env) (h_6 : Heap), J h_6 →
 ldI .i64 h_6 p3 fun x15 =>
 ldI .i64 h_6 p2 fun x17 =>
 bif x15 != x17 then
 R (.tuple #[.bool false, zi 6]) h_6
 else
 ldV h_6 (p3.add 1) fun v20 =>
 zB ZbX #[v20, .func (.func ZfP) #[] #[.pointer (some p2)]] h_6 fun b22 h_7 =>
 R (.tuple #[.bool (!b22), zi 0]) h_7) : CallsH P ZfF #[.agg #[zi x0_0, v0_1], .agg #[zi x1_0, v1_1]] h R := zv ⟨[], [(3, [])], []⟩ Tryz.func9 hv
theorem Zk2 {v0 v1 : Value} (hv :
 zI ZaG #[v0, v1] h fun x7 h_2 =>
 R (zi x7) h_2) : CallsH P ZhN #[v0, v1] h R := zv ⟨[], [], []⟩ Tryz.func10 hv
theorem Zn5 {v0 : Value} (hv :
 zB Zf2 #[v0] h fun b16 h_2 =>
 bif b16 then
 R (.bool true) h_2
 else
 CallsH P ZhM #[v0] h_2 fun r19 h_3 => ∃ x19_0_0, ∃ (v19_0_1 : Value), ∃ x19_1, ∃ x19_2, ∃ x19_3, ∃ x19_4, r19 = .tuple #[.agg #[zi x19_0_0, v19_0_1], zi x19_1, zi x19_2, zi x19_3, zi x19_4] ∧
 vNew h_3 (.cells #[zi 0, .slice none 0 0] ZM) fun p3 h_4 =>
 vStore1 h_4 p3 (zi x19_0_0) fun h_5 =>
 vStore1 h_5 (p3.add 1) v19_0_1 fun h_6 =>
 ldI .i64 h_6 p3 fun x26_0 =>
 ldV h_6 (p3.add 1) fun v26_1 =>
 CallsH P Zg4 #[.agg #[zi x26_0, v26_1], zi x19_1, zi x19_2, zi x19_3, zi x19_4] h_6 fun r31 h_7 => ∃ x31_0_0, ∃ (v31_0_1 : Value), ∃ x31_1, r31 = .tuple #[.agg #[zi x31_0_0, v31_0_1], zi x31_1] ∧
 vNew h_7 (.cells #[zi 0, .slice none 0 0] ZZ) fun p8 h_8 =>
 vStore1 h_8 p8 (zi x31_0_0) fun h_9 =>
 vStore1 h_9 (p8.add 1) v31_0_1 fun h_10 =>
 bif x31_1 != 0 then
 ldV h_10 (p8.add 1) fun v37 =>
 vLen v37 fun n38 =>
 bif (n38 : Int) == 0 then
 ldI .i64 h_10 p8 fun x42 =>
 R (.bool (x42 == 0)) h_10
 else
 R (.bool false) h_10
 else
 ldI .i64 h_10 p8 fun x46_0 =>
 ldV h_10 (p8.add 1) fun v46_1 =>
 CallsH P Zg6 #[.agg #[zi x46_0, v46_1], zi x19_1] h_10 fun r48 h_11 => ∃ x48_0, ∃ x48_1, r48 = .tuple #[zi x48_0, zi x48_1] ∧
 ldI .i64 h_11 p8 fun x52_0 =>
 ldV h_11 (p8.add 1) fun v52_1 =>
 ldI .i64 h_11 p3 fun x53_0 =>
 ldV h_11 (p3.add 1) fun v53_1 =>
 CallsH P ZfF #[.agg #[zi x52_0, v52_1], .agg #[zi x53_0, v53_1]] h_11 fun r54 h_12 => ∃ (b54_0 : Bool), ∃ x54_1, r54 = .tuple #[.bool b54_0, zi x54_1] ∧
 ∃ J : Heap → Prop, (
 bif decide (x19_1 ≤ 3) then
 bif x48_1 != 0 then
 R (.bool false) h_12
 else
 bif x48_0 != x19_3 then
 R (.bool false) h_12
 else
 bif x54_1 != 0 then
 R (.bool false) h_12
 else
 bif !b54_0 then
 R (.bool false) h_12
 else
 J h_12
 else
 bif x54_1 != 0 then
 R (.bool false) h_12
 else
 bif !b54_0 then
 R (.bool false) h_12
 else
 J h_12
 ) ∧ ∀ (_ : Env) (h_13 : Heap), J h_13 →
 lq1 (0 : Int) h_13 fun J_2 n x14 h_14 =>
 ldV h_14 (p8.add 1) fun v78 =>
 vLen v78 fun n79 =>
 bif decide (x14 < (n79 : Int)) then
 ldV h_14 (p8.add 1) fun v84 =>
 vIdx v84 x14 1 fun p86 =>
 ldV h_14 p86 fun v87 =>
 vLen v87 fun n88 =>
 bif (n88 : Int) != x19_2 then
 R (.bool false) h_14
 else
 bif decide (x14 > 0) then
 ldV h_14 (p8.add 1) fun v96 =>
 vIdx v96 (zw (x14 - 1)) 1 fun p99 =>
 ldV h_14 p99 fun v100 =>
 ldV h_14 (p8.add 1) fun v102 =>
 vIdx v102 x14 1 fun p104 =>
 ldV h_14 p104 fun v105 =>
 zI ZhN #[v100, v105] h_14 fun x106 h_15 =>
 bif x106 != (-1) then
 R (.bool false) h_15
 else
 ag1 J_2 n (zw (x14 + 1)) h_15
 else
 ag1 J_2 n (zw (x14 + 1)) h_14
 else
 R (.bool true) h_14) : CallsH P ZhX #[v0] h R := zv ⟨[(12, [(14, .i .i64)])], [(11, [])], []⟩ Tryz.func3 hv
end Go.Proofs.YtocnokjekoglnaaGreat
