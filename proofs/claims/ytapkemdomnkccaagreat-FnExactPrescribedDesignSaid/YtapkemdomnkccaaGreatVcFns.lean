/- Shallow verification conditions of the functions of this seat, printed by gen.py; each is held against the program by the kernel. -/
import Derived.Test.YtapkemdomnkccaaGreatVcSoundE
import Derived.Test.YtapkemdomnkccaaGreatVcDn
import Derived.Test.YtapkemdomnkccaaGreatPuBase
import Derived.Test.YtapkemdomnkccaaGreatProg
import Derived.KernelRfl
namespace Go.Proofs.YtapkemdomnkccaaGreat
set_option linter.unusedSimpArgs false
open Go Go.Vc Go.Proofs
set_option linter.unusedVariables false
set_option maxRecDepth 100000
noncomputable abbrev P : Program := Tryz.prog
abbrev zw (x : Int) : Int := IntKind.i64.wrap x
abbrev zi (x : Int) : Value := .int .i64 x
abbrev zB (f : FuncId) (a : Array Value) (h : Heap) (K : Bool → Heap → Prop) : Prop := CallsH P f a h fun r h' => ∃ b, r = .bool b ∧ K b h'
abbrev zI (f : FuncId) (a : Array Value) (h : Heap) (K : Int → Heap → Prop) : Prop := CallsH P f a h fun r h' => ∃ x, r = .int .i64 x ∧ K x h'
abbrev zV (f : FuncId) (a : Array Value) (h : Heap) (K : Value → Heap → Prop) : Prop := CallsH P f a h fun r h' => ∃ v, r = v ∧ K v h'
abbrev zS (f : FuncId) (a : Array Value) (h : Heap) (K : ByteArray → Heap → Prop) : Prop := CallsH P f a h fun r h' => ∃ s, r = .string s ∧ K s h'
abbrev Zji : Nat := 95
abbrev Zjm : Nat := 49
abbrev ZGJ : Nat := 10
abbrev Z8 : Nat := 96
abbrev Zju : Nat := 141
abbrev Zfx : Nat := 97
abbrev ZeJ : Nat := 98
abbrev ZgS : Nat := 143
abbrev Zka : Nat := 195
abbrev ZiJ : Nat := 196
abbrev Zkq : Nat := 197
abbrev Zgu : Nat := 142
abbrev ZfC : Nat := 144
abbrev Zi3 : Nat := 198
abbrev ZgC : Nat := 145
abbrev Zj3 : Nat := 99
abbrev ZlK : Nat := 50
abbrev ZF4 : Nat := 51
abbrev ZDH : Nat := 100
abbrev ZF5 : Nat := 200
abbrev ZGH : Nat := 248
abbrev ZG0 : Nat := 201
abbrev ZGt : Nat := 148
abbrev ZGI : Nat := 149
abbrev ZGK : Nat := 150
abbrev ZE1 : Nat := 103
abbrev ZGE : Nat := 146
abbrev ZG5 : Nat := 101
abbrev ZGj : Nat := 52
abbrev ZHb : Nat := 53
abbrev ZDN : Nat := 199
abbrev ZDJ : Nat := 147
abbrev ZHe : Nat := 102
abbrev ZGv : Nat := 54
abbrev Zkp : Nat := 104
abbrev ZGX : Nat := 105
abbrev ZGq : Nat := 55
abbrev ZGY : Nat := 11
abbrev Zlm : Nat := 106
abbrev ZlJ : Nat := 56
abbrev ZEz : Nat := 12
abbrev Zab : Nat := 107
abbrev ZhU : Nat := 202
abbrev Ze2 : Nat := 151
abbrev ZaA : Nat := 153
abbrev Zep : Nat := 203
abbrev Zmd : Nat := 204
abbrev Zgt : Nat := 154
abbrev Zh8 : Nat := 152
abbrev Zhk : Nat := 108
abbrev ZgM : Nat := 205
abbrev Zf6 : Nat := 155
abbrev ZdQ : Nat := 109
abbrev ZmQ : Nat := 171
abbrev ZiD : Nat := 206
abbrev ZgW : Nat := 207
abbrev ZkQ : Nat := 208
abbrev Zhd : Nat := 156
abbrev Zkj : Nat := 157
abbrev ZkV : Nat := 110
abbrev Zk7 : Nat := 57
abbrev ZF3 : Nat := 58
abbrev ZFo : Nat := 158
abbrev ZFQ : Nat := 111
abbrev Zjg : Nat := 213
abbrev ZG6 : Nat := 209
abbrev ZGT : Nat := 159
abbrev ZGd : Nat := 210
abbrev ZGp : Nat := 211
abbrev Zh3 : Nat := 212
abbrev ZG1 : Nat := 160
abbrev ZGM : Nat := 161
abbrev ZER : Nat := 112
abbrev ZkR : Nat := 214
abbrev ZcM : Nat := 162
abbrev ZHf : Nat := 215
abbrev ZGG : Nat := 164
abbrev ZGb : Nat := 163
abbrev ZGk : Nat := 113
abbrev ZGF : Nat := 59
abbrev ZbG : Nat := 165
abbrev Zkv : Nat := 216
abbrev Zjv : Nat := 167
abbrev ZG3 : Nat := 166
abbrev ZGD : Nat := 114
abbrev ZGg : Nat := 115
abbrev ZDD : Nat := 168
abbrev ZFK : Nat := 217
abbrev ZGU : Nat := 218
abbrev ZDF : Nat := 169
abbrev ZG4 : Nat := 116
abbrev ZGL : Nat := 60
abbrev ZGN : Nat := 117
abbrev ZGP : Nat := 118
abbrev ZbL : Nat := 170
abbrev ZGa : Nat := 119
abbrev ZHa : Nat := 61
abbrev ZFE : Nat := 13
abbrev ZhK : Nat := 69
abbrev Zkh : Nat := 62
abbrev ZET : Nat := 14
abbrev ZG9 : Nat := 15
abbrev ZgJ : Nat := 71
abbrev ZiL : Nat := 63
abbrev ZGf : Nat := 16
abbrev ZF6 : Nat := 17
abbrev Zh4 : Nat := 73
abbrev ZBy : Nat := 64
abbrev ZFV : Nat := 18
abbrev ZGs : Nat := 3
abbrev Zh : Nat := 2
abbrev ZGn : Nat := 4
abbrev ZsO : Nat := 5
abbrev Zta : Nat := 22
abbrev ZGA : Nat := 24
abbrev Zij : Nat := 27
abbrev Zlq : Nat := 30
abbrev Zf : Nat := 40
abbrev ZJc : Nat := 135
abbrev ZHE : Nat := 152
def tab : List (Nat × TE) := [(2, ⟨.int .i64, [.i .i64], [.int .i64 0], 8⟩),
 (3, ⟨.int .i64, [.i .i64], [.int .i64 0], 8⟩),
 (4, ⟨.bool, [.b], [.bool false], 1⟩),
 (5, ⟨.int .u8, [.i .u8], [.int .u8 0], 1⟩),
 (9, ⟨.str, [.s], [.string ⟨#[]⟩], 16⟩),
 (22, ⟨.slice 40, [.v], [.slice none 0 0], 24⟩),
 (24, ⟨.struct [(0, 1, false), (1, 1, false)], [.i .i64, .v], [.int .i64 0, .slice none 0 0], 32⟩),
 (27, ⟨.struct [(0, 1, false), (1, 1, false)], [.i .i64, .v], [.int .i64 0, .slice none 0 0], 32⟩),
 (30, ⟨.struct [(0, 1, false), (1, 1, false)], [.i .i64, .v], [.int .i64 0, .slice none 0 0], 32⟩),
 (40, ⟨.slice 2, [.v], [.slice none 0 0], 24⟩),
 (135, ⟨.struct [(0, 1, false), (1, 1, false), (2, 1, false), (3, 1, false), (4, 1, false), (5, 1, false), (6, 1, false), (7, 1, false), (8, 1, false), (9, 1, false)], [.v, .v, .i .i64, .v, .v, .i .i64, .i .i64, .i .i64, .i .i64, .b], [.slice none 0 0, .slice none 0 0, .int .i64 0, .slice none 0 0, .slice none 0 0, .int .i64 0, .int .i64 0, .int .i64 0, .int .i64 0, .bool false], 144⟩),
 (136, ⟨.slice 22, [.v], [.slice none 0 0], 24⟩),
 (150, ⟨.struct [(0, 1, false), (1, 1, false)], [.i .i64, .b], [.int .i64 0, .bool false], 16⟩),
 (152, ⟨.struct [(0, 2, true), (2, 1, false), (3, 1, false), (4, 1, false), (5, 1, false), (6, 1, false), (7, 1, false), (8, 1, false), (9, 1, false)], [.i .i64, .b, .v, .i .i64, .i .i64, .v, .v, .v, .i .i64, .v], [.int .i64 0, .bool false, .slice none 0 0, .int .i64 0, .int .i64 0, .slice none 0 0, .slice none 0 0, .slice none 0 0, .int .i64 0, .slice none 0 0], 160⟩),
 (171, ⟨.slice 5, [.v], [.slice none 0 0], 24⟩),
 (180, ⟨.slice 4, [.v], [.slice none 0 0], 24⟩),
 (220, ⟨.int .u64, [.i .u64], [.int .u64 0], 8⟩),
 (228, ⟨.map 9 4, [.v], [.map none], 8⟩)]
def rst : List (Nat × RS) := [(0, ⟨true, []⟩),
 (2, ⟨false, [(false, [.i .i64])]⟩),
 (3, ⟨false, [(false, [.i .i64])]⟩),
 (4, ⟨false, [(false, [.b])]⟩),
 (9, ⟨false, [(false, [.s])]⟩),
 (22, ⟨false, [(false, [.v])]⟩),
 (28, ⟨true, [(true, [.i .i64, .v]), (false, [.i .i64])]⟩),
 (30, ⟨false, [(true, [.i .i64, .v])]⟩),
 (40, ⟨false, [(false, [.v])]⟩),
 (87, ⟨true, [(false, [.v]), (false, [.i .i64])]⟩),
 (89, ⟨true, [(false, [.v]), (false, [.i .i64])]⟩),
 (118, ⟨true, [(false, [.i .i64]), (false, [.b])]⟩),
 (128, ⟨true, [(false, [.v]), (false, [.b])]⟩),
 (132, ⟨false, [(false, [.p])]⟩),
 (136, ⟨false, [(false, [.v])]⟩),
 (142, ⟨true, [(false, [.v]), (false, [.v]), (false, [.b])]⟩),
 (147, ⟨false, [(false, [.p])]⟩),
 (190, ⟨true, [(false, [.i .i64]), (false, [.i .i64])]⟩),
 (229, ⟨true, [(false, [.v]), (false, [.b])]⟩)]
def exs : List Nat := [139]
noncomputable def ctx : Ctx := ⟨Tryz.prog, tab, rst, 3, 310, exs⟩
theorem te2 : TeOk P 2 ⟨.int .i64, [.i .i64], [.int .i64 0], 8⟩ := ⟨by kernel_rfl, by kernel_rfl, by kernel_rfl, by kernel_rfl⟩
theorem te3 : TeOk P 3 ⟨.int .i64, [.i .i64], [.int .i64 0], 8⟩ := ⟨by kernel_rfl, by kernel_rfl, by kernel_rfl, by kernel_rfl⟩
theorem te4 : TeOk P 4 ⟨.bool, [.b], [.bool false], 1⟩ := ⟨by kernel_rfl, by kernel_rfl, by kernel_rfl, by kernel_rfl⟩
theorem te5 : TeOk P 5 ⟨.int .u8, [.i .u8], [.int .u8 0], 1⟩ := ⟨by kernel_rfl, by kernel_rfl, by kernel_rfl, by kernel_rfl⟩
theorem te9 : TeOk P 9 ⟨.str, [.s], [.string ⟨#[]⟩], 16⟩ := ⟨by kernel_rfl, by kernel_rfl, by kernel_rfl, by kernel_rfl⟩
theorem te22 : TeOk P 22 ⟨.slice 40, [.v], [.slice none 0 0], 24⟩ := ⟨by kernel_rfl, by kernel_rfl, by kernel_rfl, by kernel_rfl⟩
theorem te24 : TeOk P 24 ⟨.struct [(0, 1, false), (1, 1, false)], [.i .i64, .v], [.int .i64 0, .slice none 0 0], 32⟩ := ⟨by kernel_rfl, by kernel_rfl, by kernel_rfl, by kernel_rfl⟩
theorem te27 : TeOk P 27 ⟨.struct [(0, 1, false), (1, 1, false)], [.i .i64, .v], [.int .i64 0, .slice none 0 0], 32⟩ := ⟨by kernel_rfl, by kernel_rfl, by kernel_rfl, by kernel_rfl⟩
theorem te30 : TeOk P 30 ⟨.struct [(0, 1, false), (1, 1, false)], [.i .i64, .v], [.int .i64 0, .slice none 0 0], 32⟩ := ⟨by kernel_rfl, by kernel_rfl, by kernel_rfl, by kernel_rfl⟩
theorem te40 : TeOk P 40 ⟨.slice 2, [.v], [.slice none 0 0], 24⟩ := ⟨by kernel_rfl, by kernel_rfl, by kernel_rfl, by kernel_rfl⟩
theorem te135 : TeOk P 135 ⟨.struct [(0, 1, false), (1, 1, false), (2, 1, false), (3, 1, false), (4, 1, false), (5, 1, false), (6, 1, false), (7, 1, false), (8, 1, false), (9, 1, false)], [.v, .v, .i .i64, .v, .v, .i .i64, .i .i64, .i .i64, .i .i64, .b], [.slice none 0 0, .slice none 0 0, .int .i64 0, .slice none 0 0, .slice none 0 0, .int .i64 0, .int .i64 0, .int .i64 0, .int .i64 0, .bool false], 144⟩ := ⟨by kernel_rfl, by kernel_rfl, by kernel_rfl, by kernel_rfl⟩
theorem te136 : TeOk P 136 ⟨.slice 22, [.v], [.slice none 0 0], 24⟩ := ⟨by kernel_rfl, by kernel_rfl, by kernel_rfl, by kernel_rfl⟩
theorem te150 : TeOk P 150 ⟨.struct [(0, 1, false), (1, 1, false)], [.i .i64, .b], [.int .i64 0, .bool false], 16⟩ := ⟨by kernel_rfl, by kernel_rfl, by kernel_rfl, by kernel_rfl⟩
theorem te152 : TeOk P 152 ⟨.struct [(0, 2, true), (2, 1, false), (3, 1, false), (4, 1, false), (5, 1, false), (6, 1, false), (7, 1, false), (8, 1, false), (9, 1, false)], [.i .i64, .b, .v, .i .i64, .i .i64, .v, .v, .v, .i .i64, .v], [.int .i64 0, .bool false, .slice none 0 0, .int .i64 0, .int .i64 0, .slice none 0 0, .slice none 0 0, .slice none 0 0, .int .i64 0, .slice none 0 0], 160⟩ := ⟨by kernel_rfl, by kernel_rfl, by kernel_rfl, by kernel_rfl⟩
theorem te171 : TeOk P 171 ⟨.slice 5, [.v], [.slice none 0 0], 24⟩ := ⟨by kernel_rfl, by kernel_rfl, by kernel_rfl, by kernel_rfl⟩
theorem te180 : TeOk P 180 ⟨.slice 4, [.v], [.slice none 0 0], 24⟩ := ⟨by kernel_rfl, by kernel_rfl, by kernel_rfl, by kernel_rfl⟩
theorem te220 : TeOk P 220 ⟨.int .u64, [.i .u64], [.int .u64 0], 8⟩ := ⟨by kernel_rfl, by kernel_rfl, by kernel_rfl, by kernel_rfl⟩
theorem te228 : TeOk P 228 ⟨.map 9 4, [.v], [.map none], 8⟩ := ⟨by kernel_rfl, by kernel_rfl, by kernel_rfl, by kernel_rfl⟩
theorem tabOk_all : ∀ p ∈ tab, TeOk P p.1 p.2 := by
 unfold tab
 simp only [List.forall_mem_cons]
 exact ⟨te2, te3, te4, te5, te9, te22, te24, te27, te30, te40, te135, te136, te150, te152, te171, te180, te220, te228, fun p hp => by cases hp⟩
theorem tab_mem : ∀ (l : List (Nat × TE)) (t : Nat) (te : TE), tabGet l t = some te → (t, te) ∈ l
 | [], t, te, h => by cases h
 | (k, x) :: r, t, te, h => by
  unfold tabGet at h
  cases hb : Nat.beq k t with
  | true => rw [hb] at h; have := Nat.eq_of_beq_eq_true hb; subst this; cases h; exact List.mem_cons_self ..
  | false => rw [hb] at h; exact List.mem_cons_of_mem _ (tab_mem r t te h)
noncomputable def fnB (f : Nat) : Bool := match P.funcs[f]? with | some fn => fn.body.isSome && !(fn.name == "runtime.NumGoroutine") | none => false
theorem fns_all : (List.range' 3 307).all (fun f => inL exs f || fnB f) = true := by kernel_rfl
theorem ctxOk : CtxOk ctx where
 tab := fun t te h => tabOk_all (t, te) (tab_mem _ t te h)
 fns := fun f hf => by
  simp only [Ctx.okf, Bool.and_eq_true, Bool.not_eq_true'] at hf
  have h1 : 3 ≤ f := Nat.le_of_ble_eq_true hf.1.1
  have h2 : f < 310 := Nat.blt_eq.mp hf.1.2
  have h := List.all_eq_true.1 fns_all f (List.mem_range'_1.2 ⟨h1, by omega⟩)
  have h3 : inL exs f = false := hf.2
  simp only [h3, Bool.false_or] at h
  unfold fnB at h
  split at h
  ·rename_i fn hfn; simp only [Bool.and_eq_true, Bool.not_eq_true'] at h; exact ⟨fn, hfn, h.1, h.2⟩
  ·cases h
 mixed := by kernel_rfl
theorem zv {F : Prop} {f : FuncId} {fn : Func} {args : List Value} {h : Heap} {R : Value → Heap → Prop} (A : Ann) (hf : P.funcs[f]? = some fn) (hv : F)
  (hn : ((match fn.body with | some c => cOk fn.ntmps c | none => false) && Nat.ble args.length fn.ntmps) = true := by kernel_rfl) (e : vcFn ctx A fn args h R = F := by kernel_rfl) : CallsH P f args.toArray h R :=
 Zr0 ctxOk A hf args h R hn (e ▸ hv)
variable {R : Value → Heap → Prop} {h : Heap}
theorem ZtE {v0 : Value} {x1 : Int} (hv :
 vLen v0 fun n7 =>
 bif decide ((zw (x1 - (n7 : Int)) : Int) < 0) then
  R (zi (-1)) h
 else
  R (zi (zw (x1 - (n7 : Int)))) h) : CallsH P Zji #[v0, zi x1] h R := zv ⟨[], []⟩ Tryz.func95 hv
theorem ZvA {v0 : Value} {x1 : Int} (hv :
 vLen v0 fun n8 =>
 bif decide ((zw (x1 - (n8 : Int)) : Int) < 0) then
  R (zi (-1)) h
 else
  lq2 (zw (x1 - (n8 : Int))) (0 : Int) h fun J n x1_2 x5 h_2 =>
  vLen v0 fun n14 =>
  bif decide (x5 < (n14 : Int)) then
   vIdx v0 x5 1 fun p20 =>
   ldV h_2 p20 fun v21 =>
   zI Zji #[v21, zi x1_2] h_2 fun x23 h_3 =>
   bif decide (x23 < 0) then
    R (zi (-1)) h_3
   else
    ag2 J n x23 (zw (x5 + 1)) h_3
  else
   R (zi x1_2) h_2) : CallsH P Zjm #[v0, zi x1] h R := zv ⟨[(5, [(1, .i .i64), (5, .i .i64)])], []⟩ Tryz.func49 hv
theorem ZIr {x0_0 : Int} {v0_1 : Value} {x1 : Int} (hv :
 vNew h (.cells #[zi x0_0, v0_1] ZGA) fun p2 h_2 =>
 ldV h_2 (p2.add 1) fun v6 =>
 zI Zjm #[v6, zi x1] h_2 fun x8 h_3 =>
 bif decide (x8 < 0) then
  R (zi (-1)) h_3
 else
  R (zi x8) h_3) : CallsH P ZGJ #[.agg #[zi x0_0, v0_1], zi x1] h R := zv ⟨[], []⟩ Tryz.func10 hv
theorem Zwp {x0 : Int} {x1 : Int} {x2 : Int} (hv :
 bif decide (x0 ≥ x1) then
  R (.bool (decide (x0 ≤ x2))) h
 else
  R (.bool false) h) : CallsH P Z8 #[zi x0, zi x1, zi x2] h R := zv ⟨[], []⟩ Tryz.func96 hv
theorem Zru {v0 : Value} {x1 : Int} (hv :
 lq1 (0 : Int) h fun J n x5 h_2 =>
 vLen v0 fun n8 =>
 bif decide (x5 < (n8 : Int)) then
  vIdx v0 x5 1 fun p14 =>
  ldI .i64 h_2 p14 fun x15 =>
  bif x15 == x1 then
   R (.bool true) h_2
  else
   ag1 J n (zw (x5 + 1)) h_2
 else
  R (.bool false) h_2) : CallsH P Zju #[v0, zi x1] h R := zv ⟨[(2, [(5, .i .i64)])], []⟩ Tryz.func141 hv
theorem ZqH {v0 : Value} (hv :
 vLen v0 fun n5 =>
 bif decide ((n5 : Int) > 32) then
  R (.bool false) h
 else
  lq1 (0 : Int) h fun J n x3 h_2 =>
  vLen v0 fun n9 =>
  bif decide (x3 < (n9 : Int)) then
   vIdx v0 x3 1 fun p15 =>
   ldI .i64 h_2 p15 fun x16 =>
   vLen v0 fun n18 =>
   zB Z8 #[zi x16, zi 0, zi (zw ((n18 : Int) - 1))] h_2 fun b20 h_3 =>
   bif !b20 then
    R (.bool false) h_3
   else
    vSliceS v0 1 none (some (zi x3)) none fun v25 =>
    vIdx v0 x3 1 fun p28 =>
    ldI .i64 h_3 p28 fun x29 =>
    zB Zju #[v25, zi x29] h_3 fun b30 h_4 =>
    bif b30 then
     R (.bool false) h_4
    else
     ag1 J n (zw (x3 + 1)) h_4
  else
   R (.bool true) h_2) : CallsH P Zfx #[v0] h R := zv ⟨[(4, [(3, .i .i64)])], []⟩ Tryz.func97 hv
theorem Zrq {v0 : Value} {v1 : Value} (hv :
 ∃ J : Heap → Prop, (
  lq1 (0 : Int) h fun J_2 n x5 h_2 =>
  ∃ J_3 : Heap → Prop, (
   vLen v0 fun n8 =>
   bif decide (x5 < (n8 : Int)) then
    vLen v1 fun n13 =>
    bif decide (x5 < (n13 : Int)) then
     J_3 h_2
    else
     J h_2
   else
    J h_2
  ) ∧ ∀ (_ : Env) (h_3 : Heap), J_3 h_3 →
  vIdx v0 x5 1 fun p20 =>
  ldI .i64 h_3 p20 fun x21 =>
  vIdx v1 x5 1 fun p24 =>
  ldI .i64 h_3 p24 fun x25 =>
  bif decide (x21 < x25) then
   R (zi (-1)) h_3
  else
   vIdx v0 x5 1 fun p29 =>
   ldI .i64 h_3 p29 fun x30 =>
   vIdx v1 x5 1 fun p33 =>
   ldI .i64 h_3 p33 fun x34 =>
   bif decide (x30 > x34) then
    R (zi 1) h_3
   else
    ag1 J_2 n (zw (x5 + 1)) h_3
 ) ∧ ∀ (_ : Env) (h_4 : Heap), J h_4 →
 vLen v0 fun n37 =>
 vLen v1 fun n39 =>
 bif decide ((n37 : Int) < (n39 : Int)) then
  R (zi (-1)) h_4
 else
  vLen v0 fun n42 =>
  vLen v1 fun n44 =>
  bif decide ((n42 : Int) > (n44 : Int)) then
   R (zi 1) h_4
  else
   R (zi 0) h_4) : CallsH P ZeJ #[v0, v1] h R := zv ⟨[(2, [(5, .i .i64)])], [(4, []), (8, [])]⟩ Tryz.func98 hv
theorem ZoP {v0 : Value} {v1 : Value} (hv :
 vLen v0 fun n11 =>
 lq2 (0 : Int) (n11 : Int) h fun J n x6 x7 h_2 =>
 bif decide (x6 < x7) then
  (2 : Int) ≠ 0 ∧
  vIdx v0 (zw (Int.tdiv (zw (x6 + x7)) 2)) 1 fun p21 =>
  ldV h_2 p21 fun v22 =>
  zI ZeJ #[v22, v1] h_2 fun x24 h_3 =>
  bif x24 == 0 then
   R (.tuple #[zi (zw (Int.tdiv (zw (x6 + x7)) 2)), .bool true]) h_3
  else
   bif decide (x24 < 0) then
    ag2 J n (zw ((zw (Int.tdiv (zw (x6 + x7)) 2)) + 1)) x7 h_3
   else
    ag2 J n x6 (zw (Int.tdiv (zw (x6 + x7)) 2)) h_3
 else
  R (.tuple #[zi x6, .bool false]) h_2) : CallsH P ZgS #[v0, v1] h R := zv ⟨[(3, [(6, .i .i64), (7, .i .i64)])], []⟩ Tryz.func143 hv
theorem Zq5 {x0 : Int} (hv :
 vNewS h (.cells #[] Zh) 0 fun v5 h_2 =>
 lq2 v5 (0 : Int) h_2 fun J n v3 x4 h_3 =>
 bif decide (x4 < x0) then
  vNewS h_3 (.cells #[zi x4] Zh) 1 fun v13 h_4 =>
  vAppend 1 8 [zi 0] Zh v3 v13 h_4 fun v14 h_5 =>
  ag2 J n v14 (zw (x4 + 1)) h_5
 else
  R v3 h_3) : CallsH P Zka #[zi x0] h R := zv ⟨[(3, [(3, .v), (4, .i .i64)])], []⟩ Tryz.func195 hv
theorem Zwa {v0 : Value} {v1 : Value} (hv :
 vNewS h (.cells #[] Zh) 0 fun v7 h_2 =>
 lq2 v7 (0 : Int) h_2 fun J n v5 x6 h_3 =>
 vLen v0 fun n10 =>
 bif decide (x6 < (n10 : Int)) then
  vIdx v0 x6 1 fun p18 =>
  ldI .i64 h_3 p18 fun x19 =>
  vIdx v1 x19 1 fun p20 =>
  ldI .i64 h_3 p20 fun x21 =>
  vNewS h_3 (.cells #[zi x21] Zh) 1 fun v22 h_4 =>
  vAppend 1 8 [zi 0] Zh v5 v22 h_4 fun v23 h_5 =>
  ag2 J n v23 (zw (x6 + 1)) h_5
 else
  R v5 h_3) : CallsH P ZiJ #[v0, v1] h R := zv ⟨[(3, [(5, .v), (6, .i .i64)])], []⟩ Tryz.func196 hv
theorem Zqh {v0 : Value} {x1 : Int} {v2 : Value} (hv :
 vNewS h (.cells #[] Zf) 0 fun v8 h_2 =>
 vSliceS v0 1 none (some (zi x1)) none fun v11 =>
 vAppend 1 24 [.slice none 0 0] Zf v8 v11 h_2 fun v12 h_3 =>
 vOne v2 fun _ =>
 vNewS h_3 (.cells #[v2] Zf) 1 fun v15 h_4 =>
 vAppend 1 24 [.slice none 0 0] Zf v12 v15 h_4 fun v16 h_5 =>
 vSliceS v0 1 (some (zi x1)) none none fun v20 =>
 vAppend 1 24 [.slice none 0 0] Zf v16 v20 h_5 fun v21 h_6 =>
 R v21 h_6) : CallsH P Zkq #[v0, zi x1, v2] h R := zv ⟨[], []⟩ Tryz.func197 hv
theorem Zr2 {x0 : Int} {v1 : Value} {x2 : Int} (hv :
 zV Zka #[zi x0] h fun v17 h_2 =>
 vOne v17 fun _ =>
 vNewS h_2 (.cells #[v17] Zf) 1 fun v19 h_3 =>
 vOne v17 fun _ =>
 vNewS h_3 (.cells #[v17] Zf) 1 fun v21 h_4 =>
 lq3 v19 v21 (0 : Int) h_4 fun J n v9 v10 x11 h_5 =>
 vLen v10 fun n24 =>
 bif decide (x11 < (n24 : Int)) then
  lq3 v9 v10 (0 : Int) h_5 fun J_2 n_3 v9_2 v10_2 x12 h_6 =>
  vLen v1 fun n30 =>
  bif decide (x12 < (n30 : Int)) then
   vIdx v10_2 x11 1 fun p36 =>
   ldV h_6 p36 fun v37 =>
   vIdx v1 x12 1 fun p40 =>
   ldV h_6 p40 fun v41 =>
   zV ZiJ #[v37, v41] h_6 fun v42 h_7 =>
   CallsH P ZgS #[v9_2, v42] h_7 fun r46 h_8 => ∃ x46_0, ∃ (b46_1 : Bool), r46 = .tuple #[zi x46_0, .bool b46_1] ∧
   bif b46_1 then
    ag3 J_2 n_3 v9_2 v10_2 (zw (x12 + 1)) h_8
   else
    vLen v9_2 fun n51 =>
    bif (n51 : Int) == x2 then
     R (.tuple #[(.slice none 0 0), .bool false]) h_8
    else
     zV Zkq #[v9_2, zi x46_0, v42] h_8 fun v57 h_9 =>
     vOne v42 fun _ =>
     vNewS h_9 (.cells #[v42] Zf) 1 fun v60 h_10 =>
     vAppend 1 24 [.slice none 0 0] Zf v10_2 v60 h_10 fun v61 h_11 =>
     ag3 J_2 n_3 v57 v61 (zw (x12 + 1)) h_11
  else
   ag3 J n v9_2 v10_2 (zw (x11 + 1)) h_6
 else
  R (.tuple #[v9, .bool true]) h_5) : CallsH P Zgu #[zi x0, v1, zi x2] h R := zv ⟨[(5, [(9, .v), (10, .v), (11, .i .i64)]), (8, [(9, .v), (10, .v), (12, .i .i64)])], []⟩ Tryz.func142 hv
theorem Zu9 {v0 : Value} (hv :
 vNewS h (.cells #[] Zh) 0 fun v3 h_2 =>
 vAppend 1 8 [zi 0] Zh v3 v0 h_2 fun v5 h_3 =>
 R v5 h_3) : CallsH P ZfC #[v0] h R := zv ⟨[], []⟩ Tryz.func144 hv
theorem Zrh {v0 : Value} {v1 : Value} (hv :
 vLen v0 fun n7 =>
 vLen v1 fun n9 =>
 bif (n7 : Int) != (n9 : Int) then
  R (.bool false) h
 else
  lq1 (0 : Int) h fun J n x5 h_2 =>
  vLen v0 fun n13 =>
  bif decide (x5 < (n13 : Int)) then
   vIdx v0 x5 1 fun p19 =>
   ldI .i64 h_2 p19 fun x20 =>
   vIdx v1 x5 1 fun p23 =>
   ldI .i64 h_2 p23 fun x24 =>
   bif x20 != x24 then
    R (.bool false) h_2
   else
    ag1 J n (zw (x5 + 1)) h_2
  else
   R (.bool true) h_2) : CallsH P Zi3 #[v0, v1] h R := zv ⟨[(4, [(5, .i .i64)])], []⟩ Tryz.func198 hv
theorem ZpB {v0 : Value} {v1 : Value} (hv :
 vLen v0 fun n7 =>
 vLen v1 fun n9 =>
 bif (n7 : Int) != (n9 : Int) then
  R (.bool false) h
 else
  lq1 (0 : Int) h fun J n x5 h_2 =>
  vLen v0 fun n13 =>
  bif decide (x5 < (n13 : Int)) then
   vIdx v0 x5 1 fun p19 =>
   ldV h_2 p19 fun v20 =>
   vIdx v1 x5 1 fun p23 =>
   ldV h_2 p23 fun v24 =>
   zB Zi3 #[v20, v24] h_2 fun b25 h_3 =>
   bif !b25 then
    R (.bool false) h_3
   else
    ag1 J n (zw (x5 + 1)) h_3
  else
   R (.bool true) h_2) : CallsH P ZgC #[v0, v1] h R := zv ⟨[(4, [(5, .i .i64)])], []⟩ Tryz.func145 hv
theorem Zvw {x0 : Int} {v1 : Value} (hv :
 vNewS h (.cells #[] Zf) 0 fun v14 h_2 =>
 CallsH P Zgu #[zi x0, v14, zi 1] h_2 fun r18 h_3 => ∃ (v18_0 : Value), ∃ (b18_1 : Bool), r18 = .tuple #[v18_0, .bool b18_1] ∧
 lq3 v14 v18_0 (0 : Int) h_3 fun J n v6 v7 x9 h_4 =>
 vLen v1 fun n23 =>
 bif decide (x9 < (n23 : Int)) then
  vIdx v1 x9 1 fun p31 =>
  ldV h_4 p31 fun v32 =>
  CallsH P ZgS #[v7, v32] h_4 fun r33 h_5 => ∃ x33_0, ∃ (b33_1 : Bool), r33 = .tuple #[zi x33_0, .bool b33_1] ∧
  bif b33_1 then
   ag3 J n v6 v7 (zw (x9 + 1)) h_5
  else
   vIdx v1 x9 1 fun p40 =>
   ldV h_5 p40 fun v41 =>
   zV ZfC #[v41] h_5 fun v42 h_6 =>
   vOne v42 fun _ =>
   vNewS h_6 (.cells #[v42] Zf) 1 fun v43 h_7 =>
   vAppend 1 24 [.slice none 0 0] Zf v6 v43 h_7 fun v44 h_8 =>
   vLen v1 fun n49 =>
   CallsH P Zgu #[zi x0, v44, zi (n49 : Int)] h_8 fun r50 h_9 => ∃ (v50_0 : Value), ∃ (b50_1 : Bool), r50 = .tuple #[v50_0, .bool b50_1] ∧
   bif !b50_1 then
    R (.tuple #[(.slice none 0 0), .bool false]) h_9
   else
    ag3 J n v44 v50_0 (zw (x9 + 1)) h_9
 else
  zB ZgC #[v7, v1] h_4 fun b59 h_10 =>
  R (.tuple #[v6, .bool b59]) h_10) : CallsH P Zj3 #[zi x0, v1] h R := zv ⟨[(4, [(6, .v), (7, .v), (9, .i .i64)])], []⟩ Tryz.func99 hv
theorem ZtM {p0 : Addr} (hv :
 ∃ J : Heap → Prop, (
  ldI .i64 h p0 fun x9 =>
  zB Z8 #[zi x9, zi 1, zi 32] h fun b10 h_2 =>
  bif !b10 then
   R (.bool false) h_2
  else
   ldV h_2 (p0.add 1) fun v16 =>
   vLen v16 fun n17 =>
   bif (n17 : Int) == 0 then
    R (.bool false) h_2
   else
    ldV h_2 (p0.add 1) fun v24 =>
    vLen v24 fun n25 =>
    bif decide ((n25 : Int) > 720) then
     R (.bool false) h_2
    else
     J h_2
 ) ∧ ∀ (_ : Env) (h_3 : Heap), J h_3 →
 lq1 (0 : Int) h_3 fun J_2 n x3 h_4 =>
 ldV h_4 (p0.add 1) fun v32 =>
 vLen v32 fun n33 =>
 bif decide (x3 < (n33 : Int)) then
  ldV h_4 (p0.add 1) fun v40 =>
  vIdx v40 x3 1 fun p42 =>
  ldV h_4 p42 fun v43 =>
  zB Zfx #[v43] h_4 fun b44 h_5 =>
  bif !b44 then
   R (.bool false) h_5
  else
   ldV h_5 (p0.add 1) fun v50 =>
   vIdx v50 x3 1 fun p52 =>
   ldV h_5 p52 fun v53 =>
   vLen v53 fun n54 =>
   ldI .i64 h_5 p0 fun x58 =>
   bif (n54 : Int) != x58 then
    R (.bool false) h_5
   else
    bif decide (x3 > 0) then
     ldV h_5 (p0.add 1) fun v68 =>
     vIdx v68 (zw (x3 - 1)) 1 fun p71 =>
     ldV h_5 p71 fun v72 =>
     ldV h_5 (p0.add 1) fun v76 =>
     vIdx v76 x3 1 fun p78 =>
     ldV h_5 p78 fun v79 =>
     zI ZeJ #[v72, v79] h_5 fun x80 h_6 =>
     bif decide (x80 ≥ 0) then
      R (.bool false) h_6
     else
      ag1 J_2 n (zw (x3 + 1)) h_6
    else
     ag1 J_2 n (zw (x3 + 1)) h_5
 else
  ldI .i64 h_4 p0 fun x88 =>
  ldV h_4 (p0.add 1) fun v92 =>
  CallsH P Zj3 #[zi x88, v92] h_4 fun r93 h_7 => ∃ (v93_0 : Value), ∃ (b93_1 : Bool), r93 = .tuple #[v93_0, .bool b93_1] ∧
  R (.bool b93_1) h_7) : CallsH P ZlK #[.pointer (some p0)] h R := zv ⟨[(4, [(3, .i .i64)])], [(3, [])]⟩ Tryz.func50 hv
theorem ZJi {x0 : Int} (hv :
 zB Z8 #[zi x0, zi 1, zi 20000] h fun b4 h_2 =>
 R (.bool b4) h_2) : CallsH P ZF4 #[zi x0] h R := zv ⟨[], []⟩ Tryz.func51 hv
theorem ZJj {x0 : Int} {x1 : Int} (hv :
 ∃ J : Heap → Prop, (
  zB Z8 #[zi x0, zi 0, zi 32] h fun b8 h_2 =>
  bif !b8 then
   R (zi 0) h_2
  else
   zB Z8 #[zi x1, zi 0, zi x0] h_2 fun b13 h_3 =>
   bif !b13 then
    R (zi 0) h_3
   else
    J h_3
 ) ∧ ∀ (_ : Env) (h_4 : Heap), J h_4 →
 lq2 (1 : Int) (1 : Int) h_4 fun J_2 n x5 x6 h_5 =>
 bif decide (x6 ≤ x1) then
  x6 ≠ 0 ∧
  ag2 J_2 n (zw (Int.tdiv (zw (x5 * (zw ((zw (x0 - x1)) + x6)))) x6)) (zw (x6 + 1)) h_5
 else
  R (zi x5) h_5) : CallsH P ZDH #[zi x0, zi x1] h R := zv ⟨[(5, [(5, .i .i64), (6, .i .i64)])], [(3, [])]⟩ Tryz.func100 hv
theorem ZKd {v0 : Value} {v1 : Value} (hv :
 vNewS h (.cells #[] Zf) 0 fun v9 h_2 =>
 lq3 v9 false (0 : Int) h_2 fun J n v5 b6 x7 h_3 =>
 vLen v0 fun n12 =>
 bif decide (x7 < (n12 : Int)) then
  vIdx v0 x7 1 fun p18 =>
  ldV h_3 p18 fun v19 =>
  zI ZeJ #[v19, v1] h_3 fun x21 h_4 =>
  ∃ J_2 : Value → Bool → Heap → Prop, (
   ∃ J_3 : Bool → Heap → Prop, (
    bif !b6 then
     J_3 (decide (x21 ≥ 0)) h_4
    else
     J_3 false h_4
   ) ∧ ∀ (_ : Env) (b27 : Bool) (h_5 : Heap), J_3 b27 h_5 →
   bif b27 then
    bif decide (x21 > 0) then
     vOne v1 fun _ =>
     vNewS h_5 (.cells #[v1] Zf) 1 fun v32 h_6 =>
     vAppend 1 24 [.slice none 0 0] Zf v5 v32 h_6 fun v33 h_7 =>
     J_2 v33 true h_7
    else
     J_2 v5 true h_5
   else
    J_2 v5 b6 h_5
  ) ∧ ∀ (_ : Env) (v5_2 : Value) (b6_2 : Bool) (h_8 : Heap), J_2 v5_2 b6_2 h_8 →
  vIdx v0 x7 1 fun p37 =>
  ldV h_8 p37 fun v38 =>
  vOne v38 fun _ =>
  vNewS h_8 (.cells #[v38] Zf) 1 fun v39 h_9 =>
  vAppend 1 24 [.slice none 0 0] Zf v5_2 v39 h_9 fun v40 h_10 =>
  ag3 J n v40 b6_2 (zw (x7 + 1)) h_10
 else
  bif !b6 then
   vOne v1 fun _ =>
   vNewS h_3 (.cells #[v1] Zf) 1 fun v45 h_11 =>
   vAppend 1 24 [.slice none 0 0] Zf v5 v45 h_11 fun v46 h_12 =>
   R v46 h_12
  else
   R v5 h_3) : CallsH P ZF5 #[v0, v1] h R := zv ⟨[(4, [(5, .v), (6, .b), (7, .i .i64)])], [(8, [(27, .b)]), (11, [(5, .v), (6, .b)])]⟩ Tryz.func200 hv
theorem ZKW {v0 : Value} {x1 : Int} (hv :
 vNewS h (.cells #[] Zh) 0 fun v8 h_2 =>
 lq3 v8 false (0 : Int) h_2 fun J n v5 b6 x7 h_3 =>
 vLen v0 fun n11 =>
 bif decide (x7 < (n11 : Int)) then
  ∃ J_2 : Value → Bool → Heap → Prop, (
   ∃ J_3 : Bool → Heap → Prop, (
    bif !b6 then
     vIdx v0 x7 1 fun p20 =>
     ldI .i64 h_3 p20 fun x21 =>
     J_3 (decide (x21 ≥ x1)) h_3
    else
     J_3 false h_3
   ) ∧ ∀ (_ : Env) (b24 : Bool) (h_4 : Heap), J_3 b24 h_4 →
   bif b24 then
    vIdx v0 x7 1 fun p27 =>
    ldI .i64 h_4 p27 fun x28 =>
    bif decide (x28 > x1) then
     vNewS h_4 (.cells #[zi x1] Zh) 1 fun v33 h_5 =>
     vAppend 1 8 [zi 0] Zh v5 v33 h_5 fun v34 h_6 =>
     J_2 v34 true h_6
    else
     J_2 v5 true h_4
   else
    J_2 v5 b6 h_4
  ) ∧ ∀ (_ : Env) (v5_2 : Value) (b6_2 : Bool) (h_7 : Heap), J_2 v5_2 b6_2 h_7 →
  vIdx v0 x7 1 fun p38 =>
  ldI .i64 h_7 p38 fun x39 =>
  vNewS h_7 (.cells #[zi x39] Zh) 1 fun v40 h_8 =>
  vAppend 1 8 [zi 0] Zh v5_2 v40 h_8 fun v41 h_9 =>
  ag3 J n v41 b6_2 (zw (x7 + 1)) h_9
 else
  bif !b6 then
   vNewS h_3 (.cells #[zi x1] Zh) 1 fun v46 h_10 =>
   vAppend 1 8 [zi 0] Zh v5 v46 h_10 fun v47 h_11 =>
   R v47 h_11
  else
   R v5 h_3) : CallsH P ZGH #[v0, zi x1] h R := zv ⟨[(4, [(5, .v), (6, .b), (7, .i .i64)])], [(7, [(24, .b)]), (10, [(5, .v), (6, .b)])]⟩ Tryz.func248 hv
theorem ZIc {v0 : Value} {v1 : Value} (hv :
 vNewS h (.cells #[] Zh) 0 fun v7 h_2 =>
 lq2 v7 (0 : Int) h_2 fun J n v5 x6 h_3 =>
 vLen v1 fun n10 =>
 bif decide (x6 < (n10 : Int)) then
  vIdx v1 x6 1 fun p18 =>
  ldI .i64 h_3 p18 fun x19 =>
  vIdx v0 x19 1 fun p20 =>
  ldI .i64 h_3 p20 fun x21 =>
  zV ZGH #[v5, zi x21] h_3 fun v22 h_4 =>
  ag2 J n v22 (zw (x6 + 1)) h_4
 else
  R v5 h_3) : CallsH P ZG0 #[v0, v1] h R := zv ⟨[(3, [(5, .v), (6, .i .i64)])], []⟩ Tryz.func201 hv
theorem ZKv {p0 : Addr} {v1 : Value} (hv :
 vNewS h (.cells #[] Zf) 0 fun v7 h_2 =>
 lq2 v7 (0 : Int) h_2 fun J n v5 x6 h_3 =>
 ldV h_3 (p0.add 1) fun v12 =>
 vLen v12 fun n13 =>
 bif decide (x6 < (n13 : Int)) then
  ldV h_3 (p0.add 1) fun v21 =>
  vIdx v21 x6 1 fun p23 =>
  ldV h_3 p23 fun v24 =>
  zV ZG0 #[v24, v1] h_3 fun v26 h_4 =>
  zV ZF5 #[v5, v26] h_4 fun v27 h_5 =>
  ag2 J n v27 (zw (x6 + 1)) h_5
 else
  R v5 h_3) : CallsH P ZGt #[.pointer (some p0), v1] h R := zv ⟨[(3, [(5, .v), (6, .i .i64)])], []⟩ Tryz.func148 hv
theorem ZI4 {x0 : Int} {x1 : Int} {x2 : Int} (hv :
 vNewS h (.cells #[] Zh) 0 fun v10 h_2 =>
 lq3 x2 v10 (0 : Int) h_2 fun J n x2_2 v7 x8 h_3 =>
 ∃ J_2 : Heap → Prop, (
  vLen v7 fun n12 =>
  bif decide ((n12 : Int) < x1) then
   bif decide (x8 < x0) then
    J_2 h_3
   else
    R v7 h_3
  else
   R v7 h_3
 ) ∧ ∀ (_ : Env) (h_4 : Heap), J_2 h_4 →
 vLen v7 fun n27 =>
 zI ZDH #[zi (zw ((zw (x0 - 1)) - x8)), zi (zw ((zw (x1 - 1)) - (n27 : Int)))] h_4 fun x29 h_5 =>
 bif decide (x2_2 < x29) then
  vNewS h_5 (.cells #[zi x8] Zh) 1 fun v35 h_6 =>
  vAppend 1 8 [zi 0] Zh v7 v35 h_6 fun v36 h_7 =>
  ag3 J n x2_2 v36 (zw (x8 + 1)) h_7
 else
  ag3 J n (zw (x2_2 - x29)) v7 (zw (x8 + 1)) h_5) : CallsH P ZGI #[zi x0, zi x1, zi x2] h R := zv ⟨[(3, [(2, .i .i64), (7, .v), (8, .i .i64)])], [(4, [])]⟩ Tryz.func149 hv
theorem ZIa {x0 : Int} {v1 : Value} (hv :
 vLen v1 fun n11 =>
 lq3 (0 : Int) (0 : Int) (0 : Int) h fun J n x5 x6 x8 h_2 =>
 bif decide (x8 < (n11 : Int)) then
  lq2 x5 x6 h_2 fun J_2 n_3 x5_2 x9 h_3 =>
  vIdx v1 x8 1 fun p21 =>
  ldI .i64 h_3 p21 fun x22 =>
  bif decide (x9 < x22) then
   zI ZDH #[zi (zw ((zw (x0 - 1)) - x9)), zi (zw ((zw ((n11 : Int) - 1)) - x8))] h_3 fun x35 h_4 =>
   ag2 J_2 n_3 (zw (x5_2 + x35)) (zw (x9 + 1)) h_4
  else
   vIdx v1 x8 1 fun p39 =>
   ldI .i64 h_3 p39 fun x40 =>
   ag3 J n x5_2 (zw (x40 + 1)) (zw (x8 + 1)) h_3
 else
  R (zi x5) h_2) : CallsH P ZGK #[zi x0, v1] h R := zv ⟨[(5, [(5, .i .i64), (6, .i .i64), (8, .i .i64)]), (8, [(5, .i .i64), (9, .i .i64)])], []⟩ Tryz.func150 hv
theorem ZIh {p0 : Addr} {x1 : Int} (hv :
 ldI .i64 h p0 fun x14 =>
 zI ZDH #[zi x14, zi x1] h fun x16 h_2 =>
 vMake 1 [.bool false] ZGn x16 x16 h_2 fun v18 h_3 =>
 vNewS h_3 (.cells #[] Zta) 0 fun v19 h_4 =>
 lq2 v19 (0 : Int) h_4 fun J n v7 x8 h_5 =>
 bif decide (x8 < x16) then
  vIdx v18 x8 1 fun p27 =>
  ldB h_5 p27 fun b28 =>
  bif b28 then
   ag2 J n v7 (zw (x8 + 1)) h_5
  else
   ldI .i64 h_5 p0 fun x33 =>
   zV ZGI #[zi x33, zi x1, zi x8] h_5 fun v36 h_6 =>
   zV ZGt #[.pointer (some p0), v36] h_6 fun v37 h_7 =>
   lq1 (0 : Int) h_7 fun J_2 n_3 x10 h_8 =>
   vLen v37 fun n40 =>
   bif decide (x10 < (n40 : Int)) then
    ldI .i64 h_8 p0 fun x48 =>
    vIdx v37 x10 1 fun p51 =>
    ldV h_8 p51 fun v52 =>
    zI ZGK #[zi x48, v52] h_8 fun x53 h_9 =>
    vIdx v18 x53 1 fun p54 =>
    vStore1 h_9 p54 (.bool true) fun h_10 =>
    ag1 J_2 n_3 (zw (x10 + 1)) h_10
   else
    vOne v37 fun _ =>
    vNewS h_8 (.cells #[v37] Zta) 1 fun v57 h_11 =>
    vAppend 1 24 [.slice none 0 0] Zta v7 v57 h_11 fun v58 h_12 =>
    ag2 J n v58 (zw (x8 + 1)) h_12
 else
  R v7 h_5) : CallsH P ZE1 #[.pointer (some p0), zi x1] h R := zv ⟨[(5, [(7, .v), (8, .i .i64)]), (10, [(10, .i .i64)])], []⟩ Tryz.func103 hv
theorem ZIe {v0 : Value} {v1 : Value} (hv :
 lq1 (0 : Int) h fun J n x5 h_2 =>
 vLen v0 fun n8 =>
 bif decide (x5 < (n8 : Int)) then
  vIdx v0 x5 1 fun p15 =>
  ldI .i64 h_2 p15 fun x16 =>
  zB Zju #[v1, zi x16] h_2 fun b17 h_3 =>
  bif !b17 then
   R (.bool false) h_3
  else
   ag1 J n (zw (x5 + 1)) h_3
 else
  R (.bool true) h_2) : CallsH P ZGE #[v0, v1] h R := zv ⟨[(2, [(5, .i .i64)])], []⟩ Tryz.func146 hv
theorem ZJZ {p0 : Addr} {x1 : Int} {x2 : Int} (hv :
 zV ZE1 #[.pointer (some p0), zi x1] h fun v17 h_2 =>
 zV ZE1 #[.pointer (some p0), zi x2] h_2 fun v20 h_3 =>
 vNewS h_3 (.cells #[] Zf) 0 fun v21 h_4 =>
 lq2 v21 (0 : Int) h_4 fun J n v9 x10 h_5 =>
 vLen v17 fun n24 =>
 bif decide (x10 < (n24 : Int)) then
  vNewS h_5 (.cells #[] Zh) 0 fun v28 h_6 =>
  lq2 v28 (0 : Int) h_6 fun J_2 n_3 v11 x12 h_7 =>
  vLen v20 fun n31 =>
  bif decide (x12 < (n31 : Int)) then
   lq2 (0 : Int) (0 : Int) h_7 fun J_3 n_5 x13 x14 h_8 =>
   vIdx v20 x12 1 fun p38 =>
   ldV h_8 p38 fun v39 =>
   vLen v39 fun n40 =>
   bif decide (x14 < (n40 : Int)) then
    vIdx v17 x10 1 fun p46 =>
    ldV h_8 p46 fun v47 =>
    vIdx v47 0 1 fun p48 =>
    ldV h_8 p48 fun v49 =>
    vIdx v20 x12 1 fun p52 =>
    ldV h_8 p52 fun v53 =>
    vIdx v53 x14 1 fun p55 =>
    ldV h_8 p55 fun v56 =>
    zB ZGE #[v49, v56] h_8 fun b57 h_9 =>
    bif b57 then
     ag2 J_3 n_5 (zw (x13 + 1)) (zw (x14 + 1)) h_9
    else
     ag2 J_3 n_5 x13 (zw (x14 + 1)) h_9
   else
    vNewS h_8 (.cells #[zi x13] Zh) 1 fun v62 h_10 =>
    vAppend 1 8 [zi 0] Zh v11 v62 h_10 fun v63 h_11 =>
    ag2 J_2 n_3 v63 (zw (x12 + 1)) h_11
  else
   vOne v11 fun _ =>
   vNewS h_7 (.cells #[v11] Zf) 1 fun v66 h_12 =>
   vAppend 1 24 [.slice none 0 0] Zf v9 v66 h_12 fun v67 h_13 =>
   ag2 J n v67 (zw (x10 + 1)) h_13
 else
  R v9 h_5) : CallsH P ZG5 #[.pointer (some p0), zi x1, zi x2] h R := zv ⟨[(5, [(9, .v), (10, .i .i64)]), (9, [(11, .v), (12, .i .i64)]), (13, [(13, .i .i64), (14, .i .i64)])], []⟩ Tryz.func101 hv
theorem ZKz {x0_0 : Int} {v0_1 : Value} {x1 : Int} {x2 : Int} (hv :
 vNew h (.cells #[zi x0_0, v0_1] Zlq) fun p3 h_2 =>
 zB ZlK #[.pointer (some p3)] h_2 fun b8 h_3 =>
 bif !b8 then
  R (.tuple #[(.slice none 0 0), zi 1]) h_3
 else
  ∃ J : Heap → Prop, (
   ldI .i64 h_3 p3 fun x12 =>
   zB Z8 #[zi x2, zi 0, zi x12] h_3 fun b13 h_4 =>
   bif !b13 then
    R (.tuple #[(.slice none 0 0), zi 2]) h_4
   else
    zB Z8 #[zi x1, zi 0, zi x2] h_4 fun b18 h_5 =>
    bif !b18 then
     R (.tuple #[(.slice none 0 0), zi 2]) h_5
    else
     J h_5
  ) ∧ ∀ (_ : Env) (h_6 : Heap), J h_6 →
  ∃ J_2 : Heap → Prop, (
   ldI .i64 h_6 p3 fun x22 =>
   zI ZDH #[zi x22, zi x1] h_6 fun x24 h_7 =>
   bif decide (x24 > 2000) then
    R (.tuple #[(.slice none 0 0), zi 5]) h_7
   else
    ldI .i64 h_7 p3 fun x28 =>
    zI ZDH #[zi x28, zi x2] h_7 fun x30 h_8 =>
    bif decide (x30 > 2000) then
     R (.tuple #[(.slice none 0 0), zi 5]) h_8
    else
     J_2 h_8
  ) ∧ ∀ (_ : Env) (h_9 : Heap), J_2 h_9 →
  zV ZG5 #[.pointer (some p3), zi x1, zi x2] h_9 fun v35 h_10 =>
  R (.tuple #[v35, zi 0]) h_10) : CallsH P ZGj #[.agg #[zi x0_0, v0_1], zi x1, zi x2] h R := zv ⟨[], [(5, []), (7, [])]⟩ Tryz.func52 hv
theorem ZIw {x0 : Int} (hv :
 zB Z8 #[zi x0, zi 1, zi 2000] h fun b4 h_2 =>
 R (.bool b4) h_2) : CallsH P ZHb #[zi x0] h R := zv ⟨[], []⟩ Tryz.func53 hv
theorem ZI0 {p0 : Addr} {v1 : Value} {x2 : Int} (hv :
 lq1 (0 : Int) h fun J n x6 h_2 =>
 vLen v1 fun n9 =>
 bif decide (x6 < (n9 : Int)) then
  vIdx v1 x6 1 fun p15 =>
  ldI .i64 h_2 p15 fun x16 =>
  ldV h_2 (p0.add 1) fun v20 =>
  vIdx v20 x6 1 fun p22 =>
  ldV h_2 p22 fun v23 =>
  vIdx v23 x2 1 fun p25 =>
  ldI .i64 h_2 p25 fun x26 =>
  ldI .i64 h_2 (p0.add 2) fun x31 =>
  bif decide ((zw (x16 + x26) : Int) < x31) then
   R (.tuple #[]) h_2
  else
   ag1 J n (zw (x6 + 1)) h_2
 else
  ∃ J_2 : Heap → Prop, (
   ldB h_2 (p0.add 9) fun b36 =>
   bif b36 then
    R (.tuple #[]) h_2
   else
    ldI .i64 h_2 (p0.add 5) fun x41 =>
    ldI .i64 h_2 (p0.add 6) fun x45 =>
    bif x41 == x45 then
     R (.tuple #[]) h_2
    else
     J_2 h_2
  ) ∧ ∀ (_ : Env) (h_3 : Heap), J_2 h_3 →
  ldI .i64 h_3 (p0.add 7) fun x51 =>
  ldI .i64 h_3 (p0.add 8) fun x55 =>
  bif x51 == x55 then
   vStore1 h_3 (p0.add 9) (.bool true) fun h_4 =>
   R (.tuple #[]) h_4
  else
   ldI .i64 h_3 (p0.add 7) fun x63 =>
   vStore1 h_3 (p0.add 7) (zi (zw (x63 + 1))) fun h_5 =>
   CallsH P ZDJ #[.pointer (some p0), v1, zi x2] h_5 fun r70 h_6 => r70 = .tuple #[] ∧
   R (.tuple #[]) h_6) : CallsH P ZDN #[.pointer (some p0), v1, zi x2] h R := zv ⟨[(1, [(6, .i .i64)])], [(5, [])]⟩ Tryz.func199 hv
theorem ZIo {p0 : Addr} {v1 : Value} {x2 : Int} (hv :
 ldV h p0 fun v14 =>
 vIdx v14 0 1 fun p15 =>
 ldV h p15 fun v16 =>
 vLen v16 fun n17 =>
 bif x2 == (n17 : Int) then
  ∃ J : Heap → Prop, (
   ldI .i64 h (p0.add 5) fun x22 =>
   bif x22 == 0 then
    ldV h (p0.add 3) fun v28 =>
    zV ZfC #[v28] h fun v29 h_2 =>
    vStore1 h_2 (p0.add 4) v29 fun h_3 =>
    J h_3
   else
    J h
  ) ∧ ∀ (_ : Env) (h_4 : Heap), J h_4 →
  ldI .i64 h_4 (p0.add 5) fun x35 =>
  vStore1 h_4 (p0.add 5) (zi (zw (x35 + 1))) fun h_5 =>
  R (.tuple #[]) h_5
 else
  vNewS h (.cells #[] Zh) 0 fun v39 h_6 =>
  lq3 true v39 (0 : Int) h_6 fun J_2 n b6 v7 x8 h_7 =>
  vLen v1 fun n42 =>
  bif decide (x8 < (n42 : Int)) then
   vIdx v1 x8 1 fun p49 =>
   ldI .i64 h_7 p49 fun x50 =>
   ldV h_7 p0 fun v54 =>
   vIdx v54 x8 1 fun p56 =>
   ldV h_7 p56 fun v57 =>
   vIdx v57 x2 1 fun p59 =>
   ldI .i64 h_7 p59 fun x60 =>
   vNewS h_7 (.cells #[zi (zw (x50 + x60))] Zh) 1 fun v62 h_8 =>
   vAppend 1 8 [zi 0] Zh v7 v62 h_8 fun v63 h_9 =>
   vIdx v63 x8 1 fun p66 =>
   ldI .i64 h_9 p66 fun x67 =>
   ldI .i64 h_9 (p0.add 2) fun x71 =>
   bif decide (x67 > x71) then
    ag3 J_2 n false v63 (zw (x8 + 1)) h_9
   else
    ag3 J_2 n b6 v63 (zw (x8 + 1)) h_9
  else
   ∃ J_3 : Heap → Prop, (
    bif b6 then
     ldV h_7 (p0.add 3) fun v77 =>
     vLen v77 fun n78 =>
     ldV h_7 (p0.add 3) fun v83 =>
     vNewS h_7 (.cells #[zi x2] Zh) 1 fun v85 h_10 =>
     vAppend 1 8 [zi 0] Zh v83 v85 h_10 fun v86 h_11 =>
     vStore1 h_11 (p0.add 3) v86 fun h_12 =>
     CallsH P ZDN #[.pointer (some p0), v7, zi (zw (x2 + 1))] h_12 fun r93 h_13 => r93 = .tuple #[] ∧
     ldV h_13 (p0.add 3) fun v98 =>
     vSliceS v98 1 none (some (zi (n78 : Int))) none fun v100 =>
     vStore1 h_13 (p0.add 3) v100 fun h_14 =>
     J_3 h_14
    else
     J_3 h_7
   ) ∧ ∀ (_ : Env) (h_15 : Heap), J_3 h_15 →
   CallsH P ZDN #[.pointer (some p0), v1, zi (zw (x2 + 1))] h_15 fun r107 h_16 => r107 = .tuple #[] ∧
   R (.tuple #[]) h_16) : CallsH P ZDJ #[.pointer (some p0), v1, zi x2] h R := zv ⟨[(7, [(6, .b), (7, .v), (8, .i .i64)])], [(3, []), (17, [])]⟩ Tryz.func147 hv
theorem ZIy {v0 : Value} {x1 : Int} {x2 : Int} {x3 : Int} (hv :
 vOne v0 fun _ =>
 vNew h (.cells #[v0, (.slice none 0 0), zi x1, (.slice none 0 0), (.slice none 0 0), zi 0, zi x2, zi 0, zi x3, .bool false] ZJc) fun p19 h_2 =>
 lq2 true (0 : Int) h_2 fun J n b10 x11 h_3 =>
 vLen v0 fun n22 =>
 bif decide (x11 < (n22 : Int)) then
  vIdx v0 x11 1 fun p28 =>
  ldV h_3 p28 fun v29 =>
  vLen v29 fun n30 =>
  vMake 8 [zi 0] Zh (zw ((n30 : Int) + 1)) (zw ((n30 : Int) + 1)) h_3 fun v32 h_4 =>
  vIdx v0 x11 1 fun p35 =>
  ldV h_4 p35 fun v36 =>
  vLen v36 fun n37 =>
  lq1 (zw ((n37 : Int) - 1)) h_4 fun J_2 n_3 x13 h_5 =>
  bif decide (x13 ≥ 0) then
   vIdx v32 (zw (x13 + 1)) 1 fun p48 =>
   ldI .i64 h_5 p48 fun x49 =>
   vIdx v0 x11 1 fun p52 =>
   ldV h_5 p52 fun v53 =>
   vIdx v53 x13 1 fun p55 =>
   ldI .i64 h_5 p55 fun x56 =>
   vIdx v32 x13 1 fun p58 =>
   vStore1 h_5 p58 (zi (zw (x49 + x56))) fun h_6 =>
   ag1 J_2 n_3 (zw (x13 - 1)) h_6
  else
   ldV h_5 (p19.add 1) fun v63 =>
   vOne v32 fun _ =>
   vNewS h_5 (.cells #[v32] Zf) 1 fun v65 h_7 =>
   vAppend 1 24 [.slice none 0 0] Zf v63 v65 h_7 fun v66 h_8 =>
   vStore1 h_8 (p19.add 1) v66 fun h_9 =>
   vIdx v32 0 1 fun p70 =>
   ldI .i64 h_9 p70 fun x71 =>
   bif decide (x71 < x1) then
    ag2 J n false (zw (x11 + 1)) h_9
   else
    ag2 J n b10 (zw (x11 + 1)) h_9
 else
  bif b10 then
   vLen v0 fun n77 =>
   vMake 8 [zi 0] Zh (n77 : Int) (n77 : Int) h_3 fun v78 h_10 =>
   CallsH P ZDJ #[.pointer (some p19), v78, zi 0] h_10 fun r79 h_11 => r79 = .tuple #[] ∧
   R (.pointer (some p19)) h_11
  else
   R (.pointer (some p19)) h_3) : CallsH P ZHe #[v0, zi x1, zi x2, zi x3] h R := zv ⟨[(4, [(10, .b), (11, .i .i64)]), (8, [(13, .i .i64)])], []⟩ Tryz.func102 hv
theorem ZIX {v0 : Value} {x1 : Int} {x2 : Int} (hv :
 CallsH P ZHe #[v0, zi x1, zi 1, zi x2] h fun r12 h_2 => ∃ (p12 : Addr), r12 = .pointer (some p12) ∧
 ldI .i64 h_2 (p12.add 5) fun x16 =>
 bif decide (x16 > 0) then
  ldV h_2 (p12.add 4) fun v21 =>
  R (.tuple #[v21, zi 0]) h_2
 else
  ldB h_2 (p12.add 9) fun b25 =>
  bif b25 then
   R (.tuple #[(.slice none 0 0), zi 5]) h_2
  else
   R (.tuple #[(.slice none 0 0), zi 3]) h_2) : CallsH P ZGv #[v0, zi x1, zi x2] h R := zv ⟨[], []⟩ Tryz.func54 hv
theorem ZwD {v0 : Value} {x1 : Int} {x2 : Int} (hv :
 lq1 (0 : Int) h fun J n x7 h_2 =>
 vLen v0 fun n10 =>
 bif decide (x7 < (n10 : Int)) then
  vIdx v0 x7 1 fun p16 =>
  ldI .i64 h_2 p16 fun x17 =>
  zB Z8 #[zi x17, zi x1, zi x2] h_2 fun b20 h_3 =>
  bif !b20 then
   R (.bool false) h_3
  else
   bif decide (x7 > 0) then
    vIdx v0 (zw (x7 - 1)) 1 fun p29 =>
    ldI .i64 h_3 p29 fun x30 =>
    vIdx v0 x7 1 fun p33 =>
    ldI .i64 h_3 p33 fun x34 =>
    bif decide (x30 ≥ x34) then
     R (.bool false) h_3
    else
     ag1 J n (zw (x7 + 1)) h_3
   else
    ag1 J n (zw (x7 + 1)) h_3
 else
  R (.bool true) h_2) : CallsH P Zkp #[v0, zi x1, zi x2] h R := zv ⟨[(2, [(7, .i .i64)])], []⟩ Tryz.func104 hv
theorem ZJ3 {v0 : Value} (hv :
 vNewS h (.cells #[] Zf) 0 fun v7 h_2 =>
 lq2 v7 (0 : Int) h_2 fun J n v3 x4 h_3 =>
 vLen v0 fun n10 =>
 bif decide (x4 < (n10 : Int)) then
  vLen v3 fun n15 =>
  ∃ J_2 : Int → Heap → Prop, (
   lq1 (n15 : Int) h_3 fun J_3 n_3 x5 h_4 =>
   bif decide (x5 > 0) then
    vIdx v3 (zw (x5 - 1)) 1 fun p22 =>
    ldV h_4 p22 fun v23 =>
    vIdx v0 x4 1 fun p26 =>
    ldV h_4 p26 fun v27 =>
    zI ZeJ #[v23, v27] h_4 fun x28 h_5 =>
    bif decide (x28 > 0) then
     ag1 J_3 n_3 (zw (x5 - 1)) h_5
    else
     J_2 x5 h_5
   else
    J_2 x5 h_4
  ) ∧ ∀ (_ : Env) x5_2 (h_6 : Heap), J_2 x5_2 h_6 →
  vNewS h_6 (.cells #[] Zf) 0 fun v33 h_7 =>
  vSliceS v3 1 none (some (zi x5_2)) none fun v36 =>
  vAppend 1 24 [.slice none 0 0] Zf v33 v36 h_7 fun v37 h_8 =>
  vIdx v0 x4 1 fun p41 =>
  ldV h_8 p41 fun v42 =>
  zV ZfC #[v42] h_8 fun v43 h_9 =>
  vOne v43 fun _ =>
  vNewS h_9 (.cells #[v43] Zf) 1 fun v44 h_10 =>
  vAppend 1 24 [.slice none 0 0] Zf v37 v44 h_10 fun v45 h_11 =>
  vSliceS v3 1 (some (zi x5_2)) none none fun v49 =>
  vAppend 1 24 [.slice none 0 0] Zf v45 v49 h_11 fun v50 h_12 =>
  ag2 J n v50 (zw (x4 + 1)) h_12
 else
  R v3 h_3) : CallsH P ZGX #[v0] h R := zv ⟨[(3, [(3, .v), (4, .i .i64)]), (6, [(5, .i .i64)])], [(8, [(5, .i .i64)])]⟩ Tryz.func105 hv
theorem ZKh {x0_0 : Int} {v0_1 : Value} {x1 : Int} {v2 : Value} (hv :
 vNew h (.cells #[zi x0_0, v0_1] Zlq) fun p3 h_2 =>
 vNew h_2 (.cells #[zi 0, .slice none 0 0] Zij) fun p6 h_3 =>
 zB ZlK #[.pointer (some p3)] h_3 fun b11 h_4 =>
 bif !b11 then
  vStore1 h_4 p6 (zi 0) fun h_5 =>
  vStore1 h_5 (p6.add 1) (.slice none 0 0) fun h_6 =>
  ldI .i64 h_6 p6 fun xres0_0 =>
  ldV h_6 (p6.add 1) fun vres0_1 =>
  R (.tuple #[.agg #[zi xres0_0, vres0_1], zi 1]) h_6
 else
  ldI .i64 h_4 p3 fun x16 =>
  zB Z8 #[zi x1, zi 1, zi x16] h_4 fun b17 h_7 =>
  bif !b17 then
   vStore1 h_7 p6 (zi 0) fun h_8 =>
   vStore1 h_8 (p6.add 1) (.slice none 0 0) fun h_9 =>
   ldI .i64 h_9 p6 fun xres0_0_2 =>
   ldV h_9 (p6.add 1) fun vres0_1_2 =>
   R (.tuple #[.agg #[zi xres0_0_2, vres0_1_2], zi 2]) h_9
  else
   ldI .i64 h_7 p3 fun x21 =>
   zI ZDH #[zi x21, zi x1] h_7 fun x23 h_10 =>
   bif decide (x23 > 2000) then
    vStore1 h_10 p6 (zi 0) fun h_11 =>
    vStore1 h_11 (p6.add 1) (.slice none 0 0) fun h_12 =>
    ldI .i64 h_12 p6 fun xres0_0_3 =>
    ldV h_12 (p6.add 1) fun vres0_1_3 =>
    R (.tuple #[.agg #[zi xres0_0_3, vres0_1_3], zi 5]) h_12
   else
    zV ZE1 #[.pointer (some p3), zi x1] h_10 fun v27 h_13 =>
    vLen v27 fun n30 =>
    zB Zkp #[v2, zi 0, zi (zw ((n30 : Int) - 1))] h_13 fun b32 h_14 =>
    bif !b32 then
     vStore1 h_14 p6 (zi 0) fun h_15 =>
     vStore1 h_15 (p6.add 1) (.slice none 0 0) fun h_16 =>
     ldI .i64 h_16 p6 fun xres0_0_4 =>
     ldV h_16 (p6.add 1) fun vres0_1_4 =>
     R (.tuple #[.agg #[zi xres0_0_4, vres0_1_4], zi 2]) h_16
    else
     vNewS h_14 (.cells #[] Zf) 0 fun v35 h_17 =>
     lq2 v35 (0 : Int) h_17 fun J n v9 x10 h_18 =>
     vLen v2 fun n38 =>
     bif decide (x10 < (n38 : Int)) then
      vIdx v2 x10 1 fun p46 =>
      ldI .i64 h_18 p46 fun x47 =>
      vIdx v27 x47 1 fun p48 =>
      ldV h_18 p48 fun v49 =>
      vAppend 1 24 [.slice none 0 0] Zf v9 v49 h_18 fun v50 h_19 =>
      ag2 J n v50 (zw (x10 + 1)) h_19
     else
      vLen v9 fun n52 =>
      bif decide ((n52 : Int) > 128) then
       vStore1 h_18 p6 (zi 0) fun h_20 =>
       vStore1 h_20 (p6.add 1) (.slice none 0 0) fun h_21 =>
       ldI .i64 h_21 p6 fun xres0_0_5 =>
       ldV h_21 (p6.add 1) fun vres0_1_5 =>
       R (.tuple #[.agg #[zi xres0_0_5, vres0_1_5], zi 5]) h_21
      else
       ∃ B : Nat → Prop,
       zV ZGX #[v9] h_18 fun v58 h_22 =>
       ExtBut B h_18 h_22 ∧
       ldI .i64 (hmask B h_18) p3 fun x56 =>
       vOne v58 fun _ =>
       vStore1 h_22 p6 (zi x56) fun h_23 =>
       vStore1 h_23 (p6.add 1) v58 fun h_24 =>
       ldI .i64 h_24 p6 fun xres0_0_6 =>
       ldV h_24 (p6.add 1) fun vres0_1_6 =>
       R (.tuple #[.agg #[zi xres0_0_6, vres0_1_6], zi 0]) h_24) : CallsH P ZGq #[.agg #[zi x0_0, v0_1], zi x1, v2] h R := zv ⟨[(12, [(9, .v), (10, .i .i64)])], []⟩ Tryz.func55 hv
theorem ZKI {x0_0 : Int} {v0_1 : Value} {x1 : Int} {x2 : Int} {x3 : Int} {x4 : Int} (hv :
 vNew h (.cells #[zi x0_0, v0_1] Zlq) fun p5 h_2 =>
 vNew h_2 (.cells #[zi 0, .slice none 0 0] Zij) fun p10 h_3 =>
 zB ZlK #[.pointer (some p5)] h_3 fun b16 h_4 =>
 bif !b16 then
  vStore1 h_4 p10 (zi 0) fun h_5 =>
  vStore1 h_5 (p10.add 1) (.slice none 0 0) fun h_6 =>
  ldI .i64 h_6 p10 fun xres0_0 =>
  ldV h_6 (p10.add 1) fun vres0_1 =>
  R (.tuple #[.agg #[zi xres0_0, vres0_1], zi 1]) h_6
 else
  zB ZF4 #[zi x4] h_4 fun b20 h_7 =>
  bif !b20 then
   vStore1 h_7 p10 (zi 0) fun h_8 =>
   vStore1 h_8 (p10.add 1) (.slice none 0 0) fun h_9 =>
   ldI .i64 h_9 p10 fun xres0_0_2 =>
   ldV h_9 (p10.add 1) fun vres0_1_2 =>
   R (.tuple #[.agg #[zi xres0_0_2, vres0_1_2], zi 2]) h_9
  else
   ldI .i64 h_7 p5 fun x24_0 =>
   ldV h_7 (p5.add 1) fun v24_1 =>
   CallsH P ZGj #[.agg #[zi x24_0, v24_1], zi x1, zi x2] h_7 fun r27 h_10 => ∃ (v27_0 : Value), ∃ x27_1, r27 = .tuple #[v27_0, zi x27_1] ∧
   bif x27_1 != 0 then
    vStore1 h_10 p10 (zi 0) fun h_11 =>
    vStore1 h_11 (p10.add 1) (.slice none 0 0) fun h_12 =>
    ldI .i64 h_12 p10 fun xres0_0_3 =>
    ldV h_12 (p10.add 1) fun vres0_1_3 =>
    R (.tuple #[.agg #[zi xres0_0_3, vres0_1_3], zi x27_1]) h_12
   else
    ∃ J : Heap → Prop, (
     bif x2 == 0 then
      vStore1 h_10 p10 (zi 0) fun h_13 =>
      vStore1 h_13 (p10.add 1) (.slice none 0 0) fun h_14 =>
      ldI .i64 h_14 p10 fun xres0_0_4 =>
      ldV h_14 (p10.add 1) fun vres0_1_4 =>
      R (.tuple #[.agg #[zi xres0_0_4, vres0_1_4], zi 2]) h_14
     else
      zB ZHb #[zi x3] h_10 fun b38 h_15 =>
      bif !b38 then
       vStore1 h_15 p10 (zi 0) fun h_16 =>
       vStore1 h_16 (p10.add 1) (.slice none 0 0) fun h_17 =>
       ldI .i64 h_17 p10 fun xres0_0_5 =>
       ldV h_17 (p10.add 1) fun vres0_1_5 =>
       R (.tuple #[.agg #[zi xres0_0_5, vres0_1_5], zi 2]) h_17
      else
       J h_15
    ) ∧ ∀ (_ : Env) (h_18 : Heap), J h_18 →
    CallsH P ZGv #[v27_0, zi x3, zi x4] h_18 fun r46 h_19 => ∃ (v46_0 : Value), ∃ x46_1, r46 = .tuple #[v46_0, zi x46_1] ∧
    bif x46_1 != 0 then
     vStore1 h_19 p10 (zi 0) fun h_20 =>
     vStore1 h_20 (p10.add 1) (.slice none 0 0) fun h_21 =>
     ldI .i64 h_21 p10 fun xres0_0_6 =>
     ldV h_21 (p10.add 1) fun vres0_1_6 =>
     R (.tuple #[.agg #[zi xres0_0_6, vres0_1_6], zi x46_1]) h_21
    else
     ldI .i64 h_19 p5 fun x53_0 =>
     ldV h_19 (p5.add 1) fun v53_1 =>
     CallsH P ZGq #[.agg #[zi x53_0, v53_1], zi x2, v46_0] h_19 fun r56 h_22 => ∃ x56_0_0, ∃ (v56_0_1 : Value), ∃ x56_1, r56 = .tuple #[.agg #[zi x56_0_0, v56_0_1], zi x56_1] ∧
     vStore1 h_22 p10 (zi x56_0_0) fun h_23 =>
     vStore1 h_23 (p10.add 1) v56_0_1 fun h_24 =>
     ldI .i64 h_24 p10 fun xres0_0_7 =>
     ldV h_24 (p10.add 1) fun vres0_1_7 =>
     R (.tuple #[.agg #[zi xres0_0_7, vres0_1_7], zi x56_1]) h_24) : CallsH P ZGY #[.agg #[zi x0_0, v0_1], zi x1, zi x2, zi x3, zi x4] h R := zv ⟨[], [(10, [])]⟩ Tryz.func11 hv
theorem ZrE {v0 : Value} (hv :
 vLen v0 fun n6 =>
 vMake 8 [zi 0] Zh (n6 : Int) (n6 : Int) h fun v7 h_2 =>
 lq1 (0 : Int) h_2 fun J n x4 h_3 =>
 vLen v0 fun n10 =>
 bif decide (x4 < (n10 : Int)) then
  vIdx v0 x4 1 fun p18 =>
  ldI .i64 h_3 p18 fun x19 =>
  vIdx v7 x4 1 fun p20 =>
  vStore1 h_3 p20 (zi x19) fun h_4 =>
  ag1 J n (zw (x4 + 1)) h_4
 else
  R v7 h_3) : CallsH P Zlm #[v0] h R := zv ⟨[(3, [(4, .i .i64)])], []⟩ Tryz.func106 hv
theorem Zq0 {v0 : Value} (hv :
 vLen v0 fun n6 =>
 vMake 24 [.slice none 0 0] Zf (n6 : Int) (n6 : Int) h fun v7 h_2 =>
 lq1 (0 : Int) h_2 fun J n x4 h_3 =>
 vLen v0 fun n10 =>
 bif decide (x4 < (n10 : Int)) then
  vIdx v0 x4 1 fun p18 =>
  ldV h_3 p18 fun v19 =>
  zV Zlm #[v19] h_3 fun v20 h_4 =>
  vIdx v7 x4 1 fun p21 =>
  vStore1 h_4 p21 v20 fun h_5 =>
  ag1 J n (zw (x4 + 1)) h_5
 else
  R v7 h_3) : CallsH P ZlJ #[v0] h R := zv ⟨[(3, [(4, .i .i64)])], []⟩ Tryz.func56 hv
theorem ZKt {x0_0 : Int} {v0_1 : Value} (hv :
 vNew h (.cells #[zi x0_0, v0_1] ZGA) fun p1 h_2 =>
 vNew h_2 (.cells #[zi 0, .slice none 0 0] Zlq) fun p2 h_3 =>
 vNew h_3 (.cells #[zi 0, .slice none 0 0] Zlq) fun p3 h_4 =>
 ldI .i64 h_4 p1 fun x5 =>
 vStore1 h_4 p3 (zi x5) fun h_5 =>
 ldV h_5 (p1.add 1) fun v8 =>
 zV ZlJ #[v8] h_5 fun v9 h_6 =>
 vStore1 h_6 (p3.add 1) v9 fun h_7 =>
 ldI .i64 h_7 p3 fun x11_0 =>
 ldV h_7 (p3.add 1) fun v11_1 =>
 vStore1 h_7 p2 (zi x11_0) fun h_8 =>
 vStore1 h_8 (p2.add 1) v11_1 fun h_9 =>
 ldI .i64 h_9 p2 fun xres0_0 =>
 ldV h_9 (p2.add 1) fun vres0_1 =>
 R (.agg #[zi xres0_0, vres0_1]) h_9) : CallsH P ZEz #[.agg #[zi x0_0, v0_1]] h R := zv ⟨[], []⟩ Tryz.func12 hv
theorem Zp0 {x0 : Int} {x1 : Int} {x2 : Int} (hv :
 bif decide (x0 ≥ x1) then
  R (.bool (decide (x0 ≤ x2))) h
 else
  R (.bool false) h) : CallsH P Zab #[zi x0, zi x1, zi x2] h R := zv ⟨[], []⟩ Tryz.func107 hv
theorem Zv4 {v0 : Value} {g1 : Nat} {cap1 : List Value} (hv :
 vLen v0 fun n7 =>
 lq1 (0 : Int) h fun J n x8 h_2 =>
 bif decide (x8 < (n7 : Int)) then
  vIdx v0 x8 1 fun p14 =>
  ldV h_2 p14 fun v15 =>
  vOkf ctx g1 fun _ =>
  CallsH P g1 (([v15] : List Value) ++ cap1).toArray h_2 fun r16 h_3 => ∃ (b16 : Bool), r16 = .bool b16 ∧
  bif b16 then
   R (zi x8) h_3
  else
   ag1 J n (zw (x8 + 1)) h_3
 else
  R (zi (-1)) h_2) : CallsH P ZhU #[v0, .func (.func g1) #[] cap1.toArray] h R := zv ⟨[(2, [(8, .i .i64)])], []⟩ Tryz.func202 hv
theorem Zp9 {v0 : Value} {g1 : Nat} {cap1 : List Value} (hv :
 zI ZhU #[v0, .func (.func g1) #[] cap1.toArray] h fun x7 h_2 =>
 R (.bool (decide (x7 ≥ 0))) h_2) : CallsH P Ze2 #[v0, .func (.func g1) #[] cap1.toArray] h R := zv ⟨[], []⟩ Tryz.func151 hv
theorem Zr5 {v0 : Value} (hv :
 vLen v0 fun n4 =>
 R (zi (n4 : Int)) h) : CallsH P ZaA #[v0] h R := zv ⟨[], []⟩ Tryz.func153 hv
theorem ZtQ {v0 : Value} (hv :
 vNilS false v0 fun b4 =>
 bif b4 then
  R (.slice none 0 0) h
 else
  vNewS h (.cells #[] Zh) 0 fun v5 h_2 =>
  vAppend 1 8 [zi 0] Zh v5 v0 h_2 fun v7 h_3 =>
  R v7 h_3) : CallsH P Zep #[v0] h R := zv ⟨[], []⟩ Tryz.func203 hv
theorem Zpb {v0 : Value} (hv :
 zV Zep #[v0] h fun v7 h_2 =>
 CallsH P Zmd #[v7] h_2 fun r9 h_3 => r9 = .tuple #[] ∧
 vLen v7 fun n11 =>
 lq1 (0 : Int) h_3 fun J n x12 h_4 =>
 bif decide (x12 < (n11 : Int)) then
  vIdx v7 x12 1 fun p15 =>
  ldI .i64 h_4 p15 fun x16 =>
  bif x16 != x12 then
   R (.bool false) h_4
  else
   ag1 J n (zw (x12 + 1)) h_4
 else
  vLen v0 fun n22 =>
  R (.bool (decide ((n22 : Int) ≤ 32))) h_4) : CallsH P Zgt #[v0] h R := zv ⟨[(4, [(12, .i .i64)])], []⟩ Tryz.func154 hv
theorem ZoJ {v0 : Value} {p1 : Addr} (hv :
 ∃ B : Nat → Prop,
 zI ZaA #[v0] h fun x5 h_2 =>
 ExtBut B h h_2 ∧
 ldI .i64 (hmask B h) p1 fun x6 =>
 bif x5 != x6 then
  R (.bool true) h_2
 else
  zB Zgt #[v0] h_2 fun b10 h_3 =>
  R (.bool (!b10)) h_3) : CallsH P Zh8 #[v0, .pointer (some p1)] h R := zv ⟨[], []⟩ Tryz.func152 hv
theorem Zuh {x0 : Int} {v1 : Value} (hv :
 vNew h (.cells #[zi x0] Zh) fun p2 h_2 =>
 zB Ze2 #[v1, .func (.func Zh8) #[] #[.pointer (some p2)]] h_2 fun b7 h_3 =>
 R (.bool (!b7)) h_3) : CallsH P Zhk #[zi x0, v1] h R := zv ⟨[], []⟩ Tryz.func108 hv
theorem ZrR {x0 : Int} (hv :
 R (.bool (x0 != x0)) h) : CallsH P ZgM #[zi x0] h R := zv ⟨[], []⟩ Tryz.func205 hv
theorem ZsM {x0 : Int} {x1 : Int} (hv :
 zB ZgM #[zi x0] h fun b8 h_2 =>
 zB ZgM #[zi x1] h_2 fun b10 h_3 =>
 bif b8 then
  bif b10 then
   R (zi 0) h_3
  else
   R (zi (-1)) h_3
 else
  bif b10 then
   R (zi 1) h_3
  else
   bif decide (x0 < x1) then
    R (zi (-1)) h_3
   else
    bif decide (x0 > x1) then
     R (zi 1) h_3
    else
     R (zi 0) h_3) : CallsH P Zf6 #[zi x0, zi x1] h R := zv ⟨[], []⟩ Tryz.func155 hv
theorem Zst {v0 : Value} {v1 : Value} (hv :
 vLen v0 fun n10 =>
 lq1 (0 : Int) h fun J n x11 h_2 =>
 bif decide (x11 < (n10 : Int)) then
  vIdx v0 x11 1 fun p14 =>
  ldI .i64 h_2 p14 fun x15 =>
  vLen v1 fun n18 =>
  bif decide (x11 ≥ (n18 : Int)) then
   R (zi 1) h_2
  else
   vIdx v1 x11 1 fun p22 =>
   ldI .i64 h_2 p22 fun x23 =>
   zI Zf6 #[zi x15, zi x23] h_2 fun x26 h_3 =>
   bif x26 != 0 then
    R (zi x26) h_3
   else
    ag1 J n (zw (x11 + 1)) h_3
 else
  vLen v0 fun n32 =>
  vLen v1 fun n34 =>
  bif decide ((n32 : Int) < (n34 : Int)) then
   R (zi (-1)) h_2
  else
   R (zi 0) h_2) : CallsH P ZdQ #[v0, v1] h R := zv ⟨[(2, [(11, .i .i64)])], []⟩ Tryz.func109 hv
theorem Ztn {x0 : Int} (hv :
 vMake 8 [zi 0] Zh x0 x0 h fun v6 h_2 =>
 vLen v6 fun n8 =>
 lq1 (0 : Int) h_2 fun J n x9 h_3 =>
 bif decide (x9 < (n8 : Int)) then
  vIdx v6 x9 1 fun p15 =>
  vStore1 h_3 p15 (zi x9) fun h_4 =>
  ag1 J n (zw (x9 + 1)) h_4
 else
  R v6 h_3) : CallsH P ZiD #[zi x0] h R := zv ⟨[(3, [(9, .i .i64)])], []⟩ Tryz.func206 hv
theorem Zqb {v0 : Value} (hv :
 vLen v0 fun n7 =>
 vMake 1 [.int .u8 0] ZsO (n7 : Int) (n7 : Int) h fun v8 h_2 =>
 vLen v0 fun n10 =>
 lq1 (0 : Int) h_2 fun J n x11 h_3 =>
 bif decide (x11 < (n10 : Int)) then
  vIdx v0 x11 1 fun p14 =>
  ldI .i64 h_3 p14 fun x15 =>
  vIdx v8 x11 1 fun p20 =>
  vStore1 h_3 p20 (.int .u8 (IntKind.u8.wrap x15)) fun h_4 =>
  ag1 J n (zw (x11 + 1)) h_4
 else
  vB2S v8 h_3 fun s23 =>
  R (.string s23) h_3) : CallsH P ZgW #[v0] h R := zv ⟨[(3, [(11, .i .i64)])], []⟩ Tryz.func207 hv
theorem ZsT {v0 : Value} {v1 : Value} (hv :
 vLen v0 fun n8 =>
 vMake 8 [zi 0] Zh (n8 : Int) (n8 : Int) h fun v9 h_2 =>
 vLen v9 fun n11 =>
 lq1 (0 : Int) h_2 fun J n x12 h_3 =>
 bif decide (x12 < (n11 : Int)) then
  vIdx v0 x12 1 fun p20 =>
  ldI .i64 h_3 p20 fun x21 =>
  vIdx v1 x21 1 fun p22 =>
  ldI .i64 h_3 p22 fun x23 =>
  vIdx v9 x12 1 fun p24 =>
  vStore1 h_3 p24 (zi x23) fun h_4 =>
  ag1 J n (zw (x12 + 1)) h_4
 else
  R v9 h_3) : CallsH P ZkQ #[v0, v1] h R := zv ⟨[(3, [(12, .i .i64)])], []⟩ Tryz.func208 hv
theorem ZpA {x0 : Int} {v1 : Value} (hv :
 zV ZiD #[zi x0] h fun v14 h_2 =>
 vOne v14 fun _ =>
 vNewS h_2 (.cells #[v14] Zf) 1 fun v15 h_3 =>
 vMapNew h_3 fun v16 h_4 =>
 vIdx v15 0 1 fun p18 =>
 ldV h_4 p18 fun v19 =>
 zS ZgW #[v19] h_4 fun s20 h_5 =>
 vMapSet .str v16 (.string s20) (.bool true) h_5 fun h_6 =>
 lq2 v15 (0 : Int) h_6 fun J n v6 x8 h_7 =>
 vLen v6 fun n24 =>
 bif decide (x8 < (n24 : Int)) then
  vLen v1 fun n29 =>
  lq2 v6 (0 : Int) h_7 fun J_2 n_3 v6_2 x30 h_8 =>
  bif decide (x30 < (n29 : Int)) then
   vIdx v1 x30 1 fun p32 =>
   ldV h_8 p32 fun v33 =>
   vIdx v6_2 x8 1 fun p36 =>
   ldV h_8 p36 fun v37 =>
   zV ZkQ #[v37, v33] h_8 fun v39 h_9 =>
   zS ZgW #[v39] h_9 fun s41 h_10 =>
   mapGetB .str v16 (.string s41) h_10 fun b44 =>
   bif !b44 then
    vMapSet .str v16 (.string s41) (.bool true) h_10 fun h_11 =>
    vOne v39 fun _ =>
    vNewS h_11 (.cells #[v39] Zf) 1 fun v50 h_12 =>
    vAppend 1 24 [.slice none 0 0] Zf v6_2 v50 h_12 fun v51 h_13 =>
    ag2 J_2 n_3 v51 (zw (x30 + 1)) h_13
   else
    ag2 J_2 n_3 v6_2 (zw (x30 + 1)) h_10
  else
   vLen v6_2 fun n54 =>
   bif decide ((n54 : Int) > 720) then
    R (.tuple #[(.slice none 0 0), .bool false]) h_8
   else
    ag2 J n v6_2 (zw (x8 + 1)) h_8
 else
  CallsH P ZmQ #[v6, .func (.func ZdQ) #[] #[]] h_7 fun r57 h_14 => r57 = .tuple #[] ∧
  R (.tuple #[v6, .bool true]) h_14) : CallsH P Zhd #[zi x0, v1] h R := zv ⟨[(4, [(6, .v), (8, .i .i64)]), (7, [(6, .v), (30, .i .i64)])], []⟩ Tryz.func156 hv
theorem Zt9 {v0 : Value} {v1 : Value} {g2 : Nat} {cap2 : List Value} (hv :
 vLen v0 fun n13 =>
 lq2 (0 : Int) (n13 : Int) h fun J n x9 x10 h_2 =>
 bif decide (x9 < x10) then
  (0 : Int) ≤ 1 ∧
  vIdx v0 (zw (Int.fdiv (IntKind.u64.wrap (zw (x9 + x10))) (2 ^ min (1 : Int).toNat IntKind.u64.bits))) 1 fun p27 =>
  ldV h_2 p27 fun v28 =>
  vOkf ctx g2 fun _ =>
  CallsH P g2 (([v28, v1] : List Value) ++ cap2).toArray h_2 fun r30 h_3 => ∃ x30, r30 = zi x30 ∧
  bif decide (x30 < 0) then
   ag2 J n (zw ((zw (Int.fdiv (IntKind.u64.wrap (zw (x9 + x10))) (2 ^ min (1 : Int).toNat IntKind.u64.bits))) + 1)) x10 h_3
  else
   ag2 J n x9 (zw (Int.fdiv (IntKind.u64.wrap (zw (x9 + x10))) (2 ^ min (1 : Int).toNat IntKind.u64.bits))) h_3
 else
  bif decide (x9 < (n13 : Int)) then
   vIdx v0 x9 1 fun p43 =>
   ldV h_2 p43 fun v44 =>
   vOkf ctx g2 fun _ =>
   CallsH P g2 (([v44, v1] : List Value) ++ cap2).toArray h_2 fun r46 h_4 => ∃ x46, r46 = zi x46 ∧
   R (.tuple #[zi x9, .bool (x46 == 0)]) h_4
  else
   R (.tuple #[zi x9, .bool false]) h_2) : CallsH P Zkj #[v0, v1, .func (.func g2) #[] cap2.toArray] h R := zv ⟨[(3, [(9, .i .i64), (10, .i .i64)])], []⟩ Tryz.func157 hv
theorem Zra {x0 : Int} {v1 : Value} (hv :
 CallsH P Zhd #[zi x0, (.slice none 0 0)] h fun r16 h_2 => ∃ (v16_0 : Value), ∃ (b16_1 : Bool), r16 = .tuple #[v16_0, .bool b16_1] ∧
 vLen v1 fun n20 =>
 lq4 ((.slice none 0 0) : Value) v16_0 b16_1 (0 : Int) h_2 fun J n v7 v8 b9 x21 h_3 =>
 bif decide (x21 < (n20 : Int)) then
  vIdx v1 x21 1 fun p23 =>
  ldV h_3 p23 fun v24 =>
  ∃ J_2 : Heap → Prop, (
   CallsH P Zkj #[v8, v24, .func (.func ZdQ) #[] #[]] h_3 fun r28 h_4 => ∃ x28_0, ∃ (b28_1 : Bool), r28 = .tuple #[zi x28_0, .bool b28_1] ∧
   bif b28_1 then
    ag4 J n v7 v8 b9 (zw (x21 + 1)) h_4
   else
    bif !b9 then
     ag4 J n v7 v8 b9 (zw (x21 + 1)) h_4
    else
     J_2 h_4
  ) ∧ ∀ (_ : Env) (h_5 : Heap), J_2 h_5 →
  vOne v24 fun _ =>
  vNewS h_5 (.cells #[v24] Zf) 1 fun v38 h_6 =>
  vAppend 1 24 [.slice none 0 0] Zf v7 v38 h_6 fun v39 h_7 =>
  CallsH P Zhd #[zi x0, v39] h_7 fun r43 h_8 => ∃ (v43_0 : Value), ∃ (b43_1 : Bool), r43 = .tuple #[v43_0, .bool b43_1] ∧
  ag4 J n v39 v43_0 b43_1 (zw (x21 + 1)) h_8
 else
  R (.tuple #[v7, v8, .bool b9]) h_3) : CallsH P ZkV #[zi x0, v1] h R := zv ⟨[(4, [(7, .v), (8, .v), (9, .b), (21, .i .i64)])], [(8, [])]⟩ Tryz.func110 hv
theorem Zpz {x0_0 : Int} {v0_1 : Value} (hv :
 vNew h (.cells #[zi x0_0, v0_1] Zlq) fun p1 h_2 =>
 ∃ J : Heap → Prop, (
  ldI .i64 h_2 p1 fun x8 =>
  zB Zab #[zi x8, zi 1, zi 32] h_2 fun b9 h_3 =>
  bif !b9 then
   R (.bool false) h_3
  else
   ldV h_3 (p1.add 1) fun v13 =>
   vLen v13 fun n14 =>
   bif decide ((n14 : Int) < 1) then
    R (.bool false) h_3
   else
    ldV h_3 (p1.add 1) fun v19 =>
    vLen v19 fun n20 =>
    bif decide ((n20 : Int) > 720) then
     R (.bool false) h_3
    else
     ldI .i64 h_3 p1 fun x25 =>
     ldV h_3 (p1.add 1) fun v27 =>
     zB Zhk #[zi x25, v27] h_3 fun b28 h_4 =>
     bif !b28 then
      R (.bool false) h_4
     else
      J h_4
 ) ∧ ∀ (_ : Env) (h_5 : Heap), J h_5 →
 lq1 (1 : Int) h_5 fun J_2 n x3 h_6 =>
 ldV h_6 (p1.add 1) fun v33 =>
 vLen v33 fun n34 =>
 bif decide (x3 < (n34 : Int)) then
  ldV h_6 (p1.add 1) fun v39 =>
  vIdx v39 (zw (x3 - 1)) 1 fun p42 =>
  ldV h_6 p42 fun v43 =>
  ldV h_6 (p1.add 1) fun v45 =>
  vIdx v45 x3 1 fun p47 =>
  ldV h_6 p47 fun v48 =>
  zI ZdQ #[v43, v48] h_6 fun x49 h_7 =>
  bif decide (x49 ≥ 0) then
   R (.bool false) h_7
  else
   ag1 J_2 n (zw (x3 + 1)) h_7
 else
  ldI .i64 h_6 p1 fun x53 =>
  ldV h_6 (p1.add 1) fun v55 =>
  CallsH P ZkV #[zi x53, v55] h_6 fun r56 h_8 => ∃ (v56_0 : Value), ∃ (v56_1 : Value), ∃ (b56_2 : Bool), r56 = .tuple #[v56_0, v56_1, .bool b56_2] ∧
  bif b56_2 then
   vLen v56_1 fun n63 =>
   ldV h_8 (p1.add 1) fun v65 =>
   vLen v65 fun n66 =>
   R (.bool ((n63 : Int) == (n66 : Int))) h_8
  else
   R (.bool false) h_8) : CallsH P Zk7 #[.agg #[zi x0_0, v0_1]] h R := zv ⟨[(4, [(3, .i .i64)])], [(3, [])]⟩ Tryz.func57 hv
theorem ZJy {x0 : Int} (hv :
 zB Zab #[zi x0, zi 1, zi 20000] h fun b4 h_2 =>
 R (.bool b4) h_2) : CallsH P ZF3 #[zi x0] h R := zv ⟨[], []⟩ Tryz.func58 hv
theorem ZJI {x0 : Int} {x1 : Int} (hv :
 ∃ J : Heap → Prop, (
  zB Zab #[zi x0, zi 0, zi 32] h fun b8 h_2 =>
  bif !b8 then
   R (zi 0) h_2
  else
   zB Zab #[zi x1, zi 0, zi x0] h_2 fun b13 h_3 =>
   bif !b13 then
    R (zi 0) h_3
   else
    J h_3
 ) ∧ ∀ (_ : Env) (h_4 : Heap), J h_4 →
 lq2 (1 : Int) (1 : Int) h_4 fun J_2 n x5 x6 h_5 =>
 bif decide (x6 ≤ x1) then
  x6 ≠ 0 ∧
  ag2 J_2 n (zw (Int.tdiv (zw (x5 * (zw ((zw (x0 - x1)) + x6)))) x6)) (zw (x6 + 1)) h_5
 else
  R (zi x5) h_5) : CallsH P ZFo #[zi x0, zi x1] h R := zv ⟨[(5, [(5, .i .i64), (6, .i .i64)])], [(3, [])]⟩ Tryz.func158 hv
theorem ZIK {x0_0 : Int} {v0_1 : Value} {v1 : Value} (hv :
 vNew h (.cells #[zi x0_0, v0_1] Zlq) fun p2 h_2 =>
 ldI .i64 h_2 p2 fun x9_0 =>
 ldV h_2 (p2.add 1) fun v9_1 =>
 zB Zk7 #[.agg #[zi x9_0, v9_1]] h_2 fun b10 h_3 =>
 bif !b10 then
  R (zi 1) h_3
 else
  vLen v1 fun n13 =>
  lq1 (0 : Int) h_3 fun J n x14 h_4 =>
  bif decide (x14 < (n13 : Int)) then
   vIdx v1 x14 1 fun p16 =>
   ldI .i64 h_4 p16 fun x17 =>
   ldI .i64 h_4 p2 fun x20 =>
   zB Zab #[zi x17, zi 0, zi x20] h_4 fun b21 h_5 =>
   bif !b21 then
    R (zi 2) h_5
   else
    ag1 J n (zw (x14 + 1)) h_5
  else
   vLen v1 fun n25 =>
   lq1 (0 : Int) h_4 fun J_2 n_3 x26 h_6 =>
   bif decide (x26 < (n25 : Int)) then
    vIdx v1 x26 1 fun p28 =>
    ldI .i64 h_6 p28 fun x29 =>
    ldI .i64 h_6 p2 fun x31 =>
    zI ZFo #[zi x31, zi x29] h_6 fun x33 h_7 =>
    bif decide (x33 > 2000) then
     R (zi 5) h_7
    else
     ag1 J_2 n_3 (zw (x26 + 1)) h_7
   else
    R (zi 0) h_6) : CallsH P ZFQ #[.agg #[zi x0_0, v0_1], v1] h R := zv ⟨[(4, [(14, .i .i64)]), (10, [(26, .i .i64)])], []⟩ Tryz.func111 hv
theorem Zqy {v0 : Value} {x1 : Int} (hv :
 vLen v0 fun n9 =>
 lq2 ((-1) : Int) (0 : Int) h fun J n x5 x10 h_2 =>
 bif decide (x10 < (n9 : Int)) then
  vIdx v0 x10 1 fun p12 =>
  ldI .i64 h_2 p12 fun x13 =>
  bif decide (x13 ≤ x5) then
   R (.bool false) h_2
  else
   bif decide (x13 ≥ x1) then
    R (.bool false) h_2
   else
    ag2 J n x13 (zw (x10 + 1)) h_2
 else
  zB Zab #[zi x1, zi 0, zi 32] h_2 fun b25 h_3 =>
  R (.bool b25) h_3) : CallsH P Zjg #[v0, zi x1] h R := zv ⟨[(3, [(5, .i .i64), (10, .i .i64)])], []⟩ Tryz.func213 hv
theorem ZJB {x0 : Int} {v1 : Value} (hv :
 zB Zjg #[v1, zi x0] h fun b12 h_2 =>
 bif !b12 then
  R (.tuple #[(.slice none 0 0), .bool false]) h_2
 else
  zI ZaA #[v1] h_2 fun x15 h_3 =>
  lq1 (zw (x15 - 1)) h_3 fun J n x7 h_4 =>
  bif decide (x7 ≥ 0) then
   vIdx v1 x7 1 fun p24 =>
   ldI .i64 h_4 p24 fun x25 =>
   bif x25 == (zw ((zw (x0 - x15)) + x7)) then
    ag1 J n (zw (x7 - 1)) h_4
   else
    zV Zep #[v1] h_4 fun v33 h_5 =>
    lq1 x7 h_5 fun J_2 n_3 x9 h_6 =>
    bif decide (x9 < x15) then
     vIdx v1 x7 1 fun p44 =>
     ldI .i64 h_6 p44 fun x45 =>
     vIdx v33 x9 1 fun p51 =>
     vStore1 h_6 p51 (zi (zw ((zw ((zw (x45 + 1)) + x9)) - x7))) fun h_7 =>
     ag1 J_2 n_3 (zw (x9 + 1)) h_7
    else
     R (.tuple #[v33, .bool true]) h_6
  else
   R (.tuple #[(.slice none 0 0), .bool false]) h_4) : CallsH P ZG6 #[zi x0, v1] h R := zv ⟨[(5, [(7, .i .i64)]), (10, [(9, .i .i64)])], []⟩ Tryz.func209 hv
theorem ZI5 {x0 : Int} {x1 : Int} (hv :
 zV ZiD #[zi x1] h fun v9 h_2 =>
 lq3 ((.slice none 0 0) : Value) v9 ((decide (x1 ≤ x0)) : Bool) h_2 fun J n v5 v6 b7 h_3 =>
 bif b7 then
  vOne v6 fun _ =>
  vNewS h_3 (.cells #[v6] Zf) 1 fun v16 h_4 =>
  vAppend 1 24 [.slice none 0 0] Zf v5 v16 h_4 fun v17 h_5 =>
  CallsH P ZG6 #[zi x0, v6] h_5 fun r21 h_6 => ∃ (v21_0 : Value), ∃ (b21_1 : Bool), r21 = .tuple #[v21_0, .bool b21_1] ∧
  ag3 J n v17 v21_0 b21_1 h_6
 else
  R v5 h_3) : CallsH P ZGT #[zi x0, zi x1] h R := zv ⟨[(3, [(5, .v), (6, .v), (7, .b)])], []⟩ Tryz.func159 hv
theorem ZKs {v0 : Value} {v1 : Value} (hv :
 vLen v1 fun n9 =>
 lq2 ((.slice none 0 0) : Value) (0 : Int) h fun J n v5 x10 h_2 =>
 bif decide (x10 < (n9 : Int)) then
  vIdx v1 x10 1 fun p12 =>
  ldI .i64 h_2 p12 fun x13 =>
  vIdx v0 x13 1 fun p17 =>
  ldI .i64 h_2 p17 fun x18 =>
  vNewS h_2 (.cells #[zi x18] Zh) 1 fun v19 h_3 =>
  vAppend 1 8 [zi 0] Zh v5 v19 h_3 fun v20 h_4 =>
  ag2 J n v20 (zw (x10 + 1)) h_4
 else
  CallsH P Zmd #[v5] h_2 fun r23 h_5 => r23 = .tuple #[] ∧
  R v5 h_5) : CallsH P ZGd #[v0, v1] h R := zv ⟨[(3, [(5, .v), (10, .i .i64)])], []⟩ Tryz.func210 hv
theorem ZJg {v0 : Value} {g1 : Nat} {cap1 : List Value} (hv :
 vLen v0 fun n9 =>
 bif decide ((n9 : Int) < 2) then
  R v0 h
 else
  lq1 (1 : Int) h fun J n x5 h_2 =>
  vLen v0 fun n14 =>
  bif decide (x5 < (n14 : Int)) then
   vIdx v0 x5 1 fun p21 =>
   ldV h_2 p21 fun v22 =>
   vIdx v0 (zw (x5 - 1)) 1 fun p26 =>
   ldV h_2 p26 fun v27 =>
   vOkf ctx g1 fun _ =>
   CallsH P g1 (([v22, v27] : List Value) ++ cap1).toArray h_2 fun r28 h_3 => ∃ (b28 : Bool), r28 = .bool b28 ∧
   bif b28 then
    vSliceS v0 1 (some (zi x5)) none none fun v31 =>
    lq2 x5 (1 : Int) h_3 fun J_2 n_3 x5_2 x7 h_4 =>
    vLen v31 fun n34 =>
    bif decide (x7 < (n34 : Int)) then
     vIdx v31 x7 1 fun p41 =>
     ldV h_4 p41 fun v42 =>
     vIdx v31 (zw (x7 - 1)) 1 fun p46 =>
     ldV h_4 p46 fun v47 =>
     vOkf ctx g1 fun _ =>
     CallsH P g1 (([v42, v47] : List Value) ++ cap1).toArray h_4 fun r48 h_5 => ∃ (b48 : Bool), r48 = .bool b48 ∧
     bif !b48 then
      vIdx v31 x7 1 fun p54 =>
      ldV h_5 p54 fun v55 =>
      vIdx v0 x5_2 1 fun p56 =>
      vStore1 h_5 p56 v55 fun h_6 =>
      ag2 J_2 n_3 (zw (x5_2 + 1)) (zw (x7 + 1)) h_6
     else
      ag2 J_2 n_3 x5_2 (zw (x7 + 1)) h_5
    else
     vSliceS v0 1 (some (zi x5_2)) none none fun v61 =>
     vClear [.slice none 0 0] v61 h_4 fun _ h_7 =>
     vSliceS v0 1 none (some (zi x5_2)) none fun v64 =>
     R v64 h_7
   else
    ag1 J n (zw (x5 + 1)) h_3
  else
   R v0 h_2) : CallsH P ZGp #[v0, .func (.func g1) #[] cap1.toArray] h R := zv ⟨[(4, [(5, .i .i64)]), (9, [(5, .i .i64), (7, .i .i64)])], []⟩ Tryz.func211 hv
theorem Zsp {v0 : Value} {v1 : Value} (hv :
 vLen v0 fun n7 =>
 vLen v1 fun n9 =>
 bif (n7 : Int) != (n9 : Int) then
  R (.bool false) h
 else
  vLen v0 fun n12 =>
  lq1 (0 : Int) h fun J n x13 h_2 =>
  bif decide (x13 < (n12 : Int)) then
   vIdx v0 x13 1 fun p18 =>
   ldI .i64 h_2 p18 fun x19 =>
   vIdx v1 x13 1 fun p22 =>
   ldI .i64 h_2 p22 fun x23 =>
   bif x19 != x23 then
    R (.bool false) h_2
   else
    ag1 J n (zw (x13 + 1)) h_2
  else
   R (.bool true) h_2) : CallsH P Zh3 #[v0, v1] h R := zv ⟨[(4, [(13, .i .i64)])], []⟩ Tryz.func212 hv
theorem ZKB {x0_0 : Int} {v0_1 : Value} {v1 : Value} (hv :
 vNew h (.cells #[zi x0_0, v0_1] Zlq) fun p2 h_2 =>
 ldV h_2 (p2.add 1) fun v9 =>
 vLen v9 fun n10 =>
 lq2 ((.slice none 0 0) : Value) (0 : Int) h_2 fun J n v5 x11 h_3 =>
 bif decide (x11 < (n10 : Int)) then
  vIdx v9 x11 1 fun p13 =>
  ldV h_3 p13 fun v14 =>
  zV ZGd #[v14, v1] h_3 fun v18 h_4 =>
  vOne v18 fun _ =>
  vNewS h_4 (.cells #[v18] Zf) 1 fun v19 h_5 =>
  vAppend 1 24 [.slice none 0 0] Zf v5 v19 h_5 fun v20 h_6 =>
  ag2 J n v20 (zw (x11 + 1)) h_6
 else
  CallsH P ZmQ #[v5, .func (.func ZdQ) #[] #[]] h_3 fun r23 h_7 => r23 = .tuple #[] ∧
  zV ZGp #[v5, .func (.func Zh3) #[] #[]] h_7 fun v25 h_8 =>
  R v25 h_8) : CallsH P ZG1 #[.agg #[zi x0_0, v0_1], v1] h R := zv ⟨[(3, [(5, .v), (11, .i .i64)])], []⟩ Tryz.func160 hv
theorem ZJL {x0 : Int} {v1 : Value} (hv :
 zB Zjg #[v1, zi x0] h fun b13 h_2 =>
 bif !b13 then
  R (.tuple #[zi 0, zi 1]) h_2
 else
  vLen v1 fun n16 =>
  lq3 (0 : Int) (0 : Int) (0 : Int) h_2 fun J n x6 x7 x17 h_3 =>
  bif decide (x17 < (n16 : Int)) then
   vIdx v1 x17 1 fun p20 =>
   ldI .i64 h_3 p20 fun x21 =>
   lq2 x6 x7 h_3 fun J_2 n_3 x6_2 x10 h_4 =>
   bif decide (x10 < x21) then
    zI ZaA #[v1] h_4 fun x34 h_5 =>
    zI ZFo #[zi (zw ((zw (x0 - 1)) - x10)), zi (zw ((zw (x34 - 1)) - x17))] h_5 fun x38 h_6 =>
    ag2 J_2 n_3 (zw (x6_2 + x38)) (zw (x10 + 1)) h_6
   else
    ag3 J n x6_2 (zw (x21 + 1)) (zw (x17 + 1)) h_4
  else
   R (.tuple #[zi x6, zi 0]) h_3) : CallsH P ZGM #[zi x0, v1] h R := zv ⟨[(5, [(6, .i .i64), (7, .i .i64), (17, .i .i64)]), (8, [(6, .i .i64), (10, .i .i64)])], []⟩ Tryz.func161 hv
theorem ZKn {x0_0 : Int} {v0_1 : Value} {x1 : Int} (hv :
 vNew h (.cells #[zi x0_0, v0_1] Zlq) fun p2 h_2 =>
 ldI .i64 h_2 p2 fun x15 =>
 zI ZFo #[zi x15, zi x1] h_2 fun x17 h_3 =>
 vMake 1 [.bool false] ZGn x17 x17 h_3 fun v18 h_4 =>
 ldI .i64 h_4 p2 fun x20 =>
 zV ZGT #[zi x20, zi x1] h_4 fun v22 h_5 =>
 vLen v22 fun n23 =>
 lq2 ((.slice none 0 0) : Value) (0 : Int) h_5 fun J n v6 x24 h_6 =>
 bif decide (x24 < (n23 : Int)) then
  vIdx v22 x24 1 fun p27 =>
  ldV h_6 p27 fun v28 =>
  vIdx v18 x24 1 fun p31 =>
  ldB h_6 p31 fun b32 =>
  bif b32 then
   ag2 J n v6 (zw (x24 + 1)) h_6
  else
   ldI .i64 h_6 p2 fun x33_0 =>
   ldV h_6 (p2.add 1) fun v33_1 =>
   zV ZG1 #[.agg #[zi x33_0, v33_1], v28] h_6 fun v35 h_7 =>
   vLen v35 fun n37 =>
   lq1 (0 : Int) h_7 fun J_2 n_3 x38 h_8 =>
   bif decide (x38 < (n37 : Int)) then
    vIdx v35 x38 1 fun p40 =>
    ldV h_8 p40 fun v41 =>
    ldI .i64 h_8 p2 fun x44 =>
    CallsH P ZGM #[zi x44, v41] h_8 fun r46 h_9 => ∃ x46_0, ∃ x46_1, r46 = .tuple #[zi x46_0, zi x46_1] ∧
    vIdx v18 x46_0 1 fun p51 =>
    vStore1 h_9 p51 (.bool true) fun h_10 =>
    ag1 J_2 n_3 (zw (x38 + 1)) h_10
   else
    vOne v35 fun _ =>
    vNewS h_8 (.cells #[v35] Zta) 1 fun v55 h_11 =>
    vAppend 1 24 [.slice none 0 0] Zta v6 v55 h_11 fun v56 h_12 =>
    ag2 J n v56 (zw (x24 + 1)) h_12
 else
  R v6 h_6) : CallsH P ZER #[.agg #[zi x0_0, v0_1], zi x1] h R := zv ⟨[(4, [(6, .v), (24, .i .i64)]), (9, [(38, .i .i64)])], []⟩ Tryz.func112 hv
theorem ZqW {v0 : Value} {g1 : Nat} {cap1 : List Value} (hv :
 vLen v0 fun n7 =>
 lq1 (0 : Int) h fun J n x8 h_2 =>
 bif decide (x8 < (n7 : Int)) then
  vIdx v0 x8 1 fun p14 =>
  ldI .i64 h_2 p14 fun x15 =>
  vOkf ctx g1 fun _ =>
  CallsH P g1 (([zi x15] : List Value) ++ cap1).toArray h_2 fun r16 h_3 => ∃ (b16 : Bool), r16 = .bool b16 ∧
  bif b16 then
   R (zi x8) h_3
  else
   ag1 J n (zw (x8 + 1)) h_3
 else
  R (zi (-1)) h_2) : CallsH P ZkR #[v0, .func (.func g1) #[] cap1.toArray] h R := zv ⟨[(2, [(8, .i .i64)])], []⟩ Tryz.func214 hv
theorem Ztb {v0 : Value} {g1 : Nat} {cap1 : List Value} (hv :
 zI ZkR #[v0, .func (.func g1) #[] cap1.toArray] h fun x7 h_2 =>
 R (.bool (decide (x7 ≥ 0))) h_2) : CallsH P ZcM #[v0, .func (.func g1) #[] cap1.toArray] h R := zv ⟨[], []⟩ Tryz.func162 hv
theorem ZJU {v0 : Value} {x1 : Int} (hv :
 vLen v0 fun n7 =>
 lq1 (0 : Int) h fun J n x8 h_2 =>
 bif decide (x8 < (n7 : Int)) then
  vIdx v0 x8 1 fun p14 =>
  ldI .i64 h_2 p14 fun x15 =>
  bif x1 == x15 then
   R (zi x8) h_2
  else
   ag1 J n (zw (x8 + 1)) h_2
 else
  R (zi (-1)) h_2) : CallsH P ZHf #[v0, zi x1] h R := zv ⟨[(2, [(8, .i .i64)])], []⟩ Tryz.func215 hv
theorem ZJ0 {v0 : Value} {x1 : Int} (hv :
 zI ZHf #[v0, zi x1] h fun x7 h_2 =>
 R (.bool (decide (x7 ≥ 0))) h_2) : CallsH P ZGG #[v0, zi x1] h R := zv ⟨[], []⟩ Tryz.func164 hv
theorem ZKe {x0 : Int} {p1 : Addr} (hv :
 ldV h p1 fun v4 =>
 zB ZGG #[v4, zi x0] h fun b6 h_2 =>
 R (.bool (!b6)) h_2) : CallsH P ZGb #[zi x0, .pointer (some p1)] h R := zv ⟨[], []⟩ Tryz.func163 hv
theorem ZJz {v0 : Value} {v1 : Value} (hv :
 vOne v0 fun _ =>
 vNew h (.cells #[v0] Zf) fun p2 h_2 =>
 zB ZcM #[v1, .func (.func ZGb) #[] #[.pointer (some p2)]] h_2 fun b7 h_3 =>
 R (.bool (!b7)) h_3) : CallsH P ZGk #[v0, v1] h R := zv ⟨[], []⟩ Tryz.func113 hv
theorem ZJ9 {x0_0 : Int} {v0_1 : Value} {x1 : Int} {x2 : Int} (hv :
 vNew h (.cells #[zi x0_0, v0_1] Zlq) fun p3 h_2 =>
 ∃ J : Heap → Prop, (
  ldI .i64 h_2 p3 fun x20_0 =>
  ldV h_2 (p3.add 1) fun v20_1 =>
  zB Zk7 #[.agg #[zi x20_0, v20_1]] h_2 fun b21 h_3 =>
  bif !b21 then
   R (.tuple #[(.slice none 0 0), zi 1]) h_3
  else
   zB Zab #[zi x1, zi 0, zi x2] h_3 fun b26 h_4 =>
   bif !b26 then
    R (.tuple #[(.slice none 0 0), zi 2]) h_4
   else
    ldI .i64 h_4 p3 fun x31 =>
    bif decide (x2 > x31) then
     R (.tuple #[(.slice none 0 0), zi 2]) h_4
    else
     J h_4
 ) ∧ ∀ (_ : Env) (h_5 : Heap), J h_5 →
 ldI .i64 h_5 p3 fun x34_0 =>
 ldV h_5 (p3.add 1) fun v34_1 =>
 vNewS h_5 (.cells #[zi x1, zi x2] Zh) 2 fun v37 h_6 =>
 zI ZFQ #[.agg #[zi x34_0, v34_1], v37] h_6 fun x38 h_7 =>
 bif x38 != 0 then
  R (.tuple #[(.slice none 0 0), zi x38]) h_7
 else
  ldI .i64 h_7 p3 fun x42_0 =>
  ldV h_7 (p3.add 1) fun v42_1 =>
  zV ZER #[.agg #[zi x42_0, v42_1], zi x2] h_7 fun v44 h_8 =>
  ldI .i64 h_8 p3 fun x45_0 =>
  ldV h_8 (p3.add 1) fun v45_1 =>
  zV ZER #[.agg #[zi x45_0, v45_1], zi x1] h_8 fun v47 h_9 =>
  vLen v47 fun n48 =>
  lq2 ((.slice none 0 0) : Value) (0 : Int) h_9 fun J_2 n v10 x49 h_10 =>
  bif decide (x49 < (n48 : Int)) then
   vIdx v47 x49 1 fun p51 =>
   ldV h_10 p51 fun v52 =>
   vLen v44 fun n54 =>
   lq2 ((.slice none 0 0) : Value) (0 : Int) h_10 fun J_3 n_3 v13 x55 h_11 =>
   bif decide (x55 < (n54 : Int)) then
    vIdx v44 x55 1 fun p57 =>
    ldV h_11 p57 fun v58 =>
    vLen v58 fun n60 =>
    lq2 (0 : Int) (0 : Int) h_11 fun J_4 n_5 x16 x61 h_12 =>
    bif decide (x61 < (n60 : Int)) then
     vIdx v58 x61 1 fun p63 =>
     ldV h_12 p63 fun v64 =>
     vIdx v52 0 1 fun p67 =>
     ldV h_12 p67 fun v68 =>
     zB ZGk #[v64, v68] h_12 fun b69 h_13 =>
     bif b69 then
      ag2 J_4 n_5 (zw (x16 + 1)) (zw (x61 + 1)) h_13
     else
      ag2 J_4 n_5 x16 (zw (x61 + 1)) h_13
    else
     vNewS h_12 (.cells #[zi x16] Zh) 1 fun v75 h_14 =>
     vAppend 1 8 [zi 0] Zh v13 v75 h_14 fun v76 h_15 =>
     ag2 J_3 n_3 v76 (zw (x55 + 1)) h_15
   else
    vOne v13 fun _ =>
    vNewS h_11 (.cells #[v13] Zf) 1 fun v80 h_16 =>
    vAppend 1 24 [.slice none 0 0] Zf v10 v80 h_16 fun v81 h_17 =>
    ag2 J_2 n v81 (zw (x49 + 1)) h_17
  else
   R (.tuple #[v10, zi 0]) h_10) : CallsH P ZGF #[.agg #[zi x0_0, v0_1], zi x1, zi x2] h R := zv ⟨[(11, [(10, .v), (49, .i .i64)]), (15, [(13, .v), (55, .i .i64)]), (19, [(16, .i .i64), (61, .i .i64)])], [(5, [])]⟩ Tryz.func59 hv
theorem Zq8 {v0 : Value} (hv :
 vLen v0 fun n4 =>
 R (zi (n4 : Int)) h) : CallsH P ZbG #[v0] h R := zv ⟨[], []⟩ Tryz.func165 hv
theorem ZwE {x0 : Int} {p1 : Addr} (hv :
 ldI .i64 h p1 fun x5 =>
 zB Zab #[zi x0, zi 0, zi (zw (x5 - 1))] h fun b7 h_2 =>
 R (.bool (!b7)) h_2) : CallsH P Zkv #[zi x0, .pointer (some p1)] h R := zv ⟨[], []⟩ Tryz.func216 hv
theorem Zqu {x0 : Int} {v1 : Value} (hv :
 vNew h (.cells #[zi x0] Zh) fun p2 h_2 =>
 zB ZcM #[v1, .func (.func Zkv) #[] #[.pointer (some p2)]] h_2 fun b7 h_3 =>
 R (.bool (!b7)) h_3) : CallsH P Zjv #[zi x0, v1] h R := zv ⟨[], []⟩ Tryz.func167 hv
theorem ZId {v0 : Value} {p1 : Addr} (hv :
 vLen v0 fun n5 =>
 ldV h p1 fun v6 =>
 vIdx v6 0 1 fun p7 =>
 ldV h p7 fun v8 =>
 vLen v8 fun n9 =>
 bif (n5 : Int) != (n9 : Int) then
  R (.bool true) h
 else
  zB Zjv #[zi 2001, v0] h fun b13 h_2 =>
  R (.bool (!b13)) h_2) : CallsH P ZG3 #[v0, .pointer (some p1)] h R := zv ⟨[], []⟩ Tryz.func166 hv
theorem ZIJ {v0 : Value} (hv :
 vOne v0 fun _ =>
 vNew h (.cells #[v0] Zta) fun p1 h_2 =>
 ∃ J : Heap → Prop, (
  ldV h_2 p1 fun v3 =>
  zI ZbG #[v3] h_2 fun x4 h_3 =>
  zB Zab #[zi x4, zi 1, zi 2000] h_3 fun b5 h_4 =>
  bif !b5 then
   R (.bool false) h_4
  else
   ldV h_4 p1 fun v8 =>
   vIdx v8 0 1 fun p9 =>
   ldV h_4 p9 fun v10 =>
   vLen v10 fun n11 =>
   bif decide ((n11 : Int) > 2000) then
    R (.bool false) h_4
   else
    J h_4
 ) ∧ ∀ (_ : Env) (h_5 : Heap), J h_5 →
 ldV h_5 p1 fun v14 =>
 zB Ze2 #[v14, .func (.func ZG3) #[] #[.pointer (some p1)]] h_5 fun b16 h_6 =>
 R (.bool (!b16)) h_6) : CallsH P ZGD #[v0] h R := zv ⟨[], [(3, [])]⟩ Tryz.func114 hv
theorem ZKO {x0 : Int} (hv :
 zB Zab #[zi x0, zi 1, zi 2000] h fun b4 h_2 =>
 R (.bool b4) h_2) : CallsH P ZGg #[zi x0] h R := zv ⟨[], []⟩ Tryz.func115 hv
theorem ZKV {p0 : Addr} {v1 : Value} {x2 : Int} {x3 : Int} (hv :
 ldV h (p0.add 2) fun v13 =>
 vLen v13 fun n14 =>
 lq1 (0 : Int) h fun J n x15 h_2 =>
 bif decide (x15 < (n14 : Int)) then
  vIdx v13 x15 1 fun p18 =>
  ldV h_2 p18 fun v19 =>
  vIdx v1 x15 1 fun p22 =>
  ldI .i64 h_2 p22 fun x23 =>
  vIdx v19 x2 1 fun p27 =>
  ldI .i64 h_2 p27 fun x28 =>
  vIdx v1 x15 1 fun p31 =>
  vStore1 h_2 p31 (zi (zw (x23 + (zw (x3 * x28))))) fun h_3 =>
  ag1 J n (zw (x15 + 1)) h_3
 else
  R (.tuple #[]) h_2) : CallsH P ZDD #[.pointer (some p0), v1, zi x2, zi x3] h R := zv ⟨[(1, [(15, .i .i64)])], []⟩ Tryz.func168 hv
theorem ZJK {p0 : Addr} (hv :
 ldV h (p0.add 5) fun v8 =>
 vLen v8 fun n9 =>
 lq1 (0 : Int) h fun J n x10 h_2 =>
 bif decide (x10 < (n9 : Int)) then
  vIdx v8 x10 1 fun p13 =>
  ldI .i64 h_2 p13 fun x14 =>
  ldI .i64 h_2 (p0.add 3) fun x19 =>
  bif decide (x14 > x19) then
   R (.bool false) h_2
  else
   ldV h_2 (p0.add 6) fun v26 =>
   vIdx v26 x10 1 fun p28 =>
   ldI .i64 h_2 p28 fun x29 =>
   ldI .i64 h_2 (p0.add 3) fun x34 =>
   bif decide ((zw (x14 + x29) : Int) < x34) then
    R (.bool false) h_2
   else
    ag1 J n (zw (x10 + 1)) h_2
 else
  R (.bool true) h_2) : CallsH P ZFK #[.pointer (some p0)] h R := zv ⟨[(2, [(10, .i .i64)])], []⟩ Tryz.func217 hv
theorem ZJA {p0 : Addr} (hv :
 ldI .i64 h p0 fun x6 =>
 bif x6 == 0 then
  vStore1 h (p0.add 1) (.bool true) fun h_2 =>
  R (.bool false) h_2
 else
  ldI .i64 h p0 fun x14 =>
  vStore1 h p0 (zi (zw (x14 - 1))) fun h_3 =>
  R (.bool true) h_3) : CallsH P ZGU #[.pointer (some p0)] h R := zv ⟨[], []⟩ Tryz.func218 hv
theorem ZIi {p0 : Addr} {x1 : Int} (hv :
 ldV h (p0.add 2) fun v10 =>
 vIdx v10 0 1 fun p11 =>
 ldV h p11 fun v12 =>
 vLen v12 fun n13 =>
 bif x1 == (n13 : Int) then
  zB ZFK #[.pointer (some p0)] h fun b16 h_2 =>
  bif b16 then
   ∃ J : Heap → Prop, (
    ldI .i64 h_2 (p0.add 8) fun x20 =>
    bif x20 == 0 then
     ldV h_2 (p0.add 7) fun v26 =>
     zV Zep #[v26] h_2 fun v27 h_3 =>
     vStore1 h_3 (p0.add 9) v27 fun h_4 =>
     J h_4
    else
     J h_2
   ) ∧ ∀ (_ : Env) (h_5 : Heap), J h_5 →
   ldI .i64 h_5 (p0.add 8) fun x33 =>
   vStore1 h_5 (p0.add 8) (zi (zw (x33 + 1))) fun h_6 =>
   R (.tuple #[]) h_6
  else
   R (.tuple #[]) h_2
 else
  ldV h (p0.add 6) fun v41 =>
  CallsH P ZDD #[.pointer (some p0), v41, zi x1, zi (-1)] h fun r43 h_7 => r43 = .tuple #[] ∧
  vNewS h_7 (.cells #[.bool true, .bool false] ZGn) 2 fun v44 h_8 =>
  vLen v44 fun n45 =>
  lq1 (0 : Int) h_8 fun J_2 n x46 h_9 =>
  bif decide (x46 < (n45 : Int)) then
   vIdx v44 x46 1 fun p48 =>
   ldB h_9 p48 fun b49 =>
   ∃ J_3 : Heap → Prop, (
    bif b49 then
     ldV h_9 (p0.add 5) fun v55 =>
     CallsH P ZDD #[.pointer (some p0), v55, zi x1, zi 1] h_9 fun r57 h_10 => r57 = .tuple #[] ∧
     ldV h_10 (p0.add 7) fun v62 =>
     vNewS h_10 (.cells #[zi x1] Zh) 1 fun v64 h_11 =>
     vAppend 1 8 [zi 0] Zh v62 v64 h_11 fun v65 h_12 =>
     vStore1 h_12 (p0.add 7) v65 fun h_13 =>
     J_3 h_13
    else
     J_3 h_9
   ) ∧ ∀ (_ : Env) (h_14 : Heap), J_3 h_14 →
   ∃ J_4 : Heap → Prop, (
    zB ZFK #[.pointer (some p0)] h_14 fun b69 h_15 =>
    bif b69 then
     ldI .i64 h_15 (p0.add 8) fun x74 =>
     ldI .i64 h_15 (p0.add 4) fun x78 =>
     bif decide (x74 < x78) then
      ldB h_15 (p0.add 1) fun b86 =>
      bif !b86 then
       zB ZGU #[.pointer (some p0)] h_15 fun b93 h_16 =>
       bif b93 then
        CallsH P ZDF #[.pointer (some p0), zi (zw (x1 + 1))] h_16 fun r98 h_17 => r98 = .tuple #[] ∧
        J_4 h_17
       else
        J_4 h_16
      else
       J_4 h_15
     else
      J_4 h_15
    else
     J_4 h_15
   ) ∧ ∀ (_ : Env) (h_18 : Heap), J_4 h_18 →
   bif b49 then
    ldV h_18 (p0.add 5) fun v104 =>
    CallsH P ZDD #[.pointer (some p0), v104, zi x1, zi (-1)] h_18 fun r106 h_19 => r106 = .tuple #[] ∧
    ldV h_19 (p0.add 7) fun v111 =>
    ldV h_19 (p0.add 7) fun v115 =>
    vLen v115 fun n116 =>
    vSliceS v111 1 none (some (zi (zw ((n116 : Int) - 1)))) none fun v118 =>
    vStore1 h_19 (p0.add 7) v118 fun h_20 =>
    ag1 J_2 n (zw (x46 + 1)) h_20
   else
    ag1 J_2 n (zw (x46 + 1)) h_18
  else
   ldV h_9 (p0.add 6) fun v126 =>
   CallsH P ZDD #[.pointer (some p0), v126, zi x1, zi 1] h_9 fun r128 h_21 => r128 = .tuple #[] ∧
   R (.tuple #[]) h_21) : CallsH P ZDF #[.pointer (some p0), zi x1] h R := zv ⟨[(7, [(46, .i .i64)])], [(4, []), (12, []), (14, [])]⟩ Tryz.func169 hv
theorem ZIF {v0 : Value} {x1 : Int} {x2 : Int} {x3 : Int} (hv :
 (
  vLen v0 fun n17 =>
  vMake 8 [zi 0] Zh (n17 : Int) (n17 : Int) h fun v18 h_2 =>
  vLen v0 fun n20 =>
  vMake 8 [zi 0] Zh (n20 : Int) (n20 : Int) h_2 fun v21 h_3 =>
  vOne v0 fun _ =>
  vOne v18 fun _ =>
  vOne v21 fun _ =>
  vNew h_3 (.cells #[zi x3, .bool false, v0, zi x1, zi x2, v18, v21, (.slice none 0 0), zi 0, (.slice none 0 0)] ZHE) fun p23 h_4 =>
  vIdx v0 0 1 fun p25 =>
  ldV h_4 p25 fun v26 =>
  vLen v26 fun n27 =>
  lq1 (0 : Int) h_4 fun J n x28 h_5 =>
  bif decide (x28 < (n27 : Int)) then
   ldV h_5 (p23.add 6) fun v35 =>
   CallsH P ZDD #[.pointer (some p23), v35, zi x28, zi 1] h_5 fun r37 h_6 => r37 = .tuple #[] ∧
   ag1 J n (zw (x28 + 1)) h_6
  else
   CallsH P ZDF #[.pointer (some p23), zi 0] h_5 fun r40 h_7 => r40 = .tuple #[] ∧
   R (.pointer (some p23)) h_7
 ) ∧
 (
  vLen v0 fun n20_2 =>
  vMake 8 [zi 0] Zh (n20_2 : Int) (n20_2 : Int) h fun v21_2 h_8 =>
  vLen v0 fun n17_2 =>
  vMake 8 [zi 0] Zh (n17_2 : Int) (n17_2 : Int) h_8 fun v18_2 h_9 =>
  vOne v0 fun _ =>
  vOne v18_2 fun _ =>
  vOne v21_2 fun _ =>
  vNew h_9 (.cells #[zi x3, .bool false, v0, zi x1, zi x2, v18_2, v21_2, (.slice none 0 0), zi 0, (.slice none 0 0)] ZHE) fun p23_2 h_10 =>
  vIdx v0 0 1 fun p25_2 =>
  ldV h_10 p25_2 fun v26_2 =>
  vLen v26_2 fun n27_2 =>
  lq1 (0 : Int) h_10 fun J_2 n_3 x28_2 h_11 =>
  bif decide (x28_2 < (n27_2 : Int)) then
   ldV h_11 (p23_2.add 6) fun v35_2 =>
   CallsH P ZDD #[.pointer (some p23_2), v35_2, zi x28_2, zi 1] h_11 fun r37_2 h_12 => r37_2 = .tuple #[] ∧
   ag1 J_2 n_3 (zw (x28_2 + 1)) h_12
  else
   CallsH P ZDF #[.pointer (some p23_2), zi 0] h_11 fun r40_2 h_13 => r40_2 = .tuple #[] ∧
   R (.pointer (some p23_2)) h_13
 )) : CallsH P ZG4 #[v0, zi x1, zi x2, zi x3] h R := zv ⟨[(3, [(28, .i .i64)])], []⟩ Tryz.func116 hv
theorem ZKG {v0 : Value} {x1 : Int} {x2 : Int} (hv :
 zB ZGD #[v0] h fun b10 h_2 =>
 bif !b10 then
  R (.tuple #[(.slice none 0 0), zi 1]) h_2
 else
  ∃ J : Heap → Prop, (
   zB ZF3 #[zi x2] h_2 fun b13 h_3 =>
   bif !b13 then
    R (.tuple #[(.slice none 0 0), zi 2]) h_3
   else
    zB ZGg #[zi x1] h_3 fun b17 h_4 =>
    bif !b17 then
     R (.tuple #[(.slice none 0 0), zi 2]) h_4
    else
     J h_4
  ) ∧ ∀ (_ : Env) (h_5 : Heap), J h_5 →
  CallsH P ZG4 #[v0, zi x1, zi 1, zi x2] h_5 fun r23 h_6 => ∃ (p23 : Addr), r23 = .pointer (some p23) ∧
  ldB h_6 (p23.add 1) fun b33 =>
  bif b33 then
   R (.tuple #[(.slice none 0 0), zi 5]) h_6
  else
   ldI .i64 h_6 (p23.add 8) fun x38 =>
   bif x38 == 0 then
    R (.tuple #[(.slice none 0 0), zi 3]) h_6
   else
    ldV h_6 (p23.add 9) fun v27 =>
    R (.tuple #[v27, zi 0]) h_6) : CallsH P ZGL #[v0, zi x1, zi x2] h R := zv ⟨[], [(5, [])]⟩ Tryz.func60 hv
theorem ZIt {v0 : Value} {x1 : Int} (hv :
 vLen v0 fun n9 =>
 lq2 ((-1) : Int) (0 : Int) h fun J n x5 x10 h_2 =>
 bif decide (x10 < (n9 : Int)) then
  vIdx v0 x10 1 fun p12 =>
  ldI .i64 h_2 p12 fun x13 =>
  zB Zab #[zi x13, zi (zw (x5 + 1)), zi (zw (x1 - 1))] h_2 fun b19 h_3 =>
  bif !b19 then
   R (.bool false) h_3
  else
   ag2 J n x13 (zw (x10 + 1)) h_3
 else
  R (.bool true) h_2) : CallsH P ZGN #[v0, zi x1] h R := zv ⟨[(3, [(5, .i .i64), (10, .i .i64)])], []⟩ Tryz.func117 hv
theorem ZJH {v0 : Value} (hv :
 vLen v0 fun n4 =>
 R (zi (n4 : Int)) h) : CallsH P ZGP #[v0] h R := zv ⟨[], []⟩ Tryz.func118 hv
theorem Zuu {v0 : Value} (hv :
 vLen v0 fun n7 =>
 lq2 ((.slice none 0 0) : Value) (0 : Int) h fun J n v3 x8 h_2 =>
 bif decide (x8 < (n7 : Int)) then
  vIdx v0 x8 1 fun p10 =>
  ldV h_2 p10 fun v11 =>
  zV Zep #[v11] h_2 fun v14 h_3 =>
  vOne v14 fun _ =>
  vNewS h_3 (.cells #[v14] Zf) 1 fun v15 h_4 =>
  vAppend 1 24 [.slice none 0 0] Zf v3 v15 h_4 fun v16 h_5 =>
  ag2 J n v16 (zw (x8 + 1)) h_5
 else
  R v3 h_2) : CallsH P ZbL #[v0] h R := zv ⟨[(3, [(3, .v), (8, .i .i64)])], []⟩ Tryz.func170 hv
theorem ZH8 {x0 : Int} {v1 : Value} (hv :
 vNew h (.cells #[zi 0, .slice none 0 0] Zij) fun p4 h_2 =>
 vLen v1 fun n8 =>
 bif decide ((n8 : Int) > 128) then
  vStore1 h_2 p4 (zi 0) fun h_3 =>
  vStore1 h_3 (p4.add 1) (.slice none 0 0) fun h_4 =>
  ldI .i64 h_4 p4 fun xres0_0 =>
  ldV h_4 (p4.add 1) fun vres0_1 =>
  R (.tuple #[.agg #[zi xres0_0, vres0_1], zi 5]) h_4
 else
  zV ZbL #[v1] h_2 fun v13 h_5 =>
  vOne v13 fun _ =>
  vNew h_5 (.cells #[zi 0, .slice none 0 0] Zij) fun p6 h_6 =>
  vStore1 h_6 p6 (zi x0) fun h_7 =>
  vStore1 h_7 (p6.add 1) v13 fun h_8 =>
  ldV h_8 (p6.add 1) fun v16 =>
  CallsH P ZmQ #[v16, .func (.func ZdQ) #[] #[]] h_8 fun r17 h_9 => r17 = .tuple #[] ∧
  ldI .i64 h_9 p6 fun x18_0 =>
  ldV h_9 (p6.add 1) fun v18_1 =>
  vStore1 h_9 p4 (zi x18_0) fun h_10 =>
  vStore1 h_10 (p4.add 1) v18_1 fun h_11 =>
  ldI .i64 h_11 p4 fun xres0_0_2 =>
  ldV h_11 (p4.add 1) fun vres0_1_2 =>
  R (.tuple #[.agg #[zi xres0_0_2, vres0_1_2], zi 0]) h_11) : CallsH P ZGa #[zi x0, v1] h R := zv ⟨[], []⟩ Tryz.func119 hv
theorem ZI6 {x0_0 : Int} {v0_1 : Value} {x1 : Int} {v2 : Value} (hv :
 vNew h (.cells #[zi x0_0, v0_1] Zlq) fun p3 h_2 =>
 vNew h_2 (.cells #[zi 0, .slice none 0 0] Zij) fun p6 h_3 =>
 ldI .i64 h_3 p3 fun x14_0 =>
 ldV h_3 (p3.add 1) fun v14_1 =>
 zB Zk7 #[.agg #[zi x14_0, v14_1]] h_3 fun b15 h_4 =>
 bif !b15 then
  vStore1 h_4 p6 (zi 0) fun h_5 =>
  vStore1 h_5 (p6.add 1) (.slice none 0 0) fun h_6 =>
  ldI .i64 h_6 p6 fun xres0_0 =>
  ldV h_6 (p6.add 1) fun vres0_1 =>
  R (.tuple #[.agg #[zi xres0_0, vres0_1], zi 1]) h_6
 else
  bif x1 == 0 then
   vStore1 h_4 p6 (zi 0) fun h_7 =>
   vStore1 h_7 (p6.add 1) (.slice none 0 0) fun h_8 =>
   ldI .i64 h_8 p6 fun xres0_0_2 =>
   ldV h_8 (p6.add 1) fun vres0_1_2 =>
   R (.tuple #[.agg #[zi xres0_0_2, vres0_1_2], zi 2]) h_8
  else
   ldI .i64 h_4 p3 fun x22_0 =>
   ldV h_4 (p3.add 1) fun v22_1 =>
   vNewS h_4 (.cells #[zi x1] Zh) 1 fun v24 h_9 =>
   zI ZFQ #[.agg #[zi x22_0, v22_1], v24] h_9 fun x25 h_10 =>
   bif x25 != 0 then
    vStore1 h_10 p6 (zi 0) fun h_11 =>
    vStore1 h_11 (p6.add 1) (.slice none 0 0) fun h_12 =>
    ldI .i64 h_12 p6 fun xres0_0_3 =>
    ldV h_12 (p6.add 1) fun vres0_1_3 =>
    R (.tuple #[.agg #[zi xres0_0_3, vres0_1_3], zi x25]) h_12
   else
    ldI .i64 h_10 p3 fun x30_0 =>
    ldV h_10 (p3.add 1) fun v30_1 =>
    zV ZER #[.agg #[zi x30_0, v30_1], zi x1] h_10 fun v32 h_13 =>
    zI ZGP #[v32] h_13 fun x35 h_14 =>
    zB ZGN #[v2, zi x35] h_14 fun b36 h_15 =>
    bif !b36 then
     vStore1 h_15 p6 (zi 0) fun h_16 =>
     vStore1 h_16 (p6.add 1) (.slice none 0 0) fun h_17 =>
     ldI .i64 h_17 p6 fun xres0_0_4 =>
     ldV h_17 (p6.add 1) fun vres0_1_4 =>
     R (.tuple #[.agg #[zi xres0_0_4, vres0_1_4], zi 2]) h_17
    else
     vLen v2 fun n40 =>
     lq2 ((.slice none 0 0) : Value) (0 : Int) h_15 fun J n v10 x41 h_18 =>
     bif decide (x41 < (n40 : Int)) then
      vIdx v2 x41 1 fun p43 =>
      ldI .i64 h_18 p43 fun x44 =>
      vIdx v32 x44 1 fun p48 =>
      ldV h_18 p48 fun v49 =>
      vAppend 1 24 [.slice none 0 0] Zf v10 v49 h_18 fun v50 h_19 =>
      ag2 J n v50 (zw (x41 + 1)) h_19
     else
      ldI .i64 h_18 p3 fun x53 =>
      CallsH P ZGa #[zi x53, v10] h_18 fun r55 h_20 => ∃ x55_0_0, ∃ (v55_0_1 : Value), ∃ x55_1, r55 = .tuple #[.agg #[zi x55_0_0, v55_0_1], zi x55_1] ∧
      vStore1 h_20 p6 (zi x55_0_0) fun h_21 =>
      vStore1 h_21 (p6.add 1) v55_0_1 fun h_22 =>
      ldI .i64 h_22 p6 fun xres0_0_5 =>
      ldV h_22 (p6.add 1) fun vres0_1_5 =>
      R (.tuple #[.agg #[zi xres0_0_5, vres0_1_5], zi x55_1]) h_22) : CallsH P ZHa #[.agg #[zi x0_0, v0_1], zi x1, v2] h R := zv ⟨[(13, [(10, .v), (41, .i .i64)])], []⟩ Tryz.func61 hv
theorem ZJa {x0_0 : Int} {v0_1 : Value} {x1 : Int} {x2 : Int} {x3 : Int} {x4 : Int} (hv :
 vNew h (.cells #[zi x0_0, v0_1] Zlq) fun p5 h_2 =>
 vNew h_2 (.cells #[zi 0, .slice none 0 0] Zij) fun p10 h_3 =>
 ldI .i64 h_3 p5 fun x15_0 =>
 ldV h_3 (p5.add 1) fun v15_1 =>
 zB Zk7 #[.agg #[zi x15_0, v15_1]] h_3 fun b16 h_4 =>
 bif !b16 then
  vStore1 h_4 p10 (zi 0) fun h_5 =>
  vStore1 h_5 (p10.add 1) (.slice none 0 0) fun h_6 =>
  ldI .i64 h_6 p10 fun xres0_0 =>
  ldV h_6 (p10.add 1) fun vres0_1 =>
  R (.tuple #[.agg #[zi xres0_0, vres0_1], zi 1]) h_6
 else
  zB ZF3 #[zi x4] h_4 fun b20 h_7 =>
  bif !b20 then
   vStore1 h_7 p10 (zi 0) fun h_8 =>
   vStore1 h_8 (p10.add 1) (.slice none 0 0) fun h_9 =>
   ldI .i64 h_9 p10 fun xres0_0_2 =>
   ldV h_9 (p10.add 1) fun vres0_1_2 =>
   R (.tuple #[.agg #[zi xres0_0_2, vres0_1_2], zi 2]) h_9
  else
   ldI .i64 h_7 p5 fun x24_0 =>
   ldV h_7 (p5.add 1) fun v24_1 =>
   CallsH P ZGF #[.agg #[zi x24_0, v24_1], zi x1, zi x2] h_7 fun r27 h_10 => ∃ (v27_0 : Value), ∃ x27_1, r27 = .tuple #[v27_0, zi x27_1] ∧
   bif x27_1 != 0 then
    vStore1 h_10 p10 (zi 0) fun h_11 =>
    vStore1 h_11 (p10.add 1) (.slice none 0 0) fun h_12 =>
    ldI .i64 h_12 p10 fun xres0_0_3 =>
    ldV h_12 (p10.add 1) fun vres0_1_3 =>
    R (.tuple #[.agg #[zi xres0_0_3, vres0_1_3], zi x27_1]) h_12
   else
    bif x2 == 0 then
     vStore1 h_10 p10 (zi 0) fun h_13 =>
     vStore1 h_13 (p10.add 1) (.slice none 0 0) fun h_14 =>
     ldI .i64 h_14 p10 fun xres0_0_4 =>
     ldV h_14 (p10.add 1) fun vres0_1_4 =>
     R (.tuple #[.agg #[zi xres0_0_4, vres0_1_4], zi 2]) h_14
    else
     CallsH P ZGL #[v27_0, zi x3, zi x4] h_10 fun r41 h_15 => ∃ (v41_0 : Value), ∃ x41_1, r41 = .tuple #[v41_0, zi x41_1] ∧
     bif x41_1 != 0 then
      vStore1 h_15 p10 (zi 0) fun h_16 =>
      vStore1 h_16 (p10.add 1) (.slice none 0 0) fun h_17 =>
      ldI .i64 h_17 p10 fun xres0_0_5 =>
      ldV h_17 (p10.add 1) fun vres0_1_5 =>
      R (.tuple #[.agg #[zi xres0_0_5, vres0_1_5], zi x41_1]) h_17
     else
      ldI .i64 h_15 p5 fun x48_0 =>
      ldV h_15 (p5.add 1) fun v48_1 =>
      CallsH P ZHa #[.agg #[zi x48_0, v48_1], zi x2, v41_0] h_15 fun r51 h_18 => ∃ x51_0_0, ∃ (v51_0_1 : Value), ∃ x51_1, r51 = .tuple #[.agg #[zi x51_0_0, v51_0_1], zi x51_1] ∧
      vStore1 h_18 p10 (zi x51_0_0) fun h_19 =>
      vStore1 h_19 (p10.add 1) v51_0_1 fun h_20 =>
      ldI .i64 h_20 p10 fun xres0_0_6 =>
      ldV h_20 (p10.add 1) fun vres0_1_6 =>
      R (.tuple #[.agg #[zi xres0_0_6, vres0_1_6], zi x51_1]) h_20) : CallsH P ZFE #[.agg #[zi x0_0, v0_1], zi x1, zi x2, zi x3, zi x4] h R := zv ⟨[], []⟩ Tryz.func13 hv
theorem ZtK {v0 : Value} {v1 : Value} (hv :
 vLen v0 fun n7 =>
 vLen v1 fun n9 =>
 bif (n7 : Int) != (n9 : Int) then
  R (.bool false) h
 else
  lq1 (0 : Int) h fun J n x5 h_2 =>
  vLen v0 fun n13 =>
  bif decide (x5 < (n13 : Int)) then
   vIdx v0 x5 1 fun p19 =>
   ldI .i64 h_2 p19 fun x20 =>
   vIdx v1 x5 1 fun p23 =>
   ldI .i64 h_2 p23 fun x24 =>
   bif x20 != x24 then
    R (.bool false) h_2
   else
    ag1 J n (zw (x5 + 1)) h_2
  else
   R (.bool true) h_2) : CallsH P ZhK #[v0, v1] h R := zv ⟨[(4, [(5, .i .i64)])], []⟩ Tryz.func69 hv
theorem Zp8 {v0 : Value} {v1 : Value} (hv :
 vLen v0 fun n7 =>
 vLen v1 fun n9 =>
 bif (n7 : Int) != (n9 : Int) then
  R (.bool false) h
 else
  lq1 (0 : Int) h fun J n x5 h_2 =>
  vLen v0 fun n13 =>
  bif decide (x5 < (n13 : Int)) then
   vIdx v0 x5 1 fun p19 =>
   ldV h_2 p19 fun v20 =>
   vIdx v1 x5 1 fun p23 =>
   ldV h_2 p23 fun v24 =>
   zB ZhK #[v20, v24] h_2 fun b25 h_3 =>
   bif !b25 then
    R (.bool false) h_3
   else
    ag1 J n (zw (x5 + 1)) h_3
  else
   R (.bool true) h_2) : CallsH P Zkh #[v0, v1] h R := zv ⟨[(4, [(5, .i .i64)])], []⟩ Tryz.func62 hv
theorem ZKa {x0_0 : Int} {v0_1 : Value} {x1_0 : Int} {v1_1 : Value} (hv :
 vNew h (.cells #[zi x0_0, v0_1] Zij) fun p2 h_2 =>
 vNew h_2 (.cells #[zi x1_0, v1_1] Zij) fun p3 h_3 =>
 ldI .i64 h_3 p2 fun x6 =>
 ldI .i64 h_3 p3 fun x8 =>
 bif x6 != x8 then
  R (.bool false) h_3
 else
  ldV h_3 (p2.add 1) fun v11 =>
  ldV h_3 (p3.add 1) fun v13 =>
  zB Zkh #[v11, v13] h_3 fun b14 h_4 =>
  bif !b14 then
   R (.bool false) h_4
  else
   R (.bool true) h_4) : CallsH P ZET #[.agg #[zi x0_0, v0_1], .agg #[zi x1_0, v1_1]] h R := zv ⟨[], []⟩ Tryz.func14 hv
theorem ZKE {x0_0 : Int} {v0_1 : Value} {x1_0 : Int} {v1_1 : Value} (hv :
 vNew h (.cells #[zi x0_0, v0_1] Zlq) fun p2 h_2 =>
 vNew h_2 (.cells #[zi x1_0, v1_1] Zlq) fun p3 h_3 =>
 ldI .i64 h_3 p2 fun x6 =>
 ldI .i64 h_3 p3 fun x8 =>
 bif x6 != x8 then
  R (.bool false) h_3
 else
  ldV h_3 (p2.add 1) fun v11 =>
  ldV h_3 (p3.add 1) fun v13 =>
  zB Zkh #[v11, v13] h_3 fun b14 h_4 =>
  bif !b14 then
   R (.bool false) h_4
  else
   R (.bool true) h_4) : CallsH P ZG9 #[.agg #[zi x0_0, v0_1], .agg #[zi x1_0, v1_1]] h R := zv ⟨[], []⟩ Tryz.func15 hv
theorem ZuP {v0 : Value} {x1 : Int} (hv :
 lq2 x1 (0 : Int) h fun J n x1_2 x5 h_2 =>
 vLen v0 fun n8 =>
 bif decide (x5 < (n8 : Int)) then
  vIdx v0 x5 1 fun p15 =>
  vStore1 h_2 p15 (zi x1_2) fun h_3 =>
  ag2 J n (zw (x1_2 + 1)) (zw (x5 + 1)) h_3
 else
  R (zi x1_2) h_2) : CallsH P ZgJ #[v0, zi x1] h R := zv ⟨[(2, [(1, .i .i64), (5, .i .i64)])], []⟩ Tryz.func71 hv
theorem Ztm {v0 : Value} {x1 : Int} (hv :
 lq2 x1 (0 : Int) h fun J n x1_2 x5 h_2 =>
 vLen v0 fun n8 =>
 bif decide (x5 < (n8 : Int)) then
  vIdx v0 x5 1 fun p14 =>
  ldV h_2 p14 fun v15 =>
  zI ZgJ #[v15, zi x1_2] h_2 fun x17 h_3 =>
  ag2 J n x17 (zw (x5 + 1)) h_3
 else
  R (zi x1_2) h_2) : CallsH P ZiL #[v0, zi x1] h R := zv ⟨[(2, [(1, .i .i64), (5, .i .i64)])], []⟩ Tryz.func63 hv
theorem ZI9 {x0_0 : Int} {v0_1 : Value} {x1 : Int} (hv :
 vNew h (.cells #[zi x0_0, v0_1] Zlq) fun p2 h_2 =>
 ldV h_2 (p2.add 1) fun v6 =>
 zI ZiL #[v6, zi x1] h_2 fun x8 h_3 =>
 R (zi x8) h_3) : CallsH P ZGf #[.agg #[zi x0_0, v0_1], zi x1] h R := zv ⟨[], []⟩ Tryz.func16 hv
theorem ZIg {x0_0 : Int} {v0_1 : Value} {x1 : Int} (hv :
 vNew h (.cells #[zi x0_0, v0_1] Zij) fun p2 h_2 =>
 ldV h_2 (p2.add 1) fun v6 =>
 zI ZiL #[v6, zi x1] h_2 fun x8 h_3 =>
 R (zi x8) h_3) : CallsH P ZF6 #[.agg #[zi x0_0, v0_1], zi x1] h R := zv ⟨[], []⟩ Tryz.func17 hv
theorem ZoV {v0 : Value} {x1 : Int} (hv :
 lq2 x1 (0 : Int) h fun J n x1_2 x5 h_2 =>
 vLen v0 fun n8 =>
 bif decide (x5 < (n8 : Int)) then
  vIdx v0 x5 1 fun p14 =>
  ldI .i64 h_2 p14 fun x15 =>
  bif x15 != x1_2 then
   R (zi (-1)) h_2
  else
   ag2 J n (zw (x1_2 + 1)) (zw (x5 + 1)) h_2
 else
  R (zi x1_2) h_2) : CallsH P Zh4 #[v0, zi x1] h R := zv ⟨[(2, [(1, .i .i64), (5, .i .i64)])], []⟩ Tryz.func73 hv
theorem ZBQ {v0 : Value} {x1 : Int} (hv :
 lq2 x1 (0 : Int) h fun J n x1_2 x5 h_2 =>
 vLen v0 fun n8 =>
 bif decide (x5 < (n8 : Int)) then
  vIdx v0 x5 1 fun p14 =>
  ldV h_2 p14 fun v15 =>
  zI Zh4 #[v15, zi x1_2] h_2 fun x17 h_3 =>
  bif decide (x17 < 0) then
   R (zi (-1)) h_3
  else
   ag2 J n x17 (zw (x5 + 1)) h_3
 else
  R (zi x1_2) h_2) : CallsH P ZBy #[v0, zi x1] h R := zv ⟨[(2, [(1, .i .i64), (5, .i .i64)])], []⟩ Tryz.func64 hv
theorem ZJ8 {x0_0 : Int} {v0_1 : Value} {x1 : Int} (hv :
 vNew h (.cells #[zi x0_0, v0_1] Zij) fun p2 h_2 =>
 ldV h_2 (p2.add 1) fun v6 =>
 zI ZBy #[v6, zi x1] h_2 fun x8 h_3 =>
 bif decide (x8 < 0) then
  R (zi (-1)) h_3
 else
  R (zi x8) h_3) : CallsH P ZFV #[.agg #[zi x0_0, v0_1], zi x1] h R := zv ⟨[], []⟩ Tryz.func18 hv
theorem ZIB {x0_0 : Int} {v0_1 : Value} {x1 : Int} {x2 : Int} {x3 : Int} {x4 : Int} (hv :
 vNew h (.cells #[zi x0_0, v0_1] ZGA) fun p5 h_2 =>
 ldI .i64 h_2 p5 fun x22_0 =>
 ldV h_2 (p5.add 1) fun v22_1 =>
 zI ZGJ #[.agg #[zi x22_0, v22_1], zi 1048576] h_2 fun x24 h_3 =>
 bif decide (x24 < 0) then
  R (.bool true) h_3
 else
  ldI .i64 h_3 p5 fun x28_0 =>
  ldV h_3 (p5.add 1) fun v28_1 =>
  CallsH P ZEz #[.agg #[zi x28_0, v28_1]] h_3 fun r29 h_4 => ∃ x29_0_0, ∃ (v29_0_1 : Value), r29 = .agg #[zi x29_0_0, v29_0_1] ∧
  CallsH P ZGY #[.agg #[zi x29_0_0, v29_0_1], zi x1, zi x2, zi x3, zi x4] h_4 fun r34 h_5 => ∃ x34_0_0, ∃ (v34_0_1 : Value), ∃ x34_1, r34 = .tuple #[.agg #[zi x34_0_0, v34_0_1], zi x34_1] ∧
  vNew h_5 (.cells #[zi 0, .slice none 0 0] Zij) fun p12 h_6 =>
  vStore1 h_6 p12 (zi x34_0_0) fun h_7 =>
  vStore1 h_7 (p12.add 1) v34_0_1 fun h_8 =>
  ldI .i64 h_8 p5 fun x37_0 =>
  ldV h_8 (p5.add 1) fun v37_1 =>
  CallsH P ZEz #[.agg #[zi x37_0, v37_1]] h_8 fun r38 h_9 => ∃ x38_0_0, ∃ (v38_0_1 : Value), r38 = .agg #[zi x38_0_0, v38_0_1] ∧
  vNew h_9 (.cells #[zi 0, .slice none 0 0] Zlq) fun p14 h_10 =>
  vStore1 h_10 p14 (zi x38_0_0) fun h_11 =>
  vStore1 h_11 (p14.add 1) v38_0_1 fun h_12 =>
  ldI .i64 h_12 p14 fun x40_0 =>
  ldV h_12 (p14.add 1) fun v40_1 =>
  CallsH P ZFE #[.agg #[zi x40_0, v40_1], zi x1, zi x2, zi x3, zi x4] h_12 fun r45 h_13 => ∃ x45_0_0, ∃ (v45_0_1 : Value), ∃ x45_1, r45 = .tuple #[.agg #[zi x45_0_0, v45_0_1], zi x45_1] ∧
  vNew h_13 (.cells #[zi 0, .slice none 0 0] Zij) fun p15 h_14 =>
  vStore1 h_14 p15 (zi x45_0_0) fun h_15 =>
  vStore1 h_15 (p15.add 1) v45_0_1 fun h_16 =>
  ∃ J : Heap → Prop, (
   ldI .i64 h_16 p15 fun x48_0 =>
   ldV h_16 (p15.add 1) fun v48_1 =>
   ldI .i64 h_16 p12 fun x49_0 =>
   ldV h_16 (p12.add 1) fun v49_1 =>
   zB ZET #[.agg #[zi x48_0, v48_1], .agg #[zi x49_0, v49_1]] h_16 fun b50 h_17 =>
   bif !b50 then
    R (.bool false) h_17
   else
    bif x45_1 != x34_1 then
     R (.bool false) h_17
    else
     J h_17
  ) ∧ ∀ (_ : Env) (h_18 : Heap), J h_18 →
  ∃ B : Nat → Prop,
  ldI .i64 h_18 p5 fun x58_0 =>
  ldV h_18 (p5.add 1) fun v58_1 =>
  CallsH P ZEz #[.agg #[zi x58_0, v58_1]] h_18 fun r59 h_19 => ∃ x59_0_0, ∃ (v59_0_1 : Value), r59 = .agg #[zi x59_0_0, v59_0_1] ∧
  ExtBut B h_18 h_19 ∧
  ldI .i64 (hmask B h_18) p14 fun x57_0 =>
  ldV (hmask B h_18) (p14.add 1) fun v57_1 =>
  zB ZG9 #[.agg #[zi x57_0, v57_1], .agg #[zi x59_0_0, v59_0_1]] h_19 fun b60 h_20 =>
  bif !b60 then
   R (.bool false) h_20
  else
   ldI .i64 h_20 p14 fun x62_0 =>
   ldV h_20 (p14.add 1) fun v62_1 =>
   zI ZGf #[.agg #[zi x62_0, v62_1], zi 1] h_20 fun x64 h_21 =>
   ∃ J_2 : Heap → Prop, (
    bif decide (x64 < 0) then
     R (.bool false) h_21
    else
     ldI .i64 h_21 p15 fun x68_0 =>
     ldV h_21 (p15.add 1) fun v68_1 =>
     ldI .i64 h_21 p12 fun x69_0 =>
     ldV h_21 (p12.add 1) fun v69_1 =>
     zB ZET #[.agg #[zi x68_0, v68_1], .agg #[zi x69_0, v69_1]] h_21 fun b70 h_22 =>
     bif !b70 then
      R (.bool false) h_22
     else
      bif x45_1 != x34_1 then
       R (.bool false) h_22
      else
       J_2 h_22
   ) ∧ ∀ (_ : Env) (h_23 : Heap), J_2 h_23 →
   ldI .i64 h_23 p15 fun x78_0 =>
   ldV h_23 (p15.add 1) fun v78_1 =>
   zI ZF6 #[.agg #[zi x78_0, v78_1], zi 1] h_23 fun x80 h_24 =>
   ldI .i64 h_24 p15 fun x81_0 =>
   ldV h_24 (p15.add 1) fun v81_1 =>
   zI ZFV #[.agg #[zi x81_0, v81_1], zi 1] h_24 fun x83 h_25 =>
   bif decide (x83 < 0) then
    R (.bool false) h_25
   else
    bif x83 != x80 then
     R (.bool false) h_25
    else
     ldI .i64 h_25 p5 fun x90_0 =>
     ldV h_25 (p5.add 1) fun v90_1 =>
     CallsH P ZEz #[.agg #[zi x90_0, v90_1]] h_25 fun r91 h_26 => ∃ x91_0_0, ∃ (v91_0_1 : Value), r91 = .agg #[zi x91_0_0, v91_0_1] ∧
     CallsH P ZFE #[.agg #[zi x91_0_0, v91_0_1], zi x1, zi x2, zi x3, zi x4] h_26 fun r96 h_27 => ∃ x96_0_0, ∃ (v96_0_1 : Value), ∃ x96_1, r96 = .tuple #[.agg #[zi x96_0_0, v96_0_1], zi x96_1] ∧
     vNew h_27 (.cells #[zi 0, .slice none 0 0] Zij) fun p20 h_28 =>
     vStore1 h_28 p20 (zi x96_0_0) fun h_29 =>
     vStore1 h_29 (p20.add 1) v96_0_1 fun h_30 =>
     ∃ J_3 : Heap → Prop, (
      ldI .i64 h_30 p20 fun x99_0 =>
      ldV h_30 (p20.add 1) fun v99_1 =>
      ldI .i64 h_30 p12 fun x100_0 =>
      ldV h_30 (p12.add 1) fun v100_1 =>
      zB ZET #[.agg #[zi x99_0, v99_1], .agg #[zi x100_0, v100_1]] h_30 fun b101 h_31 =>
      bif !b101 then
       R (.bool false) h_31
      else
       bif x96_1 != x34_1 then
        R (.bool false) h_31
       else
        J_3 h_31
     ) ∧ ∀ (_ : Env) (h_32 : Heap), J_3 h_32 →
     ldI .i64 h_32 p15 fun x108_0 =>
     ldV h_32 (p15.add 1) fun v108_1 =>
     zI ZFV #[.agg #[zi x108_0, v108_1], zi 1] h_32 fun x110 h_33 =>
     bif decide (x110 < 0) then
      R (.bool false) h_33
     else
      bif x110 != x80 then
       R (.bool false) h_33
      else
       R (.bool true) h_33) : CallsH P ZGs #[.agg #[zi x0_0, v0_1], zi x1, zi x2, zi x3, zi x4] h R := zv ⟨[], [(10, []), (16, []), (27, [])]⟩ Tryz.func3 hv
end Go.Proofs.YtapkemdomnkccaaGreat
