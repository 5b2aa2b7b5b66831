import Derived.Test.YtocnokjekoglnaaVcSoundE
import Derived.Test.YtocnokjekoglnaaVcDn
import Derived.Test.YtocnokjekoglnaaPuBase
import Derived.Test.YtocnokjekoglnaaProg
import Derived.KernelRfl
namespace Go.Proofs.Ytocnokjekoglnaa
set_option linter.unusedSimpArgs false
open Go Go.Vc Go.Proofs
set_option linter.unusedVariables false
set_option maxRecDepth 100000
noncomputable abbrev P : Program := Try.prog
abbrev zw (x : Int) : Int := IntKind.i64.wrap x
abbrev zi (x : Int) : Value := .int .i64 x
abbrev zB (f : FuncId) (a : Array Value) (h : Heap) (K : Bool → Heap → Prop) : Prop := CallsH P f a h fun r h' => ∃ b, r = .bool b ∧ K b h'
abbrev zI (f : FuncId) (a : Array Value) (h : Heap) (K : Int → Heap → Prop) : Prop := CallsH P f a h fun r h' => ∃ x, r = .int .i64 x ∧ K x h'
abbrev zV (f : FuncId) (a : Array Value) (h : Heap) (K : Value → Heap → Prop) : Prop := CallsH P f a h fun r h' => ∃ v, r = v ∧ K v h'
abbrev ZcP : Nat := 4
abbrev Zdl : Nat := 9
abbrev ZcA : Nat := 34
abbrev ZH : Nat := 25
abbrev Zcb : Nat := 22
abbrev ZcS : Nat := 49
abbrev Zcu : Nat := 42
abbrev ZdO : Nat := 33
abbrev ZdA : Nat := 23
abbrev ZaX : Nat := 24
abbrev Zca : Nat := 50
abbrev Zbp : Nat := 43
abbrev Zd2 : Nat := 52
abbrev Zdc : Nat := 51
abbrev ZdD : Nat := 44
abbrev Zdd : Nat := 45
abbrev ZcO : Nat := 46
abbrev Zcz : Nat := 35
abbrev ZcX : Nat := 47
abbrev Zeg : Nat := 36
abbrev Zem : Nat := 26
abbrev Zc2 : Nat := 10
abbrev Zeb : Nat := 11
abbrev ZcR : Nat := 12
abbrev Zde : Nat := 5
abbrev Z3 : Nat := 17
abbrev ZdW : Nat := 32
abbrev Zb3 : Nat := 20
abbrev ZdB : Nat := 27
abbrev Zdx : Nat := 48
abbrev Zc4 : Nat := 37
abbrev ZcY : Nat := 38
abbrev ZcU : Nat := 29
abbrev ZdN : Nat := 28
abbrev Zbn : Nat := 13
abbrev Zcc : Nat := 14
abbrev Zbm : Nat := 15
abbrev Zad : Nat := 30
abbrev Zb7 : Nat := 39
abbrev ZdG : Nat := 40
abbrev Zd8 : Nat := 41
abbrev Z9 : Nat := 31
abbrev Zcf : Nat := 16
abbrev Zd6 : Nat := 6
abbrev Zda : Nat := 7
abbrev Zdt : Nat := 18
abbrev Zej : Nat := 19
abbrev ZcV : Nat := 21
abbrev Zea : Nat := 8
abbrev Zd4 : Nat := 3
abbrev Zp : Nat := 2
abbrev Zfd : Nat := 4
abbrev Zco : Nat := 24
abbrev Zz : Nat := 27
abbrev ZeY : Nat := 45
abbrev ZjE : Nat := 53
abbrev ZdQ : Nat := 55
def tab : List (Nat × TE) := [(2, ⟨.int .i64, [.i .i64], [.int .i64 0], 8⟩),
 (3, ⟨.int .i64, [.i .i64], [.int .i64 0], 8⟩),
 (4, ⟨.bool, [.b], [.bool false], 1⟩),
 (5, ⟨.int .u8, [.i .u8], [.int .u8 0], 1⟩),
 (22, ⟨.slice 5, [.v], [.slice none 0 0], 24⟩),
 (24, ⟨.slice 27, [.v], [.slice none 0 0], 24⟩),
 (27, ⟨.slice 2, [.v], [.slice none 0 0], 24⟩),
 (43, ⟨.struct [(0, 1, false), (1, 1, false)], [.i .i64, .b], [.int .i64 0, .bool false], 16⟩),
 (45, ⟨.struct [(0, 2, true), (2, 1, false), (3, 1, false), (4, 1, false), (5, 1, false), (6, 1, false), (7, 1, false), (8, 1, false), (9, 1, false)], [.i .i64, .b, .v, .i .i64, .i .i64, .v, .v, .v, .i .i64, .v], [.int .i64 0, .bool false, .slice none 0 0, .int .i64 0, .int .i64 0, .slice none 0 0, .slice none 0 0, .slice none 0 0, .int .i64 0, .slice none 0 0], 160⟩),
 (51, ⟨.int .u64, [.i .u64], [.int .u64 0], 8⟩),
 (53, ⟨.struct [(0, 1, false), (1, 1, false), (2, 1, false)], [.v, .i .i64, .i .u64], [.slice none 0 0, .int .i64 0, .int .u64 0], 40⟩),
 (55, ⟨.struct [(0, 1, false), (1, 1, false)], [.i .i64, .v], [.int .i64 0, .slice none 0 0], 32⟩),
 (67, ⟨.slice 24, [.v], [.slice none 0 0], 24⟩),
 (73, ⟨.slice 4, [.v], [.slice none 0 0], 24⟩)]
def rst : List (Nat × RS) := [(0, ⟨true, []⟩),
 (2, ⟨false, [(false, [.i .i64])]⟩),
 (3, ⟨false, [(false, [.i .i64])]⟩),
 (4, ⟨false, [(false, [.b])]⟩),
 (24, ⟨false, [(false, [.v])]⟩),
 (25, ⟨true, [(false, [.v]), (false, [.i .i64]), (false, [.i .i64])]⟩),
 (27, ⟨false, [(false, [.v])]⟩),
 (28, ⟨true, [(false, [.v]), (false, [.i .i64])]⟩),
 (30, ⟨true, [(false, [.i .i64]), (false, [.i .i64])]⟩),
 (32, ⟨true, [(false, [.b]), (false, [.i .i64])]⟩),
 (34, ⟨false, [(false, [.p])]⟩),
 (40, ⟨false, [(false, [.p])]⟩),
 (55, ⟨false, [(true, [.i .i64, .v])]⟩),
 (67, ⟨false, [(false, [.v])]⟩)]
def exs : List Nat := []
noncomputable def ctx : Ctx := ⟨Try.prog, tab, rst, 3, 53, exs, []⟩
theorem te2 : TeOk P 2 ⟨.int .i64, [.i .i64], [.int .i64 0], 8⟩ := ⟨by kernel_rfl, by kernel_rfl, by kernel_rfl, by kernel_rfl⟩
theorem te3 : TeOk P 3 ⟨.int .i64, [.i .i64], [.int .i64 0], 8⟩ := ⟨by kernel_rfl, by kernel_rfl, by kernel_rfl, by kernel_rfl⟩
theorem te4 : TeOk P 4 ⟨.bool, [.b], [.bool false], 1⟩ := ⟨by kernel_rfl, by kernel_rfl, by kernel_rfl, by kernel_rfl⟩
theorem te5 : TeOk P 5 ⟨.int .u8, [.i .u8], [.int .u8 0], 1⟩ := ⟨by kernel_rfl, by kernel_rfl, by kernel_rfl, by kernel_rfl⟩
theorem te22 : TeOk P 22 ⟨.slice 5, [.v], [.slice none 0 0], 24⟩ := ⟨by kernel_rfl, by kernel_rfl, by kernel_rfl, by kernel_rfl⟩
theorem te24 : TeOk P 24 ⟨.slice 27, [.v], [.slice none 0 0], 24⟩ := ⟨by kernel_rfl, by kernel_rfl, by kernel_rfl, by kernel_rfl⟩
theorem te27 : TeOk P 27 ⟨.slice 2, [.v], [.slice none 0 0], 24⟩ := ⟨by kernel_rfl, by kernel_rfl, by kernel_rfl, by kernel_rfl⟩
theorem te43 : TeOk P 43 ⟨.struct [(0, 1, false), (1, 1, false)], [.i .i64, .b], [.int .i64 0, .bool false], 16⟩ := ⟨by kernel_rfl, by kernel_rfl, by kernel_rfl, by kernel_rfl⟩
theorem te45 : TeOk P 45 ⟨.struct [(0, 2, true), (2, 1, false), (3, 1, false), (4, 1, false), (5, 1, false), (6, 1, false), (7, 1, false), (8, 1, false), (9, 1, false)], [.i .i64, .b, .v, .i .i64, .i .i64, .v, .v, .v, .i .i64, .v], [.int .i64 0, .bool false, .slice none 0 0, .int .i64 0, .int .i64 0, .slice none 0 0, .slice none 0 0, .slice none 0 0, .int .i64 0, .slice none 0 0], 160⟩ := ⟨by kernel_rfl, by kernel_rfl, by kernel_rfl, by kernel_rfl⟩
theorem te51 : TeOk P 51 ⟨.int .u64, [.i .u64], [.int .u64 0], 8⟩ := ⟨by kernel_rfl, by kernel_rfl, by kernel_rfl, by kernel_rfl⟩
theorem te53 : TeOk P 53 ⟨.struct [(0, 1, false), (1, 1, false), (2, 1, false)], [.v, .i .i64, .i .u64], [.slice none 0 0, .int .i64 0, .int .u64 0], 40⟩ := ⟨by kernel_rfl, by kernel_rfl, by kernel_rfl, by kernel_rfl⟩
theorem te55 : TeOk P 55 ⟨.struct [(0, 1, false), (1, 1, false)], [.i .i64, .v], [.int .i64 0, .slice none 0 0], 32⟩ := ⟨by kernel_rfl, by kernel_rfl, by kernel_rfl, by kernel_rfl⟩
theorem te67 : TeOk P 67 ⟨.slice 24, [.v], [.slice none 0 0], 24⟩ := ⟨by kernel_rfl, by kernel_rfl, by kernel_rfl, by kernel_rfl⟩
theorem te73 : TeOk P 73 ⟨.slice 4, [.v], [.slice none 0 0], 24⟩ := ⟨by kernel_rfl, by kernel_rfl, by kernel_rfl, by kernel_rfl⟩
theorem tabOk_all : ∀ p ∈ tab, TeOk P p.1 p.2 := by
 unfold tab
 simp only [List.forall_mem_cons]
 exact ⟨te2, te3, te4, te5, te22, te24, te27, te43, te45, te51, te53, te55, te67, te73, fun p hp => by cases hp⟩
theorem tab_mem : ∀ (l : List (Nat × TE)) (t : Nat) (te : TE), tabGet l t = some te → (t, te) ∈ l
 | [], t, te, h => by cases h
 | (k, x) :: r, t, te, h => by
  unfold tabGet at h
  cases hb : Nat.beq k t with
  | true => rw [hb] at h; have := Nat.eq_of_beq_eq_true hb; subst this; cases h; exact List.mem_cons_self ..
  | false => rw [hb] at h; exact List.mem_cons_of_mem _ (tab_mem r t te h)
noncomputable def fnB (f : Nat) : Bool := match P.funcs[f]? with | some fn => fn.body.isSome && !(fn.name == "runtime.NumGoroutine") | none => false
theorem fns_all : (List.range' 3 50).all (fun f => inL exs f || fnB f) = true := by kernel_rfl
theorem ctxOk : CtxOk ctx where
 tab := fun t te h => tabOk_all (t, te) (tab_mem _ t te h)
 fns := fun f hf => by
  simp only [Ctx.okf, Bool.and_eq_true, Bool.not_eq_true'] at hf
  have h1 : 3 ≤ f := Nat.le_of_ble_eq_true hf.1.1
  have h2 : f < 53 := Nat.blt_eq.mp hf.1.2
  have h := List.all_eq_true.1 fns_all f (List.mem_range'_1.2 ⟨h1, by omega⟩)
  have h3 : inL exs f = false := hf.2
  simp only [h3, Bool.false_or] at h
  unfold fnB at h
  split at h
  ·rename_i fn hfn; simp only [Bool.and_eq_true, Bool.not_eq_true'] at h; exact ⟨fn, hfn, h.1, h.2⟩
  ·cases h
 mixed := by kernel_rfl
 ovs := fun f hf => by cases hf
theorem zv {F : Prop} {f : FuncId} {fn : Func} {args : List Value} {h : Heap} {R : Value → Heap → Prop} (A : Ann) (hf : P.funcs[f]? = some fn) (hv : F)
  (hn : ((match fn.body with | some c => cOk fn.ntmps c | none => false) && Nat.ble args.length fn.ntmps) = true := by kernel_rfl) (e : vcFn ctx A fn args h R = F := by kernel_rfl) : CallsH P f args.toArray h R :=
 ZiT ctxOk A hf args h R hn (e ▸ hv)
variable {R : Value → Heap → Prop} {h : Heap}
theorem ZhH {v0 : Value} (hv :
 vLen v0 fun n4 =>
 R (.bool (decide ((n4 : Int) > 1048576))) h) : CallsH P ZcP #[v0] h R := zv ⟨[], [], []⟩ Try.func4 hv
theorem ZfO {v0 : Value} (hv :
 vOne v0 fun _ =>
 vNew h (.cells #[v0, zi 0, .int .u64 0] ZjE) fun p5 h_2 =>
 R (.pointer (some p5)) h_2) : CallsH P Zdl #[v0] h R := zv ⟨[], [], []⟩ Try.func9 hv
theorem Zjy {p0 : Addr} (hv :
 ∃ J : Int → Heap → Prop, (
 ldI .i64 h (p0.add 1) fun x7 =>
 ldV h p0 fun v11 =>
 vLen v11 fun n12 =>
 bif decide (x7 < (n12 : Int)) then
 ldV h p0 fun v17 =>
 ldI .i64 h (p0.add 1) fun x21 =>
 vIdx v17 x21 1 fun p22 =>
 ldI .u8 h p22 fun x23 =>
 J (zw x23) h
 else
 J 0 h
 ) ∧ ∀ (_ : Env) x3 (h_2 : Heap), J x3 h_2 →
 ldI .i64 h_2 (p0.add 1) fun x28 =>
 vStore1 h_2 (p0.add 1) (zi (zw (x28 + 1))) fun h_3 =>
 ldI .u64 h_3 (p0.add 2) fun x36 =>
 vStore1 h_3 (p0.add 2) (.int .u64 (IntKind.u64.wrap ((IntKind.u64.wrap ((IntKind.u64.wrap (x36 * 6364136223846793005)) + (IntKind.u64.wrap x3))) + 1442695040888963407))) fun h_4 =>
 ldI .i64 h_4 (p0.add 1) fun x47 =>
 ldV h_4 p0 fun v51 =>
 vLen v51 fun n52 =>
 bif decide (x47 ≤ (n52 : Int)) then
 R (zi x3) h_4
 else
 ldI .u64 h_4 (p0.add 2) fun x58 =>
 (0 : Int) ≤ 40 ∧
 R (zi (zw (IntKind.u64.wrap ((BitVec.ofInt IntKind.u64.bits (Int.fdiv x58 (2 ^ min (40 : Int).toNat IntKind.u64.bits)) &&& BitVec.ofInt IntKind.u64.bits 255).toNat : Int)))) h_4) : CallsH P ZcA #[.pointer (some p0)] h R := zv ⟨[], [(4, [(3, .i .i64)])], []⟩ Try.func34 hv
theorem Zi6 {p0 : Addr} {x1 : Int} (hv :
 bif decide (x1 ≤ 1) then
 R (zi 0) h
 else
 zI ZcA #[.pointer (some p0)] h fun x9 h_2 =>
 bif decide (x1 > 200) then
 zI ZcA #[.pointer (some p0)] h_2 fun x15 h_3 =>
 x1 ≠ 0 ∧
 R (zi (Int.tmod (zw ((zw (x9 * 256)) + x15)) x1)) h_3
 else
 x1 ≠ 0 ∧
 R (zi (Int.tmod x9 x1)) h_2) : CallsH P ZH #[.pointer (some p0), zi x1] h R := zv ⟨[], [], []⟩ Try.func25 hv
theorem Zig {p0 : Addr} {x1 : Int} (hv :
 zI ZH #[.pointer (some p0), zi x1] h fun x7 h_2 =>
 R (.bool (x7 == 0)) h_2) : CallsH P Zcb #[.pointer (some p0), zi x1] h R := zv ⟨[], [], []⟩ Try.func22 hv
theorem Zgv {v0 v1 : Value} (hv :
 ∃ J : Heap → Prop, (
 lq1 (0 : Int) h fun J_2 n x5 h_2 =>
 ∃ J_3 : Heap → Prop, (
 vLen v0 fun n8 =>
 bif decide (x5 < (n8 : Int)) then
 vLen v1 fun n13 =>
 bif decide (x5 < (n13 : Int)) then
 J_3 h_2
 else
 J h_2
 else
 J h_2
 ) ∧ ∀ (_ : Env) (h_3 : Heap), J_3 h_3 →
 vIdx v0 x5 1 fun p20 =>
 ldI .i64 h_3 p20 fun x21 =>
 vIdx v1 x5 1 fun p24 =>
 ldI .i64 h_3 p24 fun x25 =>
 bif decide (x21 < x25) then
 R (zi (-1)) h_3
 else
 vIdx v0 x5 1 fun p29 =>
 ldI .i64 h_3 p29 fun x30 =>
 vIdx v1 x5 1 fun p33 =>
 ldI .i64 h_3 p33 fun x34 =>
 bif decide (x30 > x34) then
 R (zi 1) h_3
 else
 ag1 J_2 n (zw (x5 + 1)) h_3
 ) ∧ ∀ (_ : Env) (h_4 : Heap), J h_4 →
 vLen v0 fun n37 =>
 vLen v1 fun n39 =>
 bif decide ((n37 : Int) < (n39 : Int)) then
 R (zi (-1)) h_4
 else
 vLen v0 fun n42 =>
 vLen v1 fun n44 =>
 bif decide ((n42 : Int) > (n44 : Int)) then
 R (zi 1) h_4
 else
 R (zi 0) h_4) : CallsH P ZcS #[v0, v1] h R := zv ⟨[(2, [(5, .i .i64)])], [(4, []), (8, [])], []⟩ Try.func49 hv
theorem Zir {v0 v1 : Value} (hv :
 vNewS h (.cells #[] Zz) 0 fun v9 h_2 =>
 lq3 v9 false (0 : Int) h_2 fun J n v5 b6 x7 h_3 =>
 vLen v0 fun n12 =>
 bif decide (x7 < (n12 : Int)) then
 vIdx v0 x7 1 fun p18 =>
 ldV h_3 p18 fun v19 =>
 zI ZcS #[v19, v1] h_3 fun x21 h_4 =>
 ∃ J_2 : Value → Bool → Heap → Prop, (
 ∃ J_3 : Bool → Heap → Prop, (
 bif !b6 then
 J_3 (decide (x21 ≥ 0)) h_4
 else
 J_3 false h_4
 ) ∧ ∀ (_ : Env) (b27 : Bool) (h_5 : Heap), J_3 b27 h_5 →
 bif b27 then
 bif decide (x21 > 0) then
 vOne v1 fun _ =>
 vNewS h_5 (.cells #[v1] Zz) 1 fun v32 h_6 =>
 vAppend 1 24 [.slice none 0 0] Zz v5 v32 h_6 fun v33 h_7 =>
 J_2 v33 true h_7
 else
 J_2 v5 true h_5
 else
 J_2 v5 b6 h_5
 ) ∧ ∀ (_ : Env) (v5_2 : Value) (b6_2 : Bool) (h_8 : Heap), J_2 v5_2 b6_2 h_8 →
 vIdx v0 x7 1 fun p37 =>
 ldV h_8 p37 fun v38 =>
 vOne v38 fun _ =>
 vNewS h_8 (.cells #[v38] Zz) 1 fun v39 h_9 =>
 vAppend 1 24 [.slice none 0 0] Zz v5_2 v39 h_9 fun v40 h_10 =>
 ag3 J n v40 b6_2 (zw (x7 + 1)) h_10
 else
 bif !b6 then
 vOne v1 fun _ =>
 vNewS h_3 (.cells #[v1] Zz) 1 fun v45 h_11 =>
 vAppend 1 24 [.slice none 0 0] Zz v5 v45 h_11 fun v46 h_12 =>
 R v46 h_12
 else
 R v5 h_3) : CallsH P Zcu #[v0, v1] h R := zv ⟨[(4, [(5, .v), (6, .b), (7, .i .i64)])], [(8, [(27, .b)]), (11, [(5, .v), (6, .b)])], []⟩ Try.func42 hv
theorem ZiP {x0 : Int} {v1 : Value} (hv :
 vNew h (.cells #[zi 0, .slice none 0 0] ZdQ) fun p4 h_2 =>
 vNewS h_2 (.cells #[] Zz) 0 fun v7 h_3 =>
 lq2 v7 (0 : Int) h_3 fun J n v5 x6 h_4 =>
 vLen v1 fun n10 =>
 bif decide (x6 < (n10 : Int)) then
 vIdx v1 x6 1 fun p17 =>
 ldV h_4 p17 fun v18 =>
 zV Zcu #[v5, v18] h_4 fun v19 h_5 =>
 ag2 J n v19 (zw (x6 + 1)) h_5
 else
 vOne v5 fun _ =>
 vStore1 h_4 p4 (zi x0) fun h_6 =>
 vStore1 h_6 (p4.add 1) v5 fun h_7 =>
 ldI .i64 h_7 p4 fun xres0_0 =>
 ldV h_7 (p4.add 1) fun vres0_1 =>
 R (.agg #[zi xres0_0, vres0_1]) h_7) : CallsH P ZdO #[zi x0, v1] h R := zv ⟨[(3, [(5, .v), (6, .i .i64)])], [], []⟩ Try.func33 hv
theorem Zgn {x0 : Int} {v1 : Value} (hv :
 vNew h (.cells #[zi 0, .slice none 0 0] ZdQ) fun p4 h_2 =>
 vNewS h_2 (.cells #[] Zz) 0 fun v10 h_3 =>
 lq2 v10 (0 : Int) h_3 fun J n v5 x6 h_4 =>
 vLen v1 fun n13 =>
 bif decide (x6 < (n13 : Int)) then
 lq2 v5 (0 : Int) h_4 fun J_2 n_3 v5_2 x7 h_5 =>
 bif decide (x7 < x0) then
 vNewS h_5 (.cells #[] Zp) 0 fun v22 h_6 =>
 lq2 v22 (0 : Int) h_6 fun J_3 n_5 v8 x9 h_7 =>
 bif decide (x9 < x0) then
 vIdx v1 x6 1 fun p31 =>
 ldI .i64 h_7 p31 fun x32 =>
 x0 ≠ 0 ∧
 vNewS h_7 (.cells #[zi (Int.tmod (zw ((zw (x32 * x9)) + x7)) x0)] Zp) 1 fun v39 h_8 =>
 vAppend 1 8 [zi 0] Zp v8 v39 h_8 fun v40 h_9 =>
 ag2 J_3 n_5 v40 (zw (x9 + 1)) h_9
 else
 vOne v8 fun _ =>
 vNewS h_7 (.cells #[v8] Zz) 1 fun v43 h_10 =>
 vAppend 1 24 [.slice none 0 0] Zz v5_2 v43 h_10 fun v44 h_11 =>
 ag2 J_2 n_3 v44 (zw (x7 + 1)) h_11
 else
 ag2 J n v5_2 (zw (x6 + 1)) h_5
 else
 CallsH P ZdO #[zi x0, v5] h_4 fun r47 h_12 => ∃ x47_0_0, ∃ (v47_0_1 : Value), r47 = .agg #[zi x47_0_0, v47_0_1] ∧
 vStore1 h_12 p4 (zi x47_0_0) fun h_13 =>
 vStore1 h_13 (p4.add 1) v47_0_1 fun h_14 =>
 ldI .i64 h_14 p4 fun xres0_0 =>
 ldV h_14 (p4.add 1) fun vres0_1 =>
 R (.agg #[zi xres0_0, vres0_1]) h_14) : CallsH P ZdA #[zi x0, v1] h R := zv ⟨[(3, [(5, .v), (6, .i .i64)]), (6, [(5, .v), (7, .i .i64)]), (10, [(8, .v), (9, .i .i64)])], [], []⟩ Try.func23 hv
theorem ZgY {p0 : Addr} {v1 : Value} (hv :
 vLen v1 fun n8 =>
 zI ZH #[.pointer (some p0), zi (n8 : Int)] h fun x9 h_2 =>
 vIdx v1 x9 1 fun p10 =>
 ldI .i64 h_2 p10 fun x11 =>
 R (zi x11) h_2) : CallsH P ZaX #[.pointer (some p0), v1] h R := zv ⟨[], [], []⟩ Try.func24 hv
theorem Zh9 {x0 x1 x2 : Int} (hv :
 bif decide (x0 ≥ x1) then
 R (.bool (decide (x0 ≤ x2))) h
 else
 R (.bool false) h) : CallsH P Zca #[zi x0, zi x1, zi x2] h R := zv ⟨[], [], []⟩ Try.func50 hv
theorem ZiJ {x0 x1 : Int} (hv :
 ∃ J : Heap → Prop, (
 zB Zca #[zi x0, zi 0, zi 32] h fun b8 h_2 =>
 bif !b8 then
 R (zi 0) h_2
 else
 zB Zca #[zi x1, zi 0, zi x0] h_2 fun b13 h_3 =>
 bif !b13 then
 R (zi 0) h_3
 else
 J h_3
 ) ∧ ∀ (_ : Env) (h_4 : Heap), J h_4 →
 lq2 (1 : Int) (1 : Int) h_4 fun J_2 n x5 x6 h_5 =>
 bif decide (x6 ≤ x1) then
 x6 ≠ 0 ∧
 ag2 J_2 n (zw (Int.tdiv (zw (x5 * (zw ((zw (x0 - x1)) + x6)))) x6)) (zw (x6 + 1)) h_5
 else
 R (zi x5) h_5) : CallsH P Zbp #[zi x0, zi x1] h R := zv ⟨[(5, [(5, .i .i64), (6, .i .i64)])], [(3, [])], []⟩ Try.func43 hv
theorem ZgB {v0 : Value} {x1 : Int} (hv :
 vNewS h (.cells #[] Zp) 0 fun v8 h_2 =>
 lq3 v8 false (0 : Int) h_2 fun J n v5 b6 x7 h_3 =>
 vLen v0 fun n11 =>
 bif decide (x7 < (n11 : Int)) then
 ∃ J_2 : Value → Bool → Heap → Prop, (
 ∃ J_3 : Bool → Heap → Prop, (
 bif !b6 then
 vIdx v0 x7 1 fun p20 =>
 ldI .i64 h_3 p20 fun x21 =>
 J_3 (decide (x21 ≥ x1)) h_3
 else
 J_3 false h_3
 ) ∧ ∀ (_ : Env) (b24 : Bool) (h_4 : Heap), J_3 b24 h_4 →
 bif b24 then
 vIdx v0 x7 1 fun p27 =>
 ldI .i64 h_4 p27 fun x28 =>
 bif decide (x28 > x1) then
 vNewS h_4 (.cells #[zi x1] Zp) 1 fun v33 h_5 =>
 vAppend 1 8 [zi 0] Zp v5 v33 h_5 fun v34 h_6 =>
 J_2 v34 true h_6
 else
 J_2 v5 true h_4
 else
 J_2 v5 b6 h_4
 ) ∧ ∀ (_ : Env) (v5_2 : Value) (b6_2 : Bool) (h_7 : Heap), J_2 v5_2 b6_2 h_7 →
 vIdx v0 x7 1 fun p38 =>
 ldI .i64 h_7 p38 fun x39 =>
 vNewS h_7 (.cells #[zi x39] Zp) 1 fun v40 h_8 =>
 vAppend 1 8 [zi 0] Zp v5_2 v40 h_8 fun v41 h_9 =>
 ag3 J n v41 b6_2 (zw (x7 + 1)) h_9
 else
 bif !b6 then
 vNewS h_3 (.cells #[zi x1] Zp) 1 fun v46 h_10 =>
 vAppend 1 8 [zi 0] Zp v5 v46 h_10 fun v47 h_11 =>
 R v47 h_11
 else
 R v5 h_3) : CallsH P Zd2 #[v0, zi x1] h R := zv ⟨[(4, [(5, .v), (6, .b), (7, .i .i64)])], [(7, [(24, .b)]), (10, [(5, .v), (6, .b)])], []⟩ Try.func52 hv
theorem ZgE {v0 v1 : Value} (hv :
 vNewS h (.cells #[] Zp) 0 fun v7 h_2 =>
 lq2 v7 (0 : Int) h_2 fun J n v5 x6 h_3 =>
 vLen v1 fun n10 =>
 bif decide (x6 < (n10 : Int)) then
 vIdx v1 x6 1 fun p18 =>
 ldI .i64 h_3 p18 fun x19 =>
 vIdx v0 x19 1 fun p20 =>
 ldI .i64 h_3 p20 fun x21 =>
 zV Zd2 #[v5, zi x21] h_3 fun v22 h_4 =>
 ag2 J n v22 (zw (x6 + 1)) h_4
 else
 R v5 h_3) : CallsH P Zdc #[v0, v1] h R := zv ⟨[(3, [(5, .v), (6, .i .i64)])], [], []⟩ Try.func51 hv
theorem Zgo {p0 : Addr} {v1 : Value} (hv :
 vNewS h (.cells #[] Zz) 0 fun v7 h_2 =>
 lq2 v7 (0 : Int) h_2 fun J n v5 x6 h_3 =>
 ldV h_3 (p0.add 1) fun v12 =>
 vLen v12 fun n13 =>
 bif decide (x6 < (n13 : Int)) then
 ldV h_3 (p0.add 1) fun v21 =>
 vIdx v21 x6 1 fun p23 =>
 ldV h_3 p23 fun v24 =>
 zV Zdc #[v24, v1] h_3 fun v26 h_4 =>
 zV Zcu #[v5, v26] h_4 fun v27 h_5 =>
 ag2 J n v27 (zw (x6 + 1)) h_5
 else
 R v5 h_3) : CallsH P ZdD #[.pointer (some p0), v1] h R := zv ⟨[(3, [(5, .v), (6, .i .i64)])], [], []⟩ Try.func44 hv
theorem Zh2 {x0 x1 x2 : Int} (hv :
 vNewS h (.cells #[] Zp) 0 fun v10 h_2 =>
 lq3 x2 v10 (0 : Int) h_2 fun J n x2_2 v7 x8 h_3 =>
 ∃ J_2 : Heap → Prop, (
 vLen v7 fun n12 =>
 bif decide ((n12 : Int) < x1) then
 bif decide (x8 < x0) then
 J_2 h_3
 else
 R v7 h_3
 else
 R v7 h_3
 ) ∧ ∀ (_ : Env) (h_4 : Heap), J_2 h_4 →
 vLen v7 fun n27 =>
 zI Zbp #[zi (zw ((zw (x0 - 1)) - x8)), zi (zw ((zw (x1 - 1)) - (n27 : Int)))] h_4 fun x29 h_5 =>
 bif decide (x2_2 < x29) then
 vNewS h_5 (.cells #[zi x8] Zp) 1 fun v35 h_6 =>
 vAppend 1 8 [zi 0] Zp v7 v35 h_6 fun v36 h_7 =>
 ag3 J n x2_2 v36 (zw (x8 + 1)) h_7
 else
 ag3 J n (zw (x2_2 - x29)) v7 (zw (x8 + 1)) h_5) : CallsH P Zdd #[zi x0, zi x1, zi x2] h R := zv ⟨[(3, [(2, .i .i64), (7, .v), (8, .i .i64)])], [(4, [])], []⟩ Try.func45 hv
theorem ZfZ {x0 : Int} {v1 : Value} (hv :
 vLen v1 fun n11 =>
 lq3 (0 : Int) (0 : Int) (0 : Int) h fun J n x5 x6 x8 h_2 =>
 bif decide (x8 < (n11 : Int)) then
 lq2 x5 x6 h_2 fun J_2 n_3 x5_2 x9 h_3 =>
 vIdx v1 x8 1 fun p21 =>
 ldI .i64 h_3 p21 fun x22 =>
 bif decide (x9 < x22) then
 zI Zbp #[zi (zw ((zw (x0 - 1)) - x9)), zi (zw ((zw ((n11 : Int) - 1)) - x8))] h_3 fun x35 h_4 =>
 ag2 J_2 n_3 (zw (x5_2 + x35)) (zw (x9 + 1)) h_4
 else
 vIdx v1 x8 1 fun p39 =>
 ldI .i64 h_3 p39 fun x40 =>
 ag3 J n x5_2 (zw (x40 + 1)) (zw (x8 + 1)) h_3
 else
 R (zi x5) h_2) : CallsH P ZcO #[zi x0, v1] h R := zv ⟨[(5, [(5, .i .i64), (6, .i .i64), (8, .i .i64)]), (8, [(5, .i .i64), (9, .i .i64)])], [], []⟩ Try.func46 hv
theorem ZhV {p0 : Addr} {x1 : Int} (hv :
 ldI .i64 h p0 fun x14 =>
 zI Zbp #[zi x14, zi x1] h fun x16 h_2 =>
 vMake 1 [.bool false] Zfd x16 x16 h_2 fun v18 h_3 =>
 vNewS h_3 (.cells #[] Zco) 0 fun v19 h_4 =>
 lq2 v19 (0 : Int) h_4 fun J n v7 x8 h_5 =>
 bif decide (x8 < x16) then
 vIdx v18 x8 1 fun p27 =>
 ldB h_5 p27 fun b28 =>
 bif b28 then
 ag2 J n v7 (zw (x8 + 1)) h_5
 else
 ldI .i64 h_5 p0 fun x33 =>
 zV Zdd #[zi x33, zi x1, zi x8] h_5 fun v36 h_6 =>
 zV ZdD #[.pointer (some p0), v36] h_6 fun v37 h_7 =>
 lq1 (0 : Int) h_7 fun J_2 n_3 x10 h_8 =>
 vLen v37 fun n40 =>
 bif decide (x10 < (n40 : Int)) then
 ldI .i64 h_8 p0 fun x48 =>
 vIdx v37 x10 1 fun p51 =>
 ldV h_8 p51 fun v52 =>
 zI ZcO #[zi x48, v52] h_8 fun x53 h_9 =>
 vIdx v18 x53 1 fun p54 =>
 vStore1 h_9 p54 (.bool true) fun h_10 =>
 ag1 J_2 n_3 (zw (x10 + 1)) h_10
 else
 vOne v37 fun _ =>
 vNewS h_8 (.cells #[v37] Zco) 1 fun v57 h_11 =>
 vAppend 1 24 [.slice none 0 0] Zco v7 v57 h_11 fun v58 h_12 =>
 ag2 J n v58 (zw (x8 + 1)) h_12
 else
 R v7 h_5) : CallsH P Zcz #[.pointer (some p0), zi x1] h R := zv ⟨[(5, [(7, .v), (8, .i .i64)]), (10, [(10, .i .i64)])], [], []⟩ Try.func35 hv
theorem Zi2 {v0 : Value} {x1 : Int} (hv :
 lq1 (0 : Int) h fun J n x5 h_2 =>
 vLen v0 fun n8 =>
 bif decide (x5 < (n8 : Int)) then
 vIdx v0 x5 1 fun p14 =>
 ldI .i64 h_2 p14 fun x15 =>
 bif x15 == x1 then
 R (.bool true) h_2
 else
 ag1 J n (zw (x5 + 1)) h_2
 else
 R (.bool false) h_2) : CallsH P ZcX #[v0, zi x1] h R := zv ⟨[(2, [(5, .i .i64)])], [], []⟩ Try.func47 hv
theorem Zjv {v0 v1 : Value} (hv :
 lq1 (0 : Int) h fun J n x5 h_2 =>
 vLen v0 fun n8 =>
 bif decide (x5 < (n8 : Int)) then
 vIdx v0 x5 1 fun p15 =>
 ldI .i64 h_2 p15 fun x16 =>
 zB ZcX #[v1, zi x16] h_2 fun b17 h_3 =>
 bif !b17 then
 R (.bool false) h_3
 else
 ag1 J n (zw (x5 + 1)) h_3
 else
 R (.bool true) h_2) : CallsH P Zeg #[v0, v1] h R := zv ⟨[(2, [(5, .i .i64)])], [], []⟩ Try.func36 hv
theorem Zg2 {p0 : Addr} {x1 x2 : Int} (hv :
 zV Zcz #[.pointer (some p0), zi x1] h fun v17 h_2 =>
 zV Zcz #[.pointer (some p0), zi x2] h_2 fun v20 h_3 =>
 vNewS h_3 (.cells #[] Zz) 0 fun v21 h_4 =>
 lq2 v21 (0 : Int) h_4 fun J n v9 x10 h_5 =>
 vLen v17 fun n24 =>
 bif decide (x10 < (n24 : Int)) then
 vNewS h_5 (.cells #[] Zp) 0 fun v28 h_6 =>
 lq2 v28 (0 : Int) h_6 fun J_2 n_3 v11 x12 h_7 =>
 vLen v20 fun n31 =>
 bif decide (x12 < (n31 : Int)) then
 lq2 (0 : Int) (0 : Int) h_7 fun J_3 n_5 x13 x14 h_8 =>
 vIdx v20 x12 1 fun p38 =>
 ldV h_8 p38 fun v39 =>
 vLen v39 fun n40 =>
 bif decide (x14 < (n40 : Int)) then
 vIdx v17 x10 1 fun p46 =>
 ldV h_8 p46 fun v47 =>
 vIdx v47 0 1 fun p48 =>
 ldV h_8 p48 fun v49 =>
 vIdx v20 x12 1 fun p52 =>
 ldV h_8 p52 fun v53 =>
 vIdx v53 x14 1 fun p55 =>
 ldV h_8 p55 fun v56 =>
 zB Zeg #[v49, v56] h_8 fun b57 h_9 =>
 bif b57 then
 ag2 J_3 n_5 (zw (x13 + 1)) (zw (x14 + 1)) h_9
 else
 ag2 J_3 n_5 x13 (zw (x14 + 1)) h_9
 else
 vNewS h_8 (.cells #[zi x13] Zp) 1 fun v62 h_10 =>
 vAppend 1 8 [zi 0] Zp v11 v62 h_10 fun v63 h_11 =>
 ag2 J_2 n_3 v63 (zw (x12 + 1)) h_11
 else
 vOne v11 fun _ =>
 vNewS h_7 (.cells #[v11] Zz) 1 fun v66 h_12 =>
 vAppend 1 24 [.slice none 0 0] Zz v9 v66 h_12 fun v67 h_13 =>
 ag2 J n v67 (zw (x10 + 1)) h_13
 else
 R v9 h_5) : CallsH P Zem #[.pointer (some p0), zi x1, zi x2] h R := zv ⟨[(5, [(9, .v), (10, .i .i64)]), (9, [(11, .v), (12, .i .i64)]), (13, [(13, .i .i64), (14, .i .i64)])], [], []⟩ Try.func26 hv
theorem Zja {p0 : Addr} (hv :
 zB Zcb #[.pointer (some p0), zi 3] h fun b12 h_2 =>
 bif b12 then
 vNewS h_2 (.cells #[zi 5, zi 6, zi 7, zi 8, zi 9] Zp) 5 fun v14 h_3 =>
 zI ZaX #[.pointer (some p0), v14] h_3 fun x15 h_4 =>
 vNewS h_4 (.cells #[zi 1] Zp) 1 fun v16 h_5 =>
 CallsH P ZdA #[zi x15, v16] h_5 fun r17 h_6 => ∃ x17_0_0, ∃ (v17_0_1 : Value), r17 = .agg #[zi x17_0_0, v17_0_1] ∧
 vNew h_6 (.cells #[zi 0, .slice none 0 0] ZdQ) fun p3 h_7 =>
 vStore1 h_7 p3 (zi x17_0_0) fun h_8 =>
 vStore1 h_8 (p3.add 1) v17_0_1 fun h_9 =>
 zI ZH #[.pointer (some p0), zi 2] h_9 fun x19 h_10 =>
 zV Zem #[.pointer (some p3), zi 2, zi (zw (x19 + 3))] h_10 fun v22 h_11 =>
 R v22 h_11
 else
 zI ZH #[.pointer (some p0), zi 4] h_2 fun x24 h_12 =>
 zI ZH #[.pointer (some p0), zi 9] h_12 fun x27 h_13 =>
 vNewS h_13 (.cells #[] Zz) 0 fun v28 h_14 =>
 lq2 v28 (0 : Int) h_14 fun J n v7 x8 h_15 =>
 bif decide (x8 < (zw (x24 + 1))) then
 vNewS h_15 (.cells #[] Zp) 0 fun v34 h_16 =>
 lq2 v34 (0 : Int) h_16 fun J_2 n_3 v9 x10 h_17 =>
 bif decide (x10 < x27) then
 zI ZH #[.pointer (some p0), zi 3] h_17 fun x42 h_18 =>
 vNewS h_18 (.cells #[zi x42] Zp) 1 fun v43 h_19 =>
 vAppend 1 8 [zi 0] Zp v9 v43 h_19 fun v44 h_20 =>
 ag2 J_2 n_3 v44 (zw (x10 + 1)) h_20
 else
 vOne v9 fun _ =>
 vNewS h_17 (.cells #[v9] Zz) 1 fun v47 h_21 =>
 vAppend 1 24 [.slice none 0 0] Zz v7 v47 h_21 fun v48 h_22 =>
 ag2 J n v48 (zw (x8 + 1)) h_22
 else
 zI ZH #[.pointer (some p0), zi 12] h_15 fun x50 h_23 =>
 bif x50 == 0 then
 vNewS h_23 (.cells #[] Zz) 0 fun v53 h_24 =>
 R v53 h_24
 else
 bif x50 == 1 then
 vIdx v7 0 1 fun p58 =>
 ldV h_23 p58 fun v59 =>
 vNewS h_23 (.cells #[zi 1] Zp) 1 fun v60 h_25 =>
 vAppend 1 8 [zi 0] Zp v59 v60 h_25 fun v61 h_26 =>
 vIdx v7 0 1 fun p62 =>
 vStore1 h_26 p62 v61 fun h_27 =>
 R v7 h_27
 else
 bif x50 == 2 then
 bif decide (x27 > 0) then
 vK (fun K : Heap → Prop =>
 (
 vIdx v7 0 1 fun p68 =>
 ldV h_23 p68 fun v69 =>
 vNewS h_23 (.cells #[zi (-1), zi 2000, zi 2001] Zp) 3 fun v71 h_28 =>
 zI ZaX #[.pointer (some p0), v71] h_28 fun x72 h_29 =>
 vIdx v69 0 1 fun p73 =>
 vStore1 h_29 p73 (zi x72) fun h_30 =>
 K h_30
 ) ∧
 (
 vNewS h_23 (.cells #[zi (-1), zi 2000, zi 2001] Zp) 3 fun v71_2 h_31 =>
 (
 vIdx v7 0 1 fun p68_2 =>
 ldV h_31 p68_2 fun v69_2 =>
 zI ZaX #[.pointer (some p0), v71_2] h_31 fun x72_2 h_32 =>
 vIdx v69_2 0 1 fun p73_2 =>
 vStore1 h_32 p73_2 (zi x72_2) fun h_33 =>
 K h_33
 ) ∧
 (
 zI ZaX #[.pointer (some p0), v71_2] h_31 fun x72_3 h_34 =>
 vIdx v7 0 1 fun p68_3 =>
 ldV h_34 p68_3 fun v69_3 =>
 vIdx v69_3 0 1 fun p73_3 =>
 vStore1 h_34 p73_3 (zi x72_3) fun h_35 =>
 K h_35
 )
 )
 ) fun h_36 =>
 R v7 h_36
 else
 R v7 h_23
 else
 R v7 h_23) : CallsH P Zc2 #[.pointer (some p0)] h R := zv ⟨[(9, [(7, .v), (8, .i .i64)]), (13, [(9, .v), (10, .i .i64)])], [], [(24, [2])]⟩ Try.func10 hv
theorem Zf6 {p0 : Addr} (hv :
 zB Zcb #[.pointer (some p0), zi 8] h fun b4 h_2 =>
 bif b4 then
 vNewS h_2 (.cells #[zi 0, zi (-1), zi 2000, zi 2001] Zp) 4 fun v6 h_3 =>
 zI ZaX #[.pointer (some p0), v6] h_3 fun x7 h_4 =>
 R (zi x7) h_4
 else
 zI ZH #[.pointer (some p0), zi 5] h_2 fun x9 h_5 =>
 R (zi (zw (x9 + 1))) h_5) : CallsH P Zeb #[.pointer (some p0)] h R := zv ⟨[], [], []⟩ Try.func11 hv
theorem Zhj {p0 : Addr} (hv :
 zI ZH #[.pointer (some p0), zi 8] h fun x4 h_2 =>
 bif x4 == 0 then
 vNewS h_2 (.cells #[zi 0, zi 1, zi (-1), zi 20000, zi 20001] Zp) 5 fun v8 h_3 =>
 zI ZaX #[.pointer (some p0), v8] h_3 fun x9 h_4 =>
 R (zi x9) h_4
 else
 bif x4 == 1 then
 zI ZH #[.pointer (some p0), zi 30] h_2 fun x13 h_5 =>
 R (zi (zw (x13 + 1))) h_5
 else
 zI ZH #[.pointer (some p0), zi 1000] h_2 fun x16 h_6 =>
 R (zi (zw (300 + x16))) h_6) : CallsH P ZcR #[.pointer (some p0)] h R := zv ⟨[], [], []⟩ Try.func12 hv
theorem ZgZ {v0 : Value} (hv :
 CallsH P Zdl #[v0] h fun r9 h_2 => ∃ (p9 : Addr), r9 = .pointer (some p9) ∧
 zV Zc2 #[.pointer (some p9)] h_2 fun v11 h_3 =>
 zI Zeb #[.pointer (some p9)] h_3 fun x13 h_4 =>
 zI ZcR #[.pointer (some p9)] h_4 fun x17 h_5 =>
 R (.tuple #[v11, zi x13, zi x17]) h_5) : CallsH P Zde #[v0] h R := zv ⟨[], [], []⟩ Try.func5 hv
theorem Zg9 {x0 x1 x2 : Int} (hv :
 bif decide (x0 ≥ x1) then
 R (.bool (decide (x0 ≤ x2))) h
 else
 R (.bool false) h) : CallsH P Z3 #[zi x0, zi x1, zi x2] h R := zv ⟨[], [], []⟩ Try.func17 hv
theorem ZhD {v0 : Value} {g1 : Nat} {cap1 : List Value} (hv :
 vLen v0 fun n7 =>
 lq1 (0 : Int) h fun J n x8 h_2 =>
 bif decide (x8 < (n7 : Int)) then
 vIdx v0 x8 1 fun p14 =>
 ldV h_2 p14 fun v15 =>
 vOkf ctx g1 fun _ =>
 CallsH P g1 (([v15] : List Value) ++ cap1).toArray h_2 fun r16 h_3 => ∃ (b16 : Bool), r16 = .bool b16 ∧
 bif b16 then
 R (zi x8) h_3
 else
 ag1 J n (zw (x8 + 1)) h_3
 else
 R (zi (-1)) h_2) : CallsH P ZdW #[v0, .func (.func g1) #[] cap1.toArray] h R := zv ⟨[(2, [(8, .i .i64)])], [], []⟩ Try.func32 hv
theorem ZfQ {v0 : Value} {g1 : Nat} {cap1 : List Value} (hv :
 zI ZdW #[v0, .func (.func g1) #[] cap1.toArray] h fun x7 h_2 =>
 R (.bool (decide (x7 ≥ 0))) h_2) : CallsH P Zb3 #[v0, .func (.func g1) #[] cap1.toArray] h R := zv ⟨[], [], []⟩ Try.func20 hv
theorem Zh7 {v0 : Value} (hv :
 vLen v0 fun n4 =>
 R (zi (n4 : Int)) h) : CallsH P ZdB #[v0] h R := zv ⟨[], [], []⟩ Try.func27 hv
theorem Zjd {v0 : Value} {g1 : Nat} {cap1 : List Value} (hv :
 vLen v0 fun n7 =>
 lq1 (0 : Int) h fun J n x8 h_2 =>
 bif decide (x8 < (n7 : Int)) then
 vIdx v0 x8 1 fun p14 =>
 ldI .i64 h_2 p14 fun x15 =>
 vOkf ctx g1 fun _ =>
 CallsH P g1 (([zi x15] : List Value) ++ cap1).toArray h_2 fun r16 h_3 => ∃ (b16 : Bool), r16 = .bool b16 ∧
 bif b16 then
 R (zi x8) h_3
 else
 ag1 J n (zw (x8 + 1)) h_3
 else
 R (zi (-1)) h_2) : CallsH P Zdx #[v0, .func (.func g1) #[] cap1.toArray] h R := zv ⟨[(2, [(8, .i .i64)])], [], []⟩ Try.func48 hv
theorem Zgp {v0 : Value} {g1 : Nat} {cap1 : List Value} (hv :
 zI Zdx #[v0, .func (.func g1) #[] cap1.toArray] h fun x7 h_2 =>
 R (.bool (decide (x7 ≥ 0))) h_2) : CallsH P Zc4 #[v0, .func (.func g1) #[] cap1.toArray] h R := zv ⟨[], [], []⟩ Try.func37 hv
theorem ZfN {x0 : Int} {p1 : Addr} (hv :
 ldI .i64 h p1 fun x5 =>
 zB Z3 #[zi x0, zi 0, zi (zw (x5 - 1))] h fun b7 h_2 =>
 R (.bool (!b7)) h_2) : CallsH P ZcY #[zi x0, .pointer (some p1)] h R := zv ⟨[], [], []⟩ Try.func38 hv
theorem ZjG {x0 : Int} {v1 : Value} (hv :
 vNew h (.cells #[zi x0] Zp) fun p2 h_2 =>
 zB Zc4 #[v1, .func (.func ZcY) #[] #[.pointer (some p2)]] h_2 fun b7 h_3 =>
 R (.bool (!b7)) h_3) : CallsH P ZcU #[zi x0, v1] h R := zv ⟨[], [], []⟩ Try.func29 hv
theorem Zjt {v0 : Value} {p1 : Addr} (hv :
 vLen v0 fun n5 =>
 ldV h p1 fun v6 =>
 vIdx v6 0 1 fun p7 =>
 ldV h p7 fun v8 =>
 vLen v8 fun n9 =>
 bif (n5 : Int) != (n9 : Int) then
 R (.bool true) h
 else
 zB ZcU #[zi 2001, v0] h fun b13 h_2 =>
 R (.bool (!b13)) h_2) : CallsH P ZdN #[v0, .pointer (some p1)] h R := zv ⟨[], [], []⟩ Try.func28 hv
theorem ZhT {v0 : Value} (hv :
 vOne v0 fun _ =>
 vNew h (.cells #[v0] Zco) fun p1 h_2 =>
 ∃ J : Heap → Prop, (
 ldV h_2 p1 fun v3 =>
 zI ZdB #[v3] h_2 fun x4 h_3 =>
 zB Z3 #[zi x4, zi 1, zi 2000] h_3 fun b5 h_4 =>
 bif !b5 then
 R (.bool false) h_4
 else
 ldV h_4 p1 fun v8 =>
 vIdx v8 0 1 fun p9 =>
 ldV h_4 p9 fun v10 =>
 vLen v10 fun n11 =>
 bif decide ((n11 : Int) > 2000) then
 R (.bool false) h_4
 else
 J h_4
 ) ∧ ∀ (_ : Env) (h_5 : Heap), J h_5 →
 ldV h_5 p1 fun v14 =>
 zB Zb3 #[v14, .func (.func ZdN) #[] #[.pointer (some p1)]] h_5 fun b16 h_6 =>
 R (.bool (!b16)) h_6) : CallsH P Zbn #[v0] h R := zv ⟨[], [(3, [])], []⟩ Try.func13 hv
theorem ZgJ {x0 : Int} (hv :
 zB Z3 #[zi x0, zi 1, zi 20000] h fun b4 h_2 =>
 R (.bool b4) h_2) : CallsH P Zcc #[zi x0] h R := zv ⟨[], [], []⟩ Try.func14 hv
theorem Zf3 {x0 : Int} (hv :
 zB Z3 #[zi x0, zi 1, zi 2000] h fun b4 h_2 =>
 R (.bool b4) h_2) : CallsH P Zbm #[zi x0] h R := zv ⟨[], [], []⟩ Try.func15 hv
theorem ZgD {p0 : Addr} {v1 : Value} {x2 x3 : Int} (hv :
 ldV h (p0.add 2) fun v13 =>
 vLen v13 fun n14 =>
 lq1 (0 : Int) h fun J n x15 h_2 =>
 bif decide (x15 < (n14 : Int)) then
 vIdx v13 x15 1 fun p18 =>
 ldV h_2 p18 fun v19 =>
 vIdx v1 x15 1 fun p22 =>
 ldI .i64 h_2 p22 fun x23 =>
 vIdx v19 x2 1 fun p27 =>
 ldI .i64 h_2 p27 fun x28 =>
 vIdx v1 x15 1 fun p31 =>
 vStore1 h_2 p31 (zi (zw (x23 + (zw (x3 * x28))))) fun h_3 =>
 ag1 J n (zw (x15 + 1)) h_3
 else
 R (.tuple #[]) h_2) : CallsH P Zad #[.pointer (some p0), v1, zi x2, zi x3] h R := zv ⟨[(1, [(15, .i .i64)])], [], []⟩ Try.func30 hv
theorem Zf4 {p0 : Addr} (hv :
 ldV h (p0.add 5) fun v8 =>
 vLen v8 fun n9 =>
 lq1 (0 : Int) h fun J n x10 h_2 =>
 bif decide (x10 < (n9 : Int)) then
 vIdx v8 x10 1 fun p13 =>
 ldI .i64 h_2 p13 fun x14 =>
 ldI .i64 h_2 (p0.add 3) fun x19 =>
 bif decide (x14 > x19) then
 R (.bool false) h_2
 else
 ldV h_2 (p0.add 6) fun v26 =>
 vIdx v26 x10 1 fun p28 =>
 ldI .i64 h_2 p28 fun x29 =>
 ldI .i64 h_2 (p0.add 3) fun x34 =>
 bif decide ((zw (x14 + x29) : Int) < x34) then
 R (.bool false) h_2
 else
 ag1 J n (zw (x10 + 1)) h_2
 else
 R (.bool true) h_2) : CallsH P Zb7 #[.pointer (some p0)] h R := zv ⟨[(2, [(10, .i .i64)])], [], []⟩ Try.func39 hv
theorem ZgH {v0 : Value} (hv :
 vNilS false v0 fun b4 =>
 bif b4 then
 R (.slice none 0 0) h
 else
 vNewS h (.cells #[] Zp) 0 fun v5 h_2 =>
 vAppend 1 8 [zi 0] Zp v5 v0 h_2 fun v7 h_3 =>
 R v7 h_3) : CallsH P ZdG #[v0] h R := zv ⟨[], [], []⟩ Try.func40 hv
theorem ZiG {p0 : Addr} (hv :
 ldI .i64 h p0 fun x6 =>
 bif x6 == 0 then
 vStore1 h (p0.add 1) (.bool true) fun h_2 =>
 R (.bool false) h_2
 else
 ldI .i64 h p0 fun x14 =>
 vStore1 h p0 (zi (zw (x14 - 1))) fun h_3 =>
 R (.bool true) h_3) : CallsH P Zd8 #[.pointer (some p0)] h R := zv ⟨[], [], []⟩ Try.func41 hv
theorem ZiB {p0 : Addr} {x1 : Int} (hv :
 ldV h (p0.add 2) fun v10 =>
 vIdx v10 0 1 fun p11 =>
 ldV h p11 fun v12 =>
 vLen v12 fun n13 =>
 bif x1 == (n13 : Int) then
 zB Zb7 #[.pointer (some p0)] h fun b16 h_2 =>
 bif b16 then
 ∃ J : Heap → Prop, (
 ldI .i64 h_2 (p0.add 8) fun x20 =>
 bif x20 == 0 then
 ldV h_2 (p0.add 7) fun v26 =>
 zV ZdG #[v26] h_2 fun v27 h_3 =>
 vStore1 h_3 (p0.add 9) v27 fun h_4 =>
 J h_4
 else
 J h_2
 ) ∧ ∀ (_ : Env) (h_5 : Heap), J h_5 →
 ldI .i64 h_5 (p0.add 8) fun x33 =>
 vStore1 h_5 (p0.add 8) (zi (zw (x33 + 1))) fun h_6 =>
 R (.tuple #[]) h_6
 else
 R (.tuple #[]) h_2
 else
 ldV h (p0.add 6) fun v41 =>
 CallsH P Zad #[.pointer (some p0), v41, zi x1, zi (-1)] h fun r43 h_7 => r43 = .tuple #[] ∧
 vNewS h_7 (.cells #[.bool true, .bool false] Zfd) 2 fun v44 h_8 =>
 vLen v44 fun n45 =>
 lq1 (0 : Int) h_8 fun J_2 n x46 h_9 =>
 bif decide (x46 < (n45 : Int)) then
 vIdx v44 x46 1 fun p48 =>
 ldB h_9 p48 fun b49 =>
 ∃ J_3 : Heap → Prop, (
 bif b49 then
 ldV h_9 (p0.add 5) fun v55 =>
 CallsH P Zad #[.pointer (some p0), v55, zi x1, zi 1] h_9 fun r57 h_10 => r57 = .tuple #[] ∧
 ldV h_10 (p0.add 7) fun v62 =>
 vNewS h_10 (.cells #[zi x1] Zp) 1 fun v64 h_11 =>
 vAppend 1 8 [zi 0] Zp v62 v64 h_11 fun v65 h_12 =>
 vStore1 h_12 (p0.add 7) v65 fun h_13 =>
 J_3 h_13
 else
 J_3 h_9
 ) ∧ ∀ (_ : Env) (h_14 : Heap), J_3 h_14 →
 ∃ J_4 : Heap → Prop, (
 zB Zb7 #[.pointer (some p0)] h_14 fun b69 h_15 =>
 bif b69 then
 ldI .i64 h_15 (p0.add 8) fun x74 =>
 ldI .i64 h_15 (p0.add 4) fun x78 =>
 bif decide (x74 < x78) then
 ldB h_15 (p0.add 1) fun b86 =>
 bif !b86 then
 zB Zd8 #[.pointer (some p0)] h_15 fun b93 h_16 =>
 bif b93 then
 CallsH P Z9 #[.pointer (some p0), zi (zw (x1 + 1))] h_16 fun r98 h_17 => r98 = .tuple #[] ∧
 J_4 h_17
 else
 J_4 h_16
 else
 J_4 h_15
 else
 J_4 h_15
 else
 J_4 h_15
 ) ∧ ∀ (_ : Env) (h_18 : Heap), J_4 h_18 →
 bif b49 then
 ldV h_18 (p0.add 5) fun v104 =>
 CallsH P Zad #[.pointer (some p0), v104, zi x1, zi (-1)] h_18 fun r106 h_19 => r106 = .tuple #[] ∧
 ldV h_19 (p0.add 7) fun v111 =>
 ldV h_19 (p0.add 7) fun v115 =>
 vLen v115 fun n116 =>
 vSliceS v111 1 none (some (zi (zw ((n116 : Int) - 1)))) none fun v118 =>
 vStore1 h_19 (p0.add 7) v118 fun h_20 =>
 ag1 J_2 n (zw (x46 + 1)) h_20
 else
 ag1 J_2 n (zw (x46 + 1)) h_18
 else
 ldV h_9 (p0.add 6) fun v126 =>
 CallsH P Zad #[.pointer (some p0), v126, zi x1, zi 1] h_9 fun r128 h_21 => r128 = .tuple #[] ∧
 R (.tuple #[]) h_21) : CallsH P Z9 #[.pointer (some p0), zi x1] h R := zv ⟨[(7, [(46, .i .i64)])], [(4, []), (12, []), (14, [])], []⟩ Try.func31 hv
theorem ZgG {v0 : Value} {x1 x2 x3 : Int} (hv :
 (
 vLen v0 fun n17 =>
 vMake 8 [zi 0] Zp (n17 : Int) (n17 : Int) h fun v18 h_2 =>
 vLen v0 fun n20 =>
 vMake 8 [zi 0] Zp (n20 : Int) (n20 : Int) h_2 fun v21 h_3 =>
 vOne v0 fun _ =>
 vOne v18 fun _ =>
 vOne v21 fun _ =>
 vNew h_3 (.cells #[zi x3, .bool false, v0, zi x1, zi x2, v18, v21, (.slice none 0 0), zi 0, (.slice none 0 0)] ZeY) fun p23 h_4 =>
 vIdx v0 0 1 fun p25 =>
 ldV h_4 p25 fun v26 =>
 vLen v26 fun n27 =>
 lq1 (0 : Int) h_4 fun J n x28 h_5 =>
 bif decide (x28 < (n27 : Int)) then
 ldV h_5 (p23.add 6) fun v35 =>
 CallsH P Zad #[.pointer (some p23), v35, zi x28, zi 1] h_5 fun r37 h_6 => r37 = .tuple #[] ∧
 ag1 J n (zw (x28 + 1)) h_6
 else
 CallsH P Z9 #[.pointer (some p23), zi 0] h_5 fun r40 h_7 => r40 = .tuple #[] ∧
 R (.pointer (some p23)) h_7
 ) ∧
 (
 vLen v0 fun n20_2 =>
 vMake 8 [zi 0] Zp (n20_2 : Int) (n20_2 : Int) h fun v21_2 h_8 =>
 vLen v0 fun n17_2 =>
 vMake 8 [zi 0] Zp (n17_2 : Int) (n17_2 : Int) h_8 fun v18_2 h_9 =>
 vOne v0 fun _ =>
 vOne v18_2 fun _ =>
 vOne v21_2 fun _ =>
 vNew h_9 (.cells #[zi x3, .bool false, v0, zi x1, zi x2, v18_2, v21_2, (.slice none 0 0), zi 0, (.slice none 0 0)] ZeY) fun p23_2 h_10 =>
 vIdx v0 0 1 fun p25_2 =>
 ldV h_10 p25_2 fun v26_2 =>
 vLen v26_2 fun n27_2 =>
 lq1 (0 : Int) h_10 fun J_2 n_3 x28_2 h_11 =>
 bif decide (x28_2 < (n27_2 : Int)) then
 ldV h_11 (p23_2.add 6) fun v35_2 =>
 CallsH P Zad #[.pointer (some p23_2), v35_2, zi x28_2, zi 1] h_11 fun r37_2 h_12 => r37_2 = .tuple #[] ∧
 ag1 J_2 n_3 (zw (x28_2 + 1)) h_12
 else
 CallsH P Z9 #[.pointer (some p23_2), zi 0] h_11 fun r40_2 h_13 => r40_2 = .tuple #[] ∧
 R (.pointer (some p23_2)) h_13
 )) : CallsH P Zcf #[v0, zi x1, zi x2, zi x3] h R := zv ⟨[(3, [(28, .i .i64)])], [], []⟩ Try.func16 hv
theorem Zf5 {v0 : Value} {x1 x2 : Int} (hv :
 zB Zbn #[v0] h fun b10 h_2 =>
 bif !b10 then
 R (.tuple #[(.slice none 0 0), zi 1]) h_2
 else
 ∃ J : Heap → Prop, (
 zB Zcc #[zi x2] h_2 fun b13 h_3 =>
 bif !b13 then
 R (.tuple #[(.slice none 0 0), zi 2]) h_3
 else
 zB Zbm #[zi x1] h_3 fun b17 h_4 =>
 bif !b17 then
 R (.tuple #[(.slice none 0 0), zi 2]) h_4
 else
 J h_4
 ) ∧ ∀ (_ : Env) (h_5 : Heap), J h_5 →
 CallsH P Zcf #[v0, zi x1, zi 1, zi x2] h_5 fun r23 h_6 => ∃ (p23 : Addr), r23 = .pointer (some p23) ∧
 ldB h_6 (p23.add 1) fun b33 =>
 bif b33 then
 R (.tuple #[(.slice none 0 0), zi 5]) h_6
 else
 ldI .i64 h_6 (p23.add 8) fun x38 =>
 bif x38 == 0 then
 R (.tuple #[(.slice none 0 0), zi 3]) h_6
 else
 ldV h_6 (p23.add 9) fun v27 =>
 R (.tuple #[v27, zi 0]) h_6) : CallsH P Zd6 #[v0, zi x1, zi x2] h R := zv ⟨[], [(5, [])], []⟩ Try.func6 hv
theorem Zgy {v0 : Value} {x1 x2 x3 : Int} (hv :
 zB Zbn #[v0] h fun b12 h_2 =>
 bif !b12 then
 R (.tuple #[zi 0, zi 1]) h_2
 else
 ∃ J : Heap → Prop, (
 zB Zcc #[zi x3] h_2 fun b15 h_3 =>
 bif !b15 then
 R (.tuple #[zi 0, zi 2]) h_3
 else
 zB Zbm #[zi x1] h_3 fun b19 h_4 =>
 bif !b19 then
 R (.tuple #[zi 0, zi 2]) h_4
 else
 zB Z3 #[zi x2, zi 1, zi 1000] h_4 fun b24 h_5 =>
 bif !b24 then
 R (.tuple #[zi 0, zi 2]) h_5
 else
 J h_5
 ) ∧ ∀ (_ : Env) (h_6 : Heap), J h_6 →
 CallsH P Zcf #[v0, zi x1, zi x2, zi x3] h_6 fun r31 h_7 => ∃ (p31 : Addr), r31 = .pointer (some p31) ∧
 ldB h_7 (p31.add 1) fun b36 =>
 bif b36 then
 R (.tuple #[zi 0, zi 5]) h_7
 else
 ldI .i64 h_7 (p31.add 8) fun x40 =>
 R (.tuple #[zi x40, zi 0]) h_7) : CallsH P Zda #[v0, zi x1, zi x2, zi x3] h R := zv ⟨[], [(5, [])], []⟩ Try.func7 hv
theorem Zgc {v0 : Value} {x1 : Int} (hv :
 vLen v0 fun n9 =>
 lq2 ((-1) : Int) (0 : Int) h fun J n x5 x10 h_2 =>
 bif decide (x10 < (n9 : Int)) then
 vIdx v0 x10 1 fun p12 =>
 ldI .i64 h_2 p12 fun x13 =>
 zB Z3 #[zi x13, zi (zw (x5 + 1)), zi (zw (x1 - 1))] h_2 fun b19 h_3 =>
 bif !b19 then
 R (.bool false) h_3
 else
 ag2 J n x13 (zw (x10 + 1)) h_3
 else
 R (.bool true) h_2) : CallsH P Zdt #[v0, zi x1] h R := zv ⟨[(3, [(5, .i .i64), (10, .i .i64)])], [], []⟩ Try.func18 hv
theorem Zf2 {v0 : Value} (hv :
 vLen v0 fun n4 =>
 R (zi (n4 : Int)) h) : CallsH P Zej #[v0] h R := zv ⟨[], [], []⟩ Try.func19 hv
theorem ZjC {v0 : Value} {p1 p2 : Addr} (hv :
 ldV h p1 fun v8 =>
 vLen v8 fun n9 =>
 lq2 (0 : Int) (0 : Int) h fun J n x5 x10 h_2 =>
 bif decide (x10 < (n9 : Int)) then
 vIdx v8 x10 1 fun p12 =>
 ldI .i64 h_2 p12 fun x13 =>
 vIdx v0 x13 1 fun p17 =>
 ldI .i64 h_2 p17 fun x18 =>
 ag2 J n (zw (x5 + x18)) (zw (x10 + 1)) h_2
 else
 ldI .i64 h_2 p2 fun x22 =>
 R (.bool (x5 != x22)) h_2) : CallsH P ZcV #[v0, .pointer (some p1), .pointer (some p2)] h R := zv ⟨[(3, [(5, .i .i64), (10, .i .i64)])], [], []⟩ Try.func21 hv
theorem ZhI {v0 : Value} {x1 : Int} {v2 : Value} (hv :
 vNew h (.cells #[zi x1] Zp) fun p4 h_2 =>
 vOne v2 fun _ =>
 vNew h_2 (.cells #[v2] Zz) fun p5 h_3 =>
 zB Zbn #[v0] h_3 fun b9 h_4 =>
 bif !b9 then
 R (.tuple #[.bool false, zi 1]) h_4
 else
 ldI .i64 h_4 p4 fun x11 =>
 zB Zbm #[zi x11] h_4 fun b12 h_5 =>
 bif !b12 then
 R (.tuple #[.bool false, zi 2]) h_5
 else
 ∃ B : Nat → Prop,
 vIdx v0 0 1 fun p16 =>
 ldV h_5 p16 fun v17 =>
 zI Zej #[v17] h_5 fun x18 h_6 =>
 ExtBut B h_5 h_6 ∧
 ldV (hmask B h_5) p5 fun v14 =>
 zB Zdt #[v14, zi x18] h_6 fun b19 h_7 =>
 bif !b19 then
 R (.tuple #[.bool false, zi 0]) h_7
 else
 zB Zb3 #[v0, .func (.func ZcV) #[] #[.pointer (some p5), .pointer (some p4)]] h_7 fun b23 h_8 =>
 R (.tuple #[.bool (!b23), zi 0]) h_8) : CallsH P Zea #[v0, zi x1, v2] h R := zv ⟨[], [], []⟩ Try.func8 hv
theorem Zhk {v0 : Value} (hv :
 zB ZcP #[v0] h fun b13 h_2 =>
 bif b13 then
 R (.bool true) h_2
 else
 CallsH P Zde #[v0] h_2 fun r16 h_3 => ∃ (v16_0 : Value), ∃ x16_1, ∃ x16_2, r16 = .tuple #[v16_0, zi x16_1, zi x16_2] ∧
 CallsH P Zd6 #[v16_0, zi x16_1, zi x16_2] h_3 fun r24 h_4 => ∃ (v24_0 : Value), ∃ x24_1, r24 = .tuple #[v24_0, zi x24_1] ∧
 CallsH P Zda #[v16_0, zi x16_1, zi 1, zi x16_2] h_4 fun r31 h_5 => ∃ x31_0, ∃ x31_1, r31 = .tuple #[zi x31_0, zi x31_1] ∧
 bif x24_1 != 0 then
 bif x24_1 == 3 then
 bif x31_1 == 0 then
 bif x31_0 == 0 then
 vLen v24_0 fun n46 =>
 R (.bool ((n46 : Int) == 0)) h_5
 else
 R (.bool false) h_5
 else
 R (.bool false) h_5
 else
 bif x31_1 == x24_1 then
 vLen v24_0 fun n54 =>
 R (.bool ((n54 : Int) == 0)) h_5
 else
 R (.bool false) h_5
 else
 CallsH P Zea #[v16_0, zi x16_1, v24_0] h_5 fun r61 h_6 => ∃ (b61_0 : Bool), ∃ x61_1, r61 = .tuple #[.bool b61_0, zi x61_1] ∧
 bif x31_1 == 0 then
 bif x31_0 == 1 then
 bif x61_1 == 0 then
 R (.bool b61_0) h_6
 else
 R (.bool false) h_6
 else
 R (.bool false) h_6
 else
 R (.bool false) h_6) : CallsH P Zd4 #[v0] h R := zv ⟨[], [], []⟩ Try.func3 hv
end Go.Proofs.Ytocnokjekoglnaa
