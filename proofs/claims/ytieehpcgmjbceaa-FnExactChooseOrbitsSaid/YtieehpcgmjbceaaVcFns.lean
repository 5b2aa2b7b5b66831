/- Shallow verification conditions of the functions of this seat, printed by gen.py; each is held against the program by the kernel. -/
import Derived.Test.YtieehpcgmjbceaaVcSoundE
import Derived.Test.YtieehpcgmjbceaaProg
import Derived.KernelRfl
namespace Go.Proofs.Ytieehpcgmjbceaa
open Go Go.Vc Go.Proofs
set_option linter.unusedVariables false
set_option maxRecDepth 100000
noncomputable abbrev P : Program := Try.prog
abbrev id_laws_eqInt64S : Nat := 19
abbrev id_laws_markInt64S : Nat := 20
abbrev id_laws_heldInt64S : Nat := 21
abbrev id_laws_szInt64S : Nat := 53
abbrev id_laws_szInt64SS : Nat := 27
abbrev id_laws_toInt64S : Nat := 59
abbrev id_laws_toInt64SS : Nat := 29
abbrev id_laws_eqInt64SS : Nat := 31
abbrev id_spec_l00In : Nat := 57
abbrev id_spec_l26Ok : Nat := 54
abbrev id_spec_l09Budget : Nat := 55
abbrev id_spec_l26Lambda : Nat := 56
abbrev id_spec_l00Own : Nat := 101
abbrev id_spec_l26Find_on : Nat := 102
abbrev id_spec_l26Find_run : Nat := 84
abbrev id_spec_l26Search : Nat := 58
abbrev id_spec_l26First : Nat := 65
abbrev id_spec_ChooseOrbits : Nat := 32
abbrev id_impl_within : Nat := 63
abbrev id_impl_size_Lint64 : Nat := 85
abbrev id_slices_IndexFunc_LLint64_Lint64 : Nat := 103
abbrev id_slices_ContainsFunc_LLint64_Lint64 : Nat := 86
abbrev id_slices_IndexFunc_Lint64_int64 : Nat := 111
abbrev id_slices_ContainsFunc_Lint64_int64 : Nat := 104
abbrev id_impl_areIn_1 : Nat := 105
abbrev id_impl_areIn : Nat := 88
abbrev id_impl_isCounts_1 : Nat := 87
abbrev id_impl_isCounts : Nat := 60
abbrev id_impl_isBudget : Nat := 61
abbrev id_impl_isLambda : Nat := 62
abbrev id_impl_chooser_change : Nat := 89
abbrev id_impl_chooser_possible : Nat := 106
abbrev id_slices_Clone_Lint64_int64 : Nat := 107
abbrev id_impl_counter_node : Nat := 108
abbrev id_impl_chooser_search : Nat := 90
abbrev id_impl_choices : Nat := 64
abbrev id_impl_ChooseOrbits : Nat := 33
abbrev id_laws_markInt64SS : Nat := 34
abbrev id_laws_FnExactChooseOrbits : Nat := 8
abbrev t_int64 : Nat := 2
abbrev t_bool : Nat := 4
abbrev t_S_int64 : Nat := 27
abbrev t_S_S_int64 : Nat := 43
abbrev t_spec_l26Find : Nat := 91
abbrev t_impl_counter : Nat := 96
abbrev t_impl_chooser : Nat := 98
abbrev t_S_bool : Nat := 133
def tab : List (Nat × TE) := [(2, ⟨.int .i64, [.i .i64], [.int .i64 0], 8⟩),
  (4, ⟨.bool, [.b], [.bool false], 1⟩),
  (27, ⟨.slice 2, [.v], [.slice none 0 0], 24⟩),
  (43, ⟨.slice 27, [.v], [.slice none 0 0], 24⟩),
  (91, ⟨.struct [(0, 1, false), (1, 1, false), (2, 1, false), (3, 1, false), (4, 1, false), (5, 1, false), (6, 1, false), (7, 1, false), (8, 1, false), (9, 1, false)], [.v, .v, .i .i64, .v, .v, .i .i64, .i .i64, .i .i64, .i .i64, .b], [.slice none 0 0, .slice none 0 0, .int .i64 0, .slice none 0 0, .slice none 0 0, .int .i64 0, .int .i64 0, .int .i64 0, .int .i64 0, .bool false], 144⟩),
  (96, ⟨.struct [(0, 1, false), (1, 1, false)], [.i .i64, .b], [.int .i64 0, .bool false], 16⟩),
  (98, ⟨.struct [(0, 2, true), (2, 1, false), (3, 1, false), (4, 1, false), (5, 1, false), (6, 1, false), (7, 1, false), (8, 1, false), (9, 1, false)], [.i .i64, .b, .v, .i .i64, .i .i64, .v, .v, .v, .i .i64, .v], [.int .i64 0, .bool false, .slice none 0 0, .int .i64 0, .int .i64 0, .slice none 0 0, .slice none 0 0, .slice none 0 0, .int .i64 0, .slice none 0 0], 160⟩),
  (133, ⟨.slice 4, [.v], [.slice none 0 0], 24⟩)]
def rst : List (Nat × RS) := [(0, ⟨true, []⟩),
  (2, ⟨false, [(false, [.i .i64])]⟩),
  (3, ⟨false, [(false, [.i .i64])]⟩),
  (4, ⟨false, [(false, [.b])]⟩),
  (27, ⟨false, [(false, [.v])]⟩),
  (43, ⟨false, [(false, [.v])]⟩),
  (50, ⟨true, [(false, [.v]), (false, [.i .i64])]⟩),
  (88, ⟨false, [(false, [.p])]⟩),
  (93, ⟨false, [(false, [.p])]⟩)]
noncomputable def ctx : Ctx := ⟨Try.prog, tab, rst, 3, 112⟩
theorem te2 : TeOk P 2 ⟨.int .i64, [.i .i64], [.int .i64 0], 8⟩ := ⟨by kernel_rfl, by kernel_rfl, by kernel_rfl⟩
theorem te4 : TeOk P 4 ⟨.bool, [.b], [.bool false], 1⟩ := ⟨by kernel_rfl, by kernel_rfl, by kernel_rfl⟩
theorem te27 : TeOk P 27 ⟨.slice 2, [.v], [.slice none 0 0], 24⟩ := ⟨by kernel_rfl, by kernel_rfl, by kernel_rfl⟩
theorem te43 : TeOk P 43 ⟨.slice 27, [.v], [.slice none 0 0], 24⟩ := ⟨by kernel_rfl, by kernel_rfl, by kernel_rfl⟩
theorem te91 : TeOk P 91 ⟨.struct [(0, 1, false), (1, 1, false), (2, 1, false), (3, 1, false), (4, 1, false), (5, 1, false), (6, 1, false), (7, 1, false), (8, 1, false), (9, 1, false)], [.v, .v, .i .i64, .v, .v, .i .i64, .i .i64, .i .i64, .i .i64, .b], [.slice none 0 0, .slice none 0 0, .int .i64 0, .slice none 0 0, .slice none 0 0, .int .i64 0, .int .i64 0, .int .i64 0, .int .i64 0, .bool false], 144⟩ := ⟨by kernel_rfl, by kernel_rfl, by kernel_rfl⟩
theorem te96 : TeOk P 96 ⟨.struct [(0, 1, false), (1, 1, false)], [.i .i64, .b], [.int .i64 0, .bool false], 16⟩ := ⟨by kernel_rfl, by kernel_rfl, by kernel_rfl⟩
theorem te98 : TeOk P 98 ⟨.struct [(0, 2, true), (2, 1, false), (3, 1, false), (4, 1, false), (5, 1, false), (6, 1, false), (7, 1, false), (8, 1, false), (9, 1, false)], [.i .i64, .b, .v, .i .i64, .i .i64, .v, .v, .v, .i .i64, .v], [.int .i64 0, .bool false, .slice none 0 0, .int .i64 0, .int .i64 0, .slice none 0 0, .slice none 0 0, .slice none 0 0, .int .i64 0, .slice none 0 0], 160⟩ := ⟨by kernel_rfl, by kernel_rfl, by kernel_rfl⟩
theorem te133 : TeOk P 133 ⟨.slice 4, [.v], [.slice none 0 0], 24⟩ := ⟨by kernel_rfl, by kernel_rfl, by kernel_rfl⟩
theorem tabOk_all : ∀ p ∈ tab, TeOk P p.1 p.2 := by
  unfold tab
  simp only [List.forall_mem_cons]
  exact ⟨te2, te4, te27, te43, te91, te96, te98, te133, fun p hp => by cases hp⟩
theorem tab_mem : ∀ (l : List (Nat × TE)) (t : Nat) (te : TE), tabGet l t = some te → (t, te) ∈ l
  | [], t, te, h => by cases h
  | (k, x) :: r, t, te, h => by
    unfold tabGet at h
    cases hb : Nat.beq k t with
    | true => rw [hb] at h; have := Nat.eq_of_beq_eq_true hb; subst this; cases h; exact List.mem_cons_self ..
    | false => rw [hb] at h; exact List.mem_cons_of_mem _ (tab_mem r t te h)
noncomputable def fnB (f : Nat) : Bool := match P.funcs[f]? with | some fn => fn.body.isSome && !(fn.name == "runtime.NumGoroutine") | none => false
theorem fns_all : (List.range' 3 109).all fnB = true := by kernel_rfl
theorem ctxOk : CtxOk ctx where
  tab := fun t te h => tabOk_all (t, te) (tab_mem _ t te h)
  fns := fun f hf => by
    simp only [Ctx.okf, Bool.and_eq_true] at hf
    have h1 : 3 ≤ f := Nat.le_of_ble_eq_true hf.1
    have h2 : f < 112 := Nat.blt_eq.mp hf.2
    have h := List.all_eq_true.1 fns_all f (List.mem_range'_1.2 ⟨h1, by omega⟩)
    unfold fnB at h
    split at h
    · rename_i fn hfn; simp only [Bool.and_eq_true, Bool.not_eq_true'] at h; exact ⟨fn, hfn, h.1, h.2⟩
    · cases h
  mixed := by kernel_rfl
/-- laws.eqInt64S -/
def F_laws_eqInt64S (R : Value → Heap → Prop) (v0 : Value) (v1 : Value) (h : Heap) : Prop :=
  vLen v0 fun n7 =>
  vLen v1 fun n9 =>
  bif ((n7 : Int) : Int) != (n9 : Int) then
    R (.bool false) h
  else
    ∃ J : Nat → Int → Heap → Prop, (∃ n_2, J n_2 0 h) ∧ ∀ (n : Nat) (_ : Env) (x5 : Int) (h_2 : Heap), J n x5 h_2 →
    vLen v0 fun n13 =>
    bif decide ((x5 : Int) < (n13 : Int)) then
      vIdx v0 x5 1 fun p19 =>
      ldI .i64 h_2 p19 fun x20 =>
      vIdx v1 x5 1 fun p23 =>
      ldI .i64 h_2 p23 fun x24 =>
      bif (x20 : Int) != x24 then
        R (.bool false) h_2
      else
        ∃ m, m < n ∧ J m (IntKind.i64.wrap (x5 + 1)) h_2
    else
      R (.bool true) h_2
theorem w_laws_eqInt64S {R : Value → Heap → Prop} {v0 : Value} {v1 : Value} {h : Heap} (hv : F_laws_eqInt64S R v0 v1 h) : CallsH P id_laws_eqInt64S #[v0, v1] h R :=
  callsH_of_vc ctxOk ⟨[(4, [(5, .i .i64)])], []⟩ Try.func19 [v0, v1] h R (by kernel_rfl) (Eq.mpr (by kernel_rfl) hv)
/-- laws.markInt64S -/
def F_laws_markInt64S (R : Value → Heap → Prop) (v0 : Value) (x1 : Int) (h : Heap) : Prop :=
  ∃ J : Nat → Int → Int → Heap → Prop, (∃ n_2, J n_2 x1 0 h) ∧ ∀ (n : Nat) (_ : Env) (x1_2 : Int) (x5 : Int) (h_2 : Heap), J n x1_2 x5 h_2 →
  vLen v0 fun n8 =>
  bif decide ((x5 : Int) < (n8 : Int)) then
    vIdx v0 x5 1 fun p15 =>
    vStore1 h_2 p15 (.int .i64 x1_2) fun h_3 =>
    ∃ m, m < n ∧ J m (IntKind.i64.wrap (x1_2 + 1)) (IntKind.i64.wrap (x5 + 1)) h_3
  else
    R (.int .i64 x1_2) h_2
theorem w_laws_markInt64S {R : Value → Heap → Prop} {v0 : Value} {x1 : Int} {h : Heap} (hv : F_laws_markInt64S R v0 x1 h) : CallsH P id_laws_markInt64S #[v0, .int .i64 x1] h R :=
  callsH_of_vc ctxOk ⟨[(2, [(1, .i .i64), (5, .i .i64)])], []⟩ Try.func20 [v0, .int .i64 x1] h R (by kernel_rfl) (Eq.mpr (by kernel_rfl) hv)
/-- laws.heldInt64S -/
def F_laws_heldInt64S (R : Value → Heap → Prop) (v0 : Value) (x1 : Int) (h : Heap) : Prop :=
  ∃ J : Nat → Int → Int → Heap → Prop, (∃ n_2, J n_2 x1 0 h) ∧ ∀ (n : Nat) (_ : Env) (x1_2 : Int) (x5 : Int) (h_2 : Heap), J n x1_2 x5 h_2 →
  vLen v0 fun n8 =>
  bif decide ((x5 : Int) < (n8 : Int)) then
    vIdx v0 x5 1 fun p14 =>
    ldI .i64 h_2 p14 fun x15 =>
    bif (x15 : Int) != x1_2 then
      R (.int .i64 (-1)) h_2
    else
      ∃ m, m < n ∧ J m (IntKind.i64.wrap (x1_2 + 1)) (IntKind.i64.wrap (x5 + 1)) h_2
  else
    R (.int .i64 x1_2) h_2
theorem w_laws_heldInt64S {R : Value → Heap → Prop} {v0 : Value} {x1 : Int} {h : Heap} (hv : F_laws_heldInt64S R v0 x1 h) : CallsH P id_laws_heldInt64S #[v0, .int .i64 x1] h R :=
  callsH_of_vc ctxOk ⟨[(2, [(1, .i .i64), (5, .i .i64)])], []⟩ Try.func21 [v0, .int .i64 x1] h R (by kernel_rfl) (Eq.mpr (by kernel_rfl) hv)
/-- laws.szInt64S -/
def F_laws_szInt64S (R : Value → Heap → Prop) (v0 : Value) (x1 : Int) (h : Heap) : Prop :=
  vLen v0 fun n7 =>
  bif decide ((IntKind.i64.wrap (x1 - (n7 : Int)) : Int) < 0) then
    R (.int .i64 (-1)) h
  else
    R (.int .i64 (IntKind.i64.wrap (x1 - (n7 : Int)))) h
theorem w_laws_szInt64S {R : Value → Heap → Prop} {v0 : Value} {x1 : Int} {h : Heap} (hv : F_laws_szInt64S R v0 x1 h) : CallsH P id_laws_szInt64S #[v0, .int .i64 x1] h R :=
  callsH_of_vc ctxOk ⟨[], []⟩ Try.func53 [v0, .int .i64 x1] h R (by kernel_rfl) (Eq.mpr (by kernel_rfl) hv)
/-- laws.szInt64SS -/
def F_laws_szInt64SS (R : Value → Heap → Prop) (v0 : Value) (x1 : Int) (h : Heap) : Prop :=
  vLen v0 fun n8 =>
  bif decide ((IntKind.i64.wrap (x1 - (n8 : Int)) : Int) < 0) then
    R (.int .i64 (-1)) h
  else
    ∃ J : Nat → Int → Int → Heap → Prop, (∃ n_2, J n_2 (IntKind.i64.wrap (x1 - (n8 : Int))) 0 h) ∧ ∀ (n : Nat) (_ : Env) (x1_2 : Int) (x5 : Int) (h_2 : Heap), J n x1_2 x5 h_2 →
    vLen v0 fun n14 =>
    bif decide ((x5 : Int) < (n14 : Int)) then
      vIdx v0 x5 1 fun p20 =>
      ldV h_2 p20 fun v21 =>
      CallsH P id_laws_szInt64S #[v21, .int .i64 x1_2] h_2 fun r23 h_3 => ∃ (x23 : Int), r23 = .int .i64 x23 ∧
      bif decide ((x23 : Int) < 0) then
        R (.int .i64 (-1)) h_3
      else
        ∃ m, m < n ∧ J m x23 (IntKind.i64.wrap (x5 + 1)) h_3
    else
      R (.int .i64 x1_2) h_2
theorem w_laws_szInt64SS {R : Value → Heap → Prop} {v0 : Value} {x1 : Int} {h : Heap} (hv : F_laws_szInt64SS R v0 x1 h) : CallsH P id_laws_szInt64SS #[v0, .int .i64 x1] h R :=
  callsH_of_vc ctxOk ⟨[(5, [(1, .i .i64), (5, .i .i64)])], []⟩ Try.func27 [v0, .int .i64 x1] h R (by kernel_rfl) (Eq.mpr (by kernel_rfl) hv)
/-- laws.toInt64S -/
def F_laws_toInt64S (R : Value → Heap → Prop) (v0 : Value) (h : Heap) : Prop :=
  vLen v0 fun n6 =>
  vMake 8 [.int .i64 0] t_int64 (n6 : Int) (n6 : Int) h fun v7 h_2 =>
  ∃ J : Nat → Int → Heap → Prop, (∃ n_2, J n_2 0 h_2) ∧ ∀ (n : Nat) (_ : Env) (x4 : Int) (h_3 : Heap), J n x4 h_3 →
  vLen v0 fun n10 =>
  bif decide ((x4 : Int) < (n10 : Int)) then
    vIdx v0 x4 1 fun p18 =>
    ldI .i64 h_3 p18 fun x19 =>
    vIdx v7 x4 1 fun p20 =>
    vStore1 h_3 p20 (.int .i64 x19) fun h_4 =>
    ∃ m, m < n ∧ J m (IntKind.i64.wrap (x4 + 1)) h_4
  else
    R v7 h_3
theorem w_laws_toInt64S {R : Value → Heap → Prop} {v0 : Value} {h : Heap} (hv : F_laws_toInt64S R v0 h) : CallsH P id_laws_toInt64S #[v0] h R :=
  callsH_of_vc ctxOk ⟨[(3, [(4, .i .i64)])], []⟩ Try.func59 [v0] h R (by kernel_rfl) (Eq.mpr (by kernel_rfl) hv)
/-- laws.toInt64SS -/
def F_laws_toInt64SS (R : Value → Heap → Prop) (v0 : Value) (h : Heap) : Prop :=
  vLen v0 fun n6 =>
  vMake 24 [.slice none 0 0] t_S_int64 (n6 : Int) (n6 : Int) h fun v7 h_2 =>
  ∃ J : Nat → Int → Heap → Prop, (∃ n_2, J n_2 0 h_2) ∧ ∀ (n : Nat) (_ : Env) (x4 : Int) (h_3 : Heap), J n x4 h_3 →
  vLen v0 fun n10 =>
  bif decide ((x4 : Int) < (n10 : Int)) then
    vIdx v0 x4 1 fun p18 =>
    ldV h_3 p18 fun v19 =>
    CallsH P id_laws_toInt64S #[v19] h_3 fun r20 h_4 => ∃ (v20 : Value), r20 = v20 ∧
    vIdx v7 x4 1 fun p21 =>
    vStore1 h_4 p21 v20 fun h_5 =>
    ∃ m, m < n ∧ J m (IntKind.i64.wrap (x4 + 1)) h_5
  else
    R v7 h_3
theorem w_laws_toInt64SS {R : Value → Heap → Prop} {v0 : Value} {h : Heap} (hv : F_laws_toInt64SS R v0 h) : CallsH P id_laws_toInt64SS #[v0] h R :=
  callsH_of_vc ctxOk ⟨[(3, [(4, .i .i64)])], []⟩ Try.func29 [v0] h R (by kernel_rfl) (Eq.mpr (by kernel_rfl) hv)
/-- laws.eqInt64SS -/
def F_laws_eqInt64SS (R : Value → Heap → Prop) (v0 : Value) (v1 : Value) (h : Heap) : Prop :=
  vLen v0 fun n7 =>
  vLen v1 fun n9 =>
  bif ((n7 : Int) : Int) != (n9 : Int) then
    R (.bool false) h
  else
    ∃ J : Nat → Int → Heap → Prop, (∃ n_2, J n_2 0 h) ∧ ∀ (n : Nat) (_ : Env) (x5 : Int) (h_2 : Heap), J n x5 h_2 →
    vLen v0 fun n13 =>
    bif decide ((x5 : Int) < (n13 : Int)) then
      vIdx v0 x5 1 fun p19 =>
      ldV h_2 p19 fun v20 =>
      vIdx v1 x5 1 fun p23 =>
      ldV h_2 p23 fun v24 =>
      CallsH P id_laws_eqInt64S #[v20, v24] h_2 fun r25 h_3 => ∃ (b25 : Bool), r25 = .bool b25 ∧
      bif !b25 then
        R (.bool false) h_3
      else
        ∃ m, m < n ∧ J m (IntKind.i64.wrap (x5 + 1)) h_3
    else
      R (.bool true) h_2
theorem w_laws_eqInt64SS {R : Value → Heap → Prop} {v0 : Value} {v1 : Value} {h : Heap} (hv : F_laws_eqInt64SS R v0 v1 h) : CallsH P id_laws_eqInt64SS #[v0, v1] h R :=
  callsH_of_vc ctxOk ⟨[(4, [(5, .i .i64)])], []⟩ Try.func31 [v0, v1] h R (by kernel_rfl) (Eq.mpr (by kernel_rfl) hv)
/-- spec.l00In -/
def F_spec_l00In (R : Value → Heap → Prop) (x0 : Int) (x1 : Int) (x2 : Int) (h : Heap) : Prop :=
  bif decide ((x0 : Int) ≥ x1) then
    R (.bool (decide ((x0 : Int) ≤ x2))) h
  else
    R (.bool false) h
theorem w_spec_l00In {R : Value → Heap → Prop} {x0 : Int} {x1 : Int} {x2 : Int} {h : Heap} (hv : F_spec_l00In R x0 x1 x2 h) : CallsH P id_spec_l00In #[.int .i64 x0, .int .i64 x1, .int .i64 x2] h R :=
  callsH_of_vc ctxOk ⟨[], []⟩ Try.func57 [.int .i64 x0, .int .i64 x1, .int .i64 x2] h R (by kernel_rfl) (Eq.mpr (by kernel_rfl) hv)
/-- spec.l26Ok -/
def F_spec_l26Ok (R : Value → Heap → Prop) (v0 : Value) (h : Heap) : Prop :=
  ∃ J : Heap → Prop, (
    vLen v0 fun n6 =>
    bif decide (((n6 : Int) : Int) < 1) then
      R (.bool false) h
    else
      vLen v0 fun n10 =>
      bif decide (((n10 : Int) : Int) > 2000) then
        R (.bool false) h
      else
        J h
  ) ∧ ∀ (_ : Env) (h_2 : Heap), J h_2 →
  ∃ J_2 : Nat → Int → Heap → Prop, (∃ n_2, J_2 n_2 0 h_2) ∧ ∀ (n : Nat) (_ : Env) (x3 : Int) (h_3 : Heap), J_2 n x3 h_3 →
  vLen v0 fun n15 =>
  bif decide ((x3 : Int) < (n15 : Int)) then
    ∃ J_3 : Heap → Prop, (
      vIdx v0 x3 1 fun p21 =>
      ldV h_3 p21 fun v22 =>
      vLen v22 fun n23 =>
      vIdx v0 0 1 fun p25 =>
      ldV h_3 p25 fun v26 =>
      vLen v26 fun n27 =>
      bif ((n23 : Int) : Int) != (n27 : Int) then
        R (.bool false) h_3
      else
        vIdx v0 x3 1 fun p32 =>
        ldV h_3 p32 fun v33 =>
        vLen v33 fun n34 =>
        bif decide (((n34 : Int) : Int) > 2000) then
          R (.bool false) h_3
        else
          J_3 h_3
    ) ∧ ∀ (_ : Env) (h_4 : Heap), J_3 h_4 →
    ∃ J_4 : Nat → Int → Heap → Prop, (∃ n_4, J_4 n_4 0 h_4) ∧ ∀ (n_3 : Nat) (_ : Env) (x4 : Int) (h_5 : Heap), J_4 n_3 x4 h_5 →
    vIdx v0 x3 1 fun p40 =>
    ldV h_5 p40 fun v41 =>
    vLen v41 fun n42 =>
    bif decide ((x4 : Int) < (n42 : Int)) then
      vIdx v0 x3 1 fun p48 =>
      ldV h_5 p48 fun v49 =>
      vIdx v49 x4 1 fun p51 =>
      ldI .i64 h_5 p51 fun x52 =>
      CallsH P id_spec_l00In #[.int .i64 x52, .int .i64 0, .int .i64 2000] h_5 fun r53 h_6 => ∃ (b53 : Bool), r53 = .bool b53 ∧
      bif !b53 then
        R (.bool false) h_6
      else
        ∃ m_2, m_2 < n_3 ∧ J_4 m_2 (IntKind.i64.wrap (x4 + 1)) h_6
    else
      ∃ m, m < n ∧ J_2 m (IntKind.i64.wrap (x3 + 1)) h_5
  else
    R (.bool true) h_3
theorem w_spec_l26Ok {R : Value → Heap → Prop} {v0 : Value} {h : Heap} (hv : F_spec_l26Ok R v0 h) : CallsH P id_spec_l26Ok #[v0] h R :=
  callsH_of_vc ctxOk ⟨[(4, [(3, .i .i64)]), (9, [(4, .i .i64)])], [(3, []), (8, [])]⟩ Try.func54 [v0] h R (by kernel_rfl) (Eq.mpr (by kernel_rfl) hv)
/-- spec.l09Budget -/
def F_spec_l09Budget (R : Value → Heap → Prop) (x0 : Int) (h : Heap) : Prop :=
  CallsH P id_spec_l00In #[.int .i64 x0, .int .i64 1, .int .i64 20000] h fun r4 h_2 => ∃ (b4 : Bool), r4 = .bool b4 ∧
  R (.bool b4) h_2
theorem w_spec_l09Budget {R : Value → Heap → Prop} {x0 : Int} {h : Heap} (hv : F_spec_l09Budget R x0 h) : CallsH P id_spec_l09Budget #[.int .i64 x0] h R :=
  callsH_of_vc ctxOk ⟨[], []⟩ Try.func55 [.int .i64 x0] h R (by kernel_rfl) (Eq.mpr (by kernel_rfl) hv)
/-- spec.l26Lambda -/
def F_spec_l26Lambda (R : Value → Heap → Prop) (x0 : Int) (h : Heap) : Prop :=
  CallsH P id_spec_l00In #[.int .i64 x0, .int .i64 1, .int .i64 2000] h fun r4 h_2 => ∃ (b4 : Bool), r4 = .bool b4 ∧
  R (.bool b4) h_2
theorem w_spec_l26Lambda {R : Value → Heap → Prop} {x0 : Int} {h : Heap} (hv : F_spec_l26Lambda R x0 h) : CallsH P id_spec_l26Lambda #[.int .i64 x0] h R :=
  callsH_of_vc ctxOk ⟨[], []⟩ Try.func56 [.int .i64 x0] h R (by kernel_rfl) (Eq.mpr (by kernel_rfl) hv)
/-- spec.l00Own -/
def F_spec_l00Own (R : Value → Heap → Prop) (v0 : Value) (h : Heap) : Prop :=
  vNewS h (.cells #[] t_int64) 0 fun v3 h_2 =>
  vAppend 1 8 [.int .i64 0] t_int64 v3 v0 h_2 fun v5 h_3 =>
  R v5 h_3
theorem w_spec_l00Own {R : Value → Heap → Prop} {v0 : Value} {h : Heap} (hv : F_spec_l00Own R v0 h) : CallsH P id_spec_l00Own #[v0] h R :=
  callsH_of_vc ctxOk ⟨[], []⟩ Try.func101 [v0] h R (by kernel_rfl) (Eq.mpr (by kernel_rfl) hv)
/-- (*spec.l26Find).on -/
def F_spec_l26Find_on (R : Value → Heap → Prop) (p0 : Addr) (v1 : Value) (x2 : Int) (h : Heap) : Prop :=
  ∃ J : Nat → Int → Heap → Prop, (∃ n_2, J n_2 0 h) ∧ ∀ (n : Nat) (_ : Env) (x6 : Int) (h_2 : Heap), J n x6 h_2 →
  vLen v1 fun n9 =>
  bif decide ((x6 : Int) < (n9 : Int)) then
    vIdx v1 x6 1 fun p15 =>
    ldI .i64 h_2 p15 fun x16 =>
    ldV h_2 (p0.add 1) fun v20 =>
    vIdx v20 x6 1 fun p22 =>
    ldV h_2 p22 fun v23 =>
    vIdx v23 x2 1 fun p25 =>
    ldI .i64 h_2 p25 fun x26 =>
    ldI .i64 h_2 (p0.add 2) fun x31 =>
    bif decide ((IntKind.i64.wrap (x16 + x26) : Int) < x31) then
      R (.tuple #[]) h_2
    else
      ∃ m, m < n ∧ J m (IntKind.i64.wrap (x6 + 1)) h_2
  else
    ∃ J_2 : Heap → Prop, (
      ldB h_2 (p0.add 9) fun b36 =>
      bif b36 then
        R (.tuple #[]) h_2
      else
        ldI .i64 h_2 (p0.add 5) fun x41 =>
        ldI .i64 h_2 (p0.add 6) fun x45 =>
        bif (x41 : Int) == x45 then
          R (.tuple #[]) h_2
        else
          J_2 h_2
    ) ∧ ∀ (_ : Env) (h_3 : Heap), J_2 h_3 →
    ldI .i64 h_3 (p0.add 7) fun x51 =>
    ldI .i64 h_3 (p0.add 8) fun x55 =>
    bif (x51 : Int) == x55 then
      vStore1 h_3 (p0.add 9) (.bool true) fun h_4 =>
      R (.tuple #[]) h_4
    else
      ldI .i64 h_3 (p0.add 7) fun x63 =>
      vStore1 h_3 (p0.add 7) (.int .i64 (IntKind.i64.wrap (x63 + 1))) fun h_5 =>
      CallsH P id_spec_l26Find_run #[.pointer (some p0), v1, .int .i64 x2] h_5 fun r70 h_6 => r70 = .tuple #[] ∧
      R (.tuple #[]) h_6
theorem w_spec_l26Find_on {R : Value → Heap → Prop} {p0 : Addr} {v1 : Value} {x2 : Int} {h : Heap} (hv : F_spec_l26Find_on R p0 v1 x2 h) : CallsH P id_spec_l26Find_on #[.pointer (some p0), v1, .int .i64 x2] h R :=
  callsH_of_vc ctxOk ⟨[(1, [(6, .i .i64)])], [(5, [])]⟩ Try.func102 [.pointer (some p0), v1, .int .i64 x2] h R (by kernel_rfl) (Eq.mpr (by kernel_rfl) hv)
/-- (*spec.l26Find).run -/
def F_spec_l26Find_run (R : Value → Heap → Prop) (p0 : Addr) (v1 : Value) (x2 : Int) (h : Heap) : Prop :=
  ldV h p0 fun v14 =>
  vIdx v14 0 1 fun p15 =>
  ldV h p15 fun v16 =>
  vLen v16 fun n17 =>
  bif (x2 : Int) == (n17 : Int) then
    ∃ J : Heap → Prop, (
      ldI .i64 h (p0.add 5) fun x22 =>
      bif (x22 : Int) == 0 then
        ldV h (p0.add 3) fun v28 =>
        CallsH P id_spec_l00Own #[v28] h fun r29 h_2 => ∃ (v29 : Value), r29 = v29 ∧
        vStore1 h_2 (p0.add 4) v29 fun h_3 =>
        J h_3
      else
        J h
    ) ∧ ∀ (_ : Env) (h_4 : Heap), J h_4 →
    ldI .i64 h_4 (p0.add 5) fun x35 =>
    vStore1 h_4 (p0.add 5) (.int .i64 (IntKind.i64.wrap (x35 + 1))) fun h_5 =>
    R (.tuple #[]) h_5
  else
    vNewS h (.cells #[] t_int64) 0 fun v39 h_6 =>
    ∃ J_2 : Nat → Bool → Value → Int → Heap → Prop, (∃ n_2, J_2 n_2 true v39 0 h_6) ∧ ∀ (n : Nat) (_ : Env) (b6 : Bool) (v7 : Value) (x8 : Int) (h_7 : Heap), J_2 n b6 v7 x8 h_7 →
    vLen v1 fun n42 =>
    bif decide ((x8 : Int) < (n42 : Int)) then
      vIdx v1 x8 1 fun p49 =>
      ldI .i64 h_7 p49 fun x50 =>
      ldV h_7 p0 fun v54 =>
      vIdx v54 x8 1 fun p56 =>
      ldV h_7 p56 fun v57 =>
      vIdx v57 x2 1 fun p59 =>
      ldI .i64 h_7 p59 fun x60 =>
      vNewS h_7 (.cells #[.int .i64 (IntKind.i64.wrap (x50 + x60))] t_int64) 1 fun v62 h_8 =>
      vAppend 1 8 [.int .i64 0] t_int64 v7 v62 h_8 fun v63 h_9 =>
      vIdx v63 x8 1 fun p66 =>
      ldI .i64 h_9 p66 fun x67 =>
      ldI .i64 h_9 (p0.add 2) fun x71 =>
      bif decide ((x67 : Int) > x71) then
        ∃ m, m < n ∧ J_2 m false v63 (IntKind.i64.wrap (x8 + 1)) h_9
      else
        ∃ m, m < n ∧ J_2 m b6 v63 (IntKind.i64.wrap (x8 + 1)) h_9
    else
      ∃ J_3 : Heap → Prop, (
        bif b6 then
          ldV h_7 (p0.add 3) fun v77 =>
          vLen v77 fun n78 =>
          ldV h_7 (p0.add 3) fun v83 =>
          vNewS h_7 (.cells #[.int .i64 x2] t_int64) 1 fun v85 h_10 =>
          vAppend 1 8 [.int .i64 0] t_int64 v83 v85 h_10 fun v86 h_11 =>
          vStore1 h_11 (p0.add 3) v86 fun h_12 =>
          CallsH P id_spec_l26Find_on #[.pointer (some p0), v7, .int .i64 (IntKind.i64.wrap (x2 + 1))] h_12 fun r93 h_13 => r93 = .tuple #[] ∧
          ldV h_13 (p0.add 3) fun v98 =>
          vSliceS v98 1 none (some (.int .i64 (n78 : Int))) none fun v100 =>
          vStore1 h_13 (p0.add 3) v100 fun h_14 =>
          J_3 h_14
        else
          J_3 h_7
      ) ∧ ∀ (_ : Env) (h_15 : Heap), J_3 h_15 →
      CallsH P id_spec_l26Find_on #[.pointer (some p0), v1, .int .i64 (IntKind.i64.wrap (x2 + 1))] h_15 fun r107 h_16 => r107 = .tuple #[] ∧
      R (.tuple #[]) h_16
theorem w_spec_l26Find_run {R : Value → Heap → Prop} {p0 : Addr} {v1 : Value} {x2 : Int} {h : Heap} (hv : F_spec_l26Find_run R p0 v1 x2 h) : CallsH P id_spec_l26Find_run #[.pointer (some p0), v1, .int .i64 x2] h R :=
  callsH_of_vc ctxOk ⟨[(7, [(6, .b), (7, .v), (8, .i .i64)])], [(3, []), (17, [])]⟩ Try.func84 [.pointer (some p0), v1, .int .i64 x2] h R (by kernel_rfl) (Eq.mpr (by kernel_rfl) hv)
/-- spec.l26Search -/
def F_spec_l26Search (R : Value → Heap → Prop) (v0 : Value) (x1 : Int) (x2 : Int) (x3 : Int) (h : Heap) : Prop :=
  vOne v0 fun _ =>
  vNew h (.cells #[v0, (.slice none 0 0), .int .i64 x1, (.slice none 0 0), (.slice none 0 0), .int .i64 0, .int .i64 x2, .int .i64 0, .int .i64 x3, .bool false] t_spec_l26Find) fun p19 h_2 =>
  ∃ J : Nat → Bool → Int → Heap → Prop, (∃ n_2, J n_2 true 0 h_2) ∧ ∀ (n : Nat) (_ : Env) (b10 : Bool) (x11 : Int) (h_3 : Heap), J n b10 x11 h_3 →
  vLen v0 fun n22 =>
  bif decide ((x11 : Int) < (n22 : Int)) then
    vIdx v0 x11 1 fun p28 =>
    ldV h_3 p28 fun v29 =>
    vLen v29 fun n30 =>
    vMake 8 [.int .i64 0] t_int64 (IntKind.i64.wrap ((n30 : Int) + 1)) (IntKind.i64.wrap ((n30 : Int) + 1)) h_3 fun v32 h_4 =>
    vIdx v0 x11 1 fun p35 =>
    ldV h_4 p35 fun v36 =>
    vLen v36 fun n37 =>
    ∃ J_2 : Nat → Int → Heap → Prop, (∃ n_4, J_2 n_4 (IntKind.i64.wrap ((n37 : Int) - 1)) h_4) ∧ ∀ (n_3 : Nat) (_ : Env) (x13 : Int) (h_5 : Heap), J_2 n_3 x13 h_5 →
    bif decide ((x13 : Int) ≥ 0) then
      vIdx v32 (IntKind.i64.wrap (x13 + 1)) 1 fun p48 =>
      ldI .i64 h_5 p48 fun x49 =>
      vIdx v0 x11 1 fun p52 =>
      ldV h_5 p52 fun v53 =>
      vIdx v53 x13 1 fun p55 =>
      ldI .i64 h_5 p55 fun x56 =>
      vIdx v32 x13 1 fun p58 =>
      vStore1 h_5 p58 (.int .i64 (IntKind.i64.wrap (x49 + x56))) fun h_6 =>
      ∃ m_2, m_2 < n_3 ∧ J_2 m_2 (IntKind.i64.wrap (x13 - 1)) h_6
    else
      ldV h_5 (p19.add 1) fun v63 =>
      vOne v32 fun _ =>
      vNewS h_5 (.cells #[v32] t_S_int64) 1 fun v65 h_7 =>
      vAppend 1 24 [.slice none 0 0] t_S_int64 v63 v65 h_7 fun v66 h_8 =>
      vStore1 h_8 (p19.add 1) v66 fun h_9 =>
      vIdx v32 0 1 fun p70 =>
      ldI .i64 h_9 p70 fun x71 =>
      bif decide ((x71 : Int) < x1) then
        ∃ m, m < n ∧ J m false (IntKind.i64.wrap (x11 + 1)) h_9
      else
        ∃ m, m < n ∧ J m b10 (IntKind.i64.wrap (x11 + 1)) h_9
  else
    bif b10 then
      vLen v0 fun n77 =>
      vMake 8 [.int .i64 0] t_int64 (n77 : Int) (n77 : Int) h_3 fun v78 h_10 =>
      CallsH P id_spec_l26Find_run #[.pointer (some p19), v78, .int .i64 0] h_10 fun r79 h_11 => r79 = .tuple #[] ∧
      R (.pointer (some p19)) h_11
    else
      R (.pointer (some p19)) h_3
theorem w_spec_l26Search {R : Value → Heap → Prop} {v0 : Value} {x1 : Int} {x2 : Int} {x3 : Int} {h : Heap} (hv : F_spec_l26Search R v0 x1 x2 x3 h) : CallsH P id_spec_l26Search #[v0, .int .i64 x1, .int .i64 x2, .int .i64 x3] h R :=
  callsH_of_vc ctxOk ⟨[(4, [(10, .b), (11, .i .i64)]), (8, [(13, .i .i64)])], []⟩ Try.func58 [v0, .int .i64 x1, .int .i64 x2, .int .i64 x3] h R (by kernel_rfl) (Eq.mpr (by kernel_rfl) hv)
/-- spec.l26First -/
def F_spec_l26First (R : Value → Heap → Prop) (v0 : Value) (x1 : Int) (x2 : Int) (h : Heap) : Prop :=
  CallsH P id_spec_l26Search #[v0, .int .i64 x1, .int .i64 1, .int .i64 x2] h fun r12 h_2 => ∃ (p12 : Addr), r12 = .pointer (some p12) ∧
  ldI .i64 h_2 (p12.add 5) fun x16 =>
  bif decide ((x16 : Int) > 0) then
    ldV h_2 (p12.add 4) fun v21 =>
    R (.tuple #[v21, .int .i64 0]) h_2
  else
    ldB h_2 (p12.add 9) fun b25 =>
    bif b25 then
      R (.tuple #[(.slice none 0 0), .int .i64 5]) h_2
    else
      R (.tuple #[(.slice none 0 0), .int .i64 3]) h_2
theorem w_spec_l26First {R : Value → Heap → Prop} {v0 : Value} {x1 : Int} {x2 : Int} {h : Heap} (hv : F_spec_l26First R v0 x1 x2 h) : CallsH P id_spec_l26First #[v0, .int .i64 x1, .int .i64 x2] h R :=
  callsH_of_vc ctxOk ⟨[], []⟩ Try.func65 [v0, .int .i64 x1, .int .i64 x2] h R (by kernel_rfl) (Eq.mpr (by kernel_rfl) hv)
/-- spec.ChooseOrbits -/
def F_spec_ChooseOrbits (R : Value → Heap → Prop) (v0 : Value) (x1 : Int) (x2 : Int) (h : Heap) : Prop :=
  CallsH P id_spec_l26Ok #[v0] h fun r9 h_2 => ∃ (b9 : Bool), r9 = .bool b9 ∧
  bif !b9 then
    R (.tuple #[(.slice none 0 0), .int .i64 1]) h_2
  else
    ∃ J : Heap → Prop, (
      CallsH P id_spec_l09Budget #[.int .i64 x2] h_2 fun r12 h_3 => ∃ (b12 : Bool), r12 = .bool b12 ∧
      bif !b12 then
        R (.tuple #[(.slice none 0 0), .int .i64 2]) h_3
      else
        CallsH P id_spec_l26Lambda #[.int .i64 x1] h_3 fun r16 h_4 => ∃ (b16 : Bool), r16 = .bool b16 ∧
        bif !b16 then
          R (.tuple #[(.slice none 0 0), .int .i64 2]) h_4
        else
          J h_4
    ) ∧ ∀ (_ : Env) (h_5 : Heap), J h_5 →
    CallsH P id_spec_l26First #[v0, .int .i64 x1, .int .i64 x2] h_5 fun r22 h_6 => ∃ (v22_0 : Value), ∃ (x22_1 : Int), r22 = .tuple #[v22_0, .int .i64 x22_1] ∧
    R (.tuple #[v22_0, .int .i64 x22_1]) h_6
theorem w_spec_ChooseOrbits {R : Value → Heap → Prop} {v0 : Value} {x1 : Int} {x2 : Int} {h : Heap} (hv : F_spec_ChooseOrbits R v0 x1 x2 h) : CallsH P id_spec_ChooseOrbits #[v0, .int .i64 x1, .int .i64 x2] h R :=
  callsH_of_vc ctxOk ⟨[], [(5, [])]⟩ Try.func32 [v0, .int .i64 x1, .int .i64 x2] h R (by kernel_rfl) (Eq.mpr (by kernel_rfl) hv)
/-- impl.within -/
def F_impl_within (R : Value → Heap → Prop) (x0 : Int) (x1 : Int) (x2 : Int) (h : Heap) : Prop :=
  bif decide ((x0 : Int) ≥ x1) then
    R (.bool (decide ((x0 : Int) ≤ x2))) h
  else
    R (.bool false) h
theorem w_impl_within {R : Value → Heap → Prop} {x0 : Int} {x1 : Int} {x2 : Int} {h : Heap} (hv : F_impl_within R x0 x1 x2 h) : CallsH P id_impl_within #[.int .i64 x0, .int .i64 x1, .int .i64 x2] h R :=
  callsH_of_vc ctxOk ⟨[], []⟩ Try.func63 [.int .i64 x0, .int .i64 x1, .int .i64 x2] h R (by kernel_rfl) (Eq.mpr (by kernel_rfl) hv)
/-- impl.size[[]int64] -/
def F_impl_size_Lint64 (R : Value → Heap → Prop) (v0 : Value) (h : Heap) : Prop :=
  vLen v0 fun n4 =>
  R (.int .i64 (n4 : Int)) h
theorem w_impl_size_Lint64 {R : Value → Heap → Prop} {v0 : Value} {h : Heap} (hv : F_impl_size_Lint64 R v0 h) : CallsH P id_impl_size_Lint64 #[v0] h R :=
  callsH_of_vc ctxOk ⟨[], []⟩ Try.func85 [v0] h R (by kernel_rfl) (Eq.mpr (by kernel_rfl) hv)
/-- slices.IndexFunc[[][]int64,[]int64] -/
def F_slices_IndexFunc_LLint64_Lint64 (R : Value → Heap → Prop) (v0 : Value) (g1 : Nat) (cap1 : List Value) (h : Heap) : Prop :=
  vLen v0 fun n7 =>
  ∃ J : Nat → Int → Heap → Prop, (∃ n_2, J n_2 0 h) ∧ ∀ (n : Nat) (_ : Env) (x8 : Int) (h_2 : Heap), J n x8 h_2 →
  bif decide ((x8 : Int) < (n7 : Int)) then
    vIdx v0 x8 1 fun p14 =>
    ldV h_2 p14 fun v15 =>
    vOkf ctx g1 fun _ =>
    CallsH P g1 (([v15] : List Value) ++ cap1).toArray h_2 fun r16 h_3 => ∃ (b16 : Bool), r16 = .bool b16 ∧
    bif b16 then
      R (.int .i64 x8) h_3
    else
      ∃ m, m < n ∧ J m (IntKind.i64.wrap (x8 + 1)) h_3
  else
    R (.int .i64 (-1)) h_2
theorem w_slices_IndexFunc_LLint64_Lint64 {R : Value → Heap → Prop} {v0 : Value} {g1 : Nat} {cap1 : List Value} {h : Heap} (hv : F_slices_IndexFunc_LLint64_Lint64 R v0 g1 cap1 h) : CallsH P id_slices_IndexFunc_LLint64_Lint64 #[v0, .func (.func g1) #[] cap1.toArray] h R :=
  callsH_of_vc ctxOk ⟨[(2, [(8, .i .i64)])], []⟩ Try.func103 [v0, .func (.func g1) #[] cap1.toArray] h R (by kernel_rfl) (Eq.mpr (by kernel_rfl) hv)
/-- slices.ContainsFunc[[][]int64,[]int64] -/
def F_slices_ContainsFunc_LLint64_Lint64 (R : Value → Heap → Prop) (v0 : Value) (g1 : Nat) (cap1 : List Value) (h : Heap) : Prop :=
  CallsH P id_slices_IndexFunc_LLint64_Lint64 #[v0, .func (.func g1) #[] cap1.toArray] h fun r7 h_2 => ∃ (x7 : Int), r7 = .int .i64 x7 ∧
  R (.bool (decide ((x7 : Int) ≥ 0))) h_2
theorem w_slices_ContainsFunc_LLint64_Lint64 {R : Value → Heap → Prop} {v0 : Value} {g1 : Nat} {cap1 : List Value} {h : Heap} (hv : F_slices_ContainsFunc_LLint64_Lint64 R v0 g1 cap1 h) : CallsH P id_slices_ContainsFunc_LLint64_Lint64 #[v0, .func (.func g1) #[] cap1.toArray] h R :=
  callsH_of_vc ctxOk ⟨[], []⟩ Try.func86 [v0, .func (.func g1) #[] cap1.toArray] h R (by kernel_rfl) (Eq.mpr (by kernel_rfl) hv)
/-- slices.IndexFunc[[]int64,int64] -/
def F_slices_IndexFunc_Lint64_int64 (R : Value → Heap → Prop) (v0 : Value) (g1 : Nat) (cap1 : List Value) (h : Heap) : Prop :=
  vLen v0 fun n7 =>
  ∃ J : Nat → Int → Heap → Prop, (∃ n_2, J n_2 0 h) ∧ ∀ (n : Nat) (_ : Env) (x8 : Int) (h_2 : Heap), J n x8 h_2 →
  bif decide ((x8 : Int) < (n7 : Int)) then
    vIdx v0 x8 1 fun p14 =>
    ldI .i64 h_2 p14 fun x15 =>
    vOkf ctx g1 fun _ =>
    CallsH P g1 (([.int .i64 x15] : List Value) ++ cap1).toArray h_2 fun r16 h_3 => ∃ (b16 : Bool), r16 = .bool b16 ∧
    bif b16 then
      R (.int .i64 x8) h_3
    else
      ∃ m, m < n ∧ J m (IntKind.i64.wrap (x8 + 1)) h_3
  else
    R (.int .i64 (-1)) h_2
theorem w_slices_IndexFunc_Lint64_int64 {R : Value → Heap → Prop} {v0 : Value} {g1 : Nat} {cap1 : List Value} {h : Heap} (hv : F_slices_IndexFunc_Lint64_int64 R v0 g1 cap1 h) : CallsH P id_slices_IndexFunc_Lint64_int64 #[v0, .func (.func g1) #[] cap1.toArray] h R :=
  callsH_of_vc ctxOk ⟨[(2, [(8, .i .i64)])], []⟩ Try.func111 [v0, .func (.func g1) #[] cap1.toArray] h R (by kernel_rfl) (Eq.mpr (by kernel_rfl) hv)
/-- slices.ContainsFunc[[]int64,int64] -/
def F_slices_ContainsFunc_Lint64_int64 (R : Value → Heap → Prop) (v0 : Value) (g1 : Nat) (cap1 : List Value) (h : Heap) : Prop :=
  CallsH P id_slices_IndexFunc_Lint64_int64 #[v0, .func (.func g1) #[] cap1.toArray] h fun r7 h_2 => ∃ (x7 : Int), r7 = .int .i64 x7 ∧
  R (.bool (decide ((x7 : Int) ≥ 0))) h_2
theorem w_slices_ContainsFunc_Lint64_int64 {R : Value → Heap → Prop} {v0 : Value} {g1 : Nat} {cap1 : List Value} {h : Heap} (hv : F_slices_ContainsFunc_Lint64_int64 R v0 g1 cap1 h) : CallsH P id_slices_ContainsFunc_Lint64_int64 #[v0, .func (.func g1) #[] cap1.toArray] h R :=
  callsH_of_vc ctxOk ⟨[], []⟩ Try.func104 [v0, .func (.func g1) #[] cap1.toArray] h R (by kernel_rfl) (Eq.mpr (by kernel_rfl) hv)
/-- impl.areIn$1 -/
def F_impl_areIn_1 (R : Value → Heap → Prop) (x0 : Int) (p1 : Addr) (h : Heap) : Prop :=
  ldI .i64 h p1 fun x5 =>
  CallsH P id_impl_within #[.int .i64 x0, .int .i64 0, .int .i64 (IntKind.i64.wrap (x5 - 1))] h fun r7 h_2 => ∃ (b7 : Bool), r7 = .bool b7 ∧
  R (.bool (!b7)) h_2
theorem w_impl_areIn_1 {R : Value → Heap → Prop} {x0 : Int} {p1 : Addr} {h : Heap} (hv : F_impl_areIn_1 R x0 p1 h) : CallsH P id_impl_areIn_1 #[.int .i64 x0, .pointer (some p1)] h R :=
  callsH_of_vc ctxOk ⟨[], []⟩ Try.func105 [.int .i64 x0, .pointer (some p1)] h R (by kernel_rfl) (Eq.mpr (by kernel_rfl) hv)
/-- impl.areIn -/
def F_impl_areIn (R : Value → Heap → Prop) (x0 : Int) (v1 : Value) (h : Heap) : Prop :=
  vNew h (.cells #[.int .i64 x0] t_int64) fun p2 h_2 =>
  CallsH P id_slices_ContainsFunc_Lint64_int64 #[v1, .func (.func id_impl_areIn_1) #[] #[.pointer (some p2)]] h_2 fun r7 h_3 => ∃ (b7 : Bool), r7 = .bool b7 ∧
  R (.bool (!b7)) h_3
theorem w_impl_areIn {R : Value → Heap → Prop} {x0 : Int} {v1 : Value} {h : Heap} (hv : F_impl_areIn R x0 v1 h) : CallsH P id_impl_areIn #[.int .i64 x0, v1] h R :=
  callsH_of_vc ctxOk ⟨[], []⟩ Try.func88 [.int .i64 x0, v1] h R (by kernel_rfl) (Eq.mpr (by kernel_rfl) hv)
/-- impl.isCounts$1 -/
def F_impl_isCounts_1 (R : Value → Heap → Prop) (v0 : Value) (p1 : Addr) (h : Heap) : Prop :=
  vLen v0 fun n5 =>
  ldV h p1 fun v6 =>
  vIdx v6 0 1 fun p7 =>
  ldV h p7 fun v8 =>
  vLen v8 fun n9 =>
  bif ((n5 : Int) : Int) != (n9 : Int) then
    R (.bool true) h
  else
    CallsH P id_impl_areIn #[.int .i64 2001, v0] h fun r13 h_2 => ∃ (b13 : Bool), r13 = .bool b13 ∧
    R (.bool (!b13)) h_2
theorem w_impl_isCounts_1 {R : Value → Heap → Prop} {v0 : Value} {p1 : Addr} {h : Heap} (hv : F_impl_isCounts_1 R v0 p1 h) : CallsH P id_impl_isCounts_1 #[v0, .pointer (some p1)] h R :=
  callsH_of_vc ctxOk ⟨[], []⟩ Try.func87 [v0, .pointer (some p1)] h R (by kernel_rfl) (Eq.mpr (by kernel_rfl) hv)
/-- impl.isCounts -/
def F_impl_isCounts (R : Value → Heap → Prop) (v0 : Value) (h : Heap) : Prop :=
  vOne v0 fun _ =>
  vNew h (.cells #[v0] t_S_S_int64) fun p1 h_2 =>
  ∃ J : Heap → Prop, (
    ldV h_2 p1 fun v3 =>
    CallsH P id_impl_size_Lint64 #[v3] h_2 fun r4 h_3 => ∃ (x4 : Int), r4 = .int .i64 x4 ∧
    CallsH P id_impl_within #[.int .i64 x4, .int .i64 1, .int .i64 2000] h_3 fun r5 h_4 => ∃ (b5 : Bool), r5 = .bool b5 ∧
    bif !b5 then
      R (.bool false) h_4
    else
      ldV h_4 p1 fun v8 =>
      vIdx v8 0 1 fun p9 =>
      ldV h_4 p9 fun v10 =>
      vLen v10 fun n11 =>
      bif decide (((n11 : Int) : Int) > 2000) then
        R (.bool false) h_4
      else
        J h_4
  ) ∧ ∀ (_ : Env) (h_5 : Heap), J h_5 →
  ldV h_5 p1 fun v14 =>
  CallsH P id_slices_ContainsFunc_LLint64_Lint64 #[v14, .func (.func id_impl_isCounts_1) #[] #[.pointer (some p1)]] h_5 fun r16 h_6 => ∃ (b16 : Bool), r16 = .bool b16 ∧
  R (.bool (!b16)) h_6
theorem w_impl_isCounts {R : Value → Heap → Prop} {v0 : Value} {h : Heap} (hv : F_impl_isCounts R v0 h) : CallsH P id_impl_isCounts #[v0] h R :=
  callsH_of_vc ctxOk ⟨[], [(3, [])]⟩ Try.func60 [v0] h R (by kernel_rfl) (Eq.mpr (by kernel_rfl) hv)
/-- impl.isBudget -/
def F_impl_isBudget (R : Value → Heap → Prop) (x0 : Int) (h : Heap) : Prop :=
  CallsH P id_impl_within #[.int .i64 x0, .int .i64 1, .int .i64 20000] h fun r4 h_2 => ∃ (b4 : Bool), r4 = .bool b4 ∧
  R (.bool b4) h_2
theorem w_impl_isBudget {R : Value → Heap → Prop} {x0 : Int} {h : Heap} (hv : F_impl_isBudget R x0 h) : CallsH P id_impl_isBudget #[.int .i64 x0] h R :=
  callsH_of_vc ctxOk ⟨[], []⟩ Try.func61 [.int .i64 x0] h R (by kernel_rfl) (Eq.mpr (by kernel_rfl) hv)
/-- impl.isLambda -/
def F_impl_isLambda (R : Value → Heap → Prop) (x0 : Int) (h : Heap) : Prop :=
  CallsH P id_impl_within #[.int .i64 x0, .int .i64 1, .int .i64 2000] h fun r4 h_2 => ∃ (b4 : Bool), r4 = .bool b4 ∧
  R (.bool b4) h_2
theorem w_impl_isLambda {R : Value → Heap → Prop} {x0 : Int} {h : Heap} (hv : F_impl_isLambda R x0 h) : CallsH P id_impl_isLambda #[.int .i64 x0] h R :=
  callsH_of_vc ctxOk ⟨[], []⟩ Try.func62 [.int .i64 x0] h R (by kernel_rfl) (Eq.mpr (by kernel_rfl) hv)
/-- (*impl.chooser).change -/
def F_impl_chooser_change (R : Value → Heap → Prop) (p0 : Addr) (v1 : Value) (x2 : Int) (x3 : Int) (h : Heap) : Prop :=
  ldV h (p0.add 2) fun v13 =>
  vLen v13 fun n14 =>
  ∃ J : Nat → Int → Heap → Prop, (∃ n_2, J n_2 0 h) ∧ ∀ (n : Nat) (_ : Env) (x15 : Int) (h_2 : Heap), J n x15 h_2 →
  bif decide ((x15 : Int) < (n14 : Int)) then
    vIdx v13 x15 1 fun p18 =>
    ldV h_2 p18 fun v19 =>
    vIdx v1 x15 1 fun p22 =>
    ldI .i64 h_2 p22 fun x23 =>
    vIdx v19 x2 1 fun p27 =>
    ldI .i64 h_2 p27 fun x28 =>
    vIdx v1 x15 1 fun p31 =>
    vStore1 h_2 p31 (.int .i64 (IntKind.i64.wrap (x23 + (IntKind.i64.wrap (x3 * x28))))) fun h_3 =>
    ∃ m, m < n ∧ J m (IntKind.i64.wrap (x15 + 1)) h_3
  else
    R (.tuple #[]) h_2
theorem w_impl_chooser_change {R : Value → Heap → Prop} {p0 : Addr} {v1 : Value} {x2 : Int} {x3 : Int} {h : Heap} (hv : F_impl_chooser_change R p0 v1 x2 x3 h) : CallsH P id_impl_chooser_change #[.pointer (some p0), v1, .int .i64 x2, .int .i64 x3] h R :=
  callsH_of_vc ctxOk ⟨[(1, [(15, .i .i64)])], []⟩ Try.func89 [.pointer (some p0), v1, .int .i64 x2, .int .i64 x3] h R (by kernel_rfl) (Eq.mpr (by kernel_rfl) hv)
/-- (*impl.chooser).possible -/
def F_impl_chooser_possible (R : Value → Heap → Prop) (p0 : Addr) (h : Heap) : Prop :=
  ldV h (p0.add 5) fun v8 =>
  vLen v8 fun n9 =>
  ∃ J : Nat → Int → Heap → Prop, (∃ n_2, J n_2 0 h) ∧ ∀ (n : Nat) (_ : Env) (x10 : Int) (h_2 : Heap), J n x10 h_2 →
  bif decide ((x10 : Int) < (n9 : Int)) then
    vIdx v8 x10 1 fun p13 =>
    ldI .i64 h_2 p13 fun x14 =>
    ldI .i64 h_2 (p0.add 3) fun x19 =>
    bif decide ((x14 : Int) > x19) then
      R (.bool false) h_2
    else
      ldV h_2 (p0.add 6) fun v26 =>
      vIdx v26 x10 1 fun p28 =>
      ldI .i64 h_2 p28 fun x29 =>
      ldI .i64 h_2 (p0.add 3) fun x34 =>
      bif decide ((IntKind.i64.wrap (x14 + x29) : Int) < x34) then
        R (.bool false) h_2
      else
        ∃ m, m < n ∧ J m (IntKind.i64.wrap (x10 + 1)) h_2
  else
    R (.bool true) h_2
theorem w_impl_chooser_possible {R : Value → Heap → Prop} {p0 : Addr} {h : Heap} (hv : F_impl_chooser_possible R p0 h) : CallsH P id_impl_chooser_possible #[.pointer (some p0)] h R :=
  callsH_of_vc ctxOk ⟨[(2, [(10, .i .i64)])], []⟩ Try.func106 [.pointer (some p0)] h R (by kernel_rfl) (Eq.mpr (by kernel_rfl) hv)
/-- slices.Clone[[]int64,int64] -/
def F_slices_Clone_Lint64_int64 (R : Value → Heap → Prop) (v0 : Value) (h : Heap) : Prop :=
  vNilS false v0 fun b4 =>
  bif b4 then
    R (.slice none 0 0) h
  else
    vNewS h (.cells #[] t_int64) 0 fun v5 h_2 =>
    vAppend 1 8 [.int .i64 0] t_int64 v5 v0 h_2 fun v7 h_3 =>
    R v7 h_3
theorem w_slices_Clone_Lint64_int64 {R : Value → Heap → Prop} {v0 : Value} {h : Heap} (hv : F_slices_Clone_Lint64_int64 R v0 h) : CallsH P id_slices_Clone_Lint64_int64 #[v0] h R :=
  callsH_of_vc ctxOk ⟨[], []⟩ Try.func107 [v0] h R (by kernel_rfl) (Eq.mpr (by kernel_rfl) hv)
/-- (*impl.counter).node -/
def F_impl_counter_node (R : Value → Heap → Prop) (p0 : Addr) (h : Heap) : Prop :=
  ldI .i64 h p0 fun x6 =>
  bif (x6 : Int) == 0 then
    vStore1 h (p0.add 1) (.bool true) fun h_2 =>
    R (.bool false) h_2
  else
    ldI .i64 h p0 fun x14 =>
    vStore1 h p0 (.int .i64 (IntKind.i64.wrap (x14 - 1))) fun h_3 =>
    R (.bool true) h_3
theorem w_impl_counter_node {R : Value → Heap → Prop} {p0 : Addr} {h : Heap} (hv : F_impl_counter_node R p0 h) : CallsH P id_impl_counter_node #[.pointer (some p0)] h R :=
  callsH_of_vc ctxOk ⟨[], []⟩ Try.func108 [.pointer (some p0)] h R (by kernel_rfl) (Eq.mpr (by kernel_rfl) hv)
/-- (*impl.chooser).search -/
def F_impl_chooser_search (R : Value → Heap → Prop) (p0 : Addr) (x1 : Int) (h : Heap) : Prop :=
  ldV h (p0.add 2) fun v10 =>
  vIdx v10 0 1 fun p11 =>
  ldV h p11 fun v12 =>
  vLen v12 fun n13 =>
  bif (x1 : Int) == (n13 : Int) then
    CallsH P id_impl_chooser_possible #[.pointer (some p0)] h fun r16 h_2 => ∃ (b16 : Bool), r16 = .bool b16 ∧
    bif b16 then
      ∃ J : Heap → Prop, (
        ldI .i64 h_2 (p0.add 8) fun x20 =>
        bif (x20 : Int) == 0 then
          ldV h_2 (p0.add 7) fun v26 =>
          CallsH P id_slices_Clone_Lint64_int64 #[v26] h_2 fun r27 h_3 => ∃ (v27 : Value), r27 = v27 ∧
          vStore1 h_3 (p0.add 9) v27 fun h_4 =>
          J h_4
        else
          J h_2
      ) ∧ ∀ (_ : Env) (h_5 : Heap), J h_5 →
      ldI .i64 h_5 (p0.add 8) fun x33 =>
      vStore1 h_5 (p0.add 8) (.int .i64 (IntKind.i64.wrap (x33 + 1))) fun h_6 =>
      R (.tuple #[]) h_6
    else
      R (.tuple #[]) h_2
  else
    ldV h (p0.add 6) fun v41 =>
    CallsH P id_impl_chooser_change #[.pointer (some p0), v41, .int .i64 x1, .int .i64 (-1)] h fun r43 h_7 => r43 = .tuple #[] ∧
    vNewS h_7 (.cells #[.bool true, .bool false] t_bool) 2 fun v44 h_8 =>
    vLen v44 fun n45 =>
    ∃ J_2 : Nat → Int → Heap → Prop, (∃ n_2, J_2 n_2 0 h_8) ∧ ∀ (n : Nat) (_ : Env) (x46 : Int) (h_9 : Heap), J_2 n x46 h_9 →
    bif decide ((x46 : Int) < (n45 : Int)) then
      vIdx v44 x46 1 fun p48 =>
      ldB h_9 p48 fun b49 =>
      ∃ J_3 : Heap → Prop, (
        bif b49 then
          ldV h_9 (p0.add 5) fun v55 =>
          CallsH P id_impl_chooser_change #[.pointer (some p0), v55, .int .i64 x1, .int .i64 1] h_9 fun r57 h_10 => r57 = .tuple #[] ∧
          ldV h_10 (p0.add 7) fun v62 =>
          vNewS h_10 (.cells #[.int .i64 x1] t_int64) 1 fun v64 h_11 =>
          vAppend 1 8 [.int .i64 0] t_int64 v62 v64 h_11 fun v65 h_12 =>
          vStore1 h_12 (p0.add 7) v65 fun h_13 =>
          J_3 h_13
        else
          J_3 h_9
      ) ∧ ∀ (_ : Env) (h_14 : Heap), J_3 h_14 →
      ∃ J_4 : Heap → Prop, (
        CallsH P id_impl_chooser_possible #[.pointer (some p0)] h_14 fun r69 h_15 => ∃ (b69 : Bool), r69 = .bool b69 ∧
        bif b69 then
          ldI .i64 h_15 (p0.add 8) fun x74 =>
          ldI .i64 h_15 (p0.add 4) fun x78 =>
          bif decide ((x74 : Int) < x78) then
            ldB h_15 (p0.add 1) fun b86 =>
            bif !b86 then
              CallsH P id_impl_counter_node #[.pointer (some p0)] h_15 fun r93 h_16 => ∃ (b93 : Bool), r93 = .bool b93 ∧
              bif b93 then
                CallsH P id_impl_chooser_search #[.pointer (some p0), .int .i64 (IntKind.i64.wrap (x1 + 1))] h_16 fun r98 h_17 => r98 = .tuple #[] ∧
                J_4 h_17
              else
                J_4 h_16
            else
              J_4 h_15
          else
            J_4 h_15
        else
          J_4 h_15
      ) ∧ ∀ (_ : Env) (h_18 : Heap), J_4 h_18 →
      bif b49 then
        ldV h_18 (p0.add 5) fun v104 =>
        CallsH P id_impl_chooser_change #[.pointer (some p0), v104, .int .i64 x1, .int .i64 (-1)] h_18 fun r106 h_19 => r106 = .tuple #[] ∧
        ldV h_19 (p0.add 7) fun v111 =>
        ldV h_19 (p0.add 7) fun v115 =>
        vLen v115 fun n116 =>
        vSliceS v111 1 none (some (.int .i64 (IntKind.i64.wrap ((n116 : Int) - 1)))) none fun v118 =>
        vStore1 h_19 (p0.add 7) v118 fun h_20 =>
        ∃ m, m < n ∧ J_2 m (IntKind.i64.wrap (x46 + 1)) h_20
      else
        ∃ m, m < n ∧ J_2 m (IntKind.i64.wrap (x46 + 1)) h_18
    else
      ldV h_9 (p0.add 6) fun v126 =>
      CallsH P id_impl_chooser_change #[.pointer (some p0), v126, .int .i64 x1, .int .i64 1] h_9 fun r128 h_21 => r128 = .tuple #[] ∧
      R (.tuple #[]) h_21
theorem w_impl_chooser_search {R : Value → Heap → Prop} {p0 : Addr} {x1 : Int} {h : Heap} (hv : F_impl_chooser_search R p0 x1 h) : CallsH P id_impl_chooser_search #[.pointer (some p0), .int .i64 x1] h R :=
  callsH_of_vc ctxOk ⟨[(7, [(46, .i .i64)])], [(4, []), (12, []), (14, [])]⟩ Try.func90 [.pointer (some p0), .int .i64 x1] h R (by kernel_rfl) (Eq.mpr (by kernel_rfl) hv)
/-- impl.choices -/
def F_impl_choices (R : Value → Heap → Prop) (v0 : Value) (x1 : Int) (x2 : Int) (x3 : Int) (h : Heap) : Prop :=
  (
    vLen v0 fun n17 =>
    vMake 8 [.int .i64 0] t_int64 (n17 : Int) (n17 : Int) h fun v18 h_2 =>
    vLen v0 fun n20 =>
    vMake 8 [.int .i64 0] t_int64 (n20 : Int) (n20 : Int) h_2 fun v21 h_3 =>
    vOne v0 fun _ =>
    vOne v18 fun _ =>
    vOne v21 fun _ =>
    vNew h_3 (.cells #[.int .i64 x3, .bool false, v0, .int .i64 x1, .int .i64 x2, v18, v21, (.slice none 0 0), .int .i64 0, (.slice none 0 0)] t_impl_chooser) fun p23 h_4 =>
    vIdx v0 0 1 fun p25 =>
    ldV h_4 p25 fun v26 =>
    vLen v26 fun n27 =>
    ∃ J : Nat → Int → Heap → Prop, (∃ n_2, J n_2 0 h_4) ∧ ∀ (n : Nat) (_ : Env) (x28 : Int) (h_5 : Heap), J n x28 h_5 →
    bif decide ((x28 : Int) < (n27 : Int)) then
      ldV h_5 (p23.add 6) fun v35 =>
      CallsH P id_impl_chooser_change #[.pointer (some p23), v35, .int .i64 x28, .int .i64 1] h_5 fun r37 h_6 => r37 = .tuple #[] ∧
      ∃ m, m < n ∧ J m (IntKind.i64.wrap (x28 + 1)) h_6
    else
      CallsH P id_impl_chooser_search #[.pointer (some p23), .int .i64 0] h_5 fun r40 h_7 => r40 = .tuple #[] ∧
      R (.pointer (some p23)) h_7
  ) ∧
  (
    vLen v0 fun n20_2 =>
    vMake 8 [.int .i64 0] t_int64 (n20_2 : Int) (n20_2 : Int) h fun v21_2 h_8 =>
    vLen v0 fun n17_2 =>
    vMake 8 [.int .i64 0] t_int64 (n17_2 : Int) (n17_2 : Int) h_8 fun v18_2 h_9 =>
    vOne v0 fun _ =>
    vOne v18_2 fun _ =>
    vOne v21_2 fun _ =>
    vNew h_9 (.cells #[.int .i64 x3, .bool false, v0, .int .i64 x1, .int .i64 x2, v18_2, v21_2, (.slice none 0 0), .int .i64 0, (.slice none 0 0)] t_impl_chooser) fun p23_2 h_10 =>
    vIdx v0 0 1 fun p25_2 =>
    ldV h_10 p25_2 fun v26_2 =>
    vLen v26_2 fun n27_2 =>
    ∃ J_2 : Nat → Int → Heap → Prop, (∃ n_4, J_2 n_4 0 h_10) ∧ ∀ (n_3 : Nat) (_ : Env) (x28_2 : Int) (h_11 : Heap), J_2 n_3 x28_2 h_11 →
    bif decide ((x28_2 : Int) < (n27_2 : Int)) then
      ldV h_11 (p23_2.add 6) fun v35_2 =>
      CallsH P id_impl_chooser_change #[.pointer (some p23_2), v35_2, .int .i64 x28_2, .int .i64 1] h_11 fun r37_2 h_12 => r37_2 = .tuple #[] ∧
      ∃ m_2, m_2 < n_3 ∧ J_2 m_2 (IntKind.i64.wrap (x28_2 + 1)) h_12
    else
      CallsH P id_impl_chooser_search #[.pointer (some p23_2), .int .i64 0] h_11 fun r40_2 h_13 => r40_2 = .tuple #[] ∧
      R (.pointer (some p23_2)) h_13
  )
theorem w_impl_choices {R : Value → Heap → Prop} {v0 : Value} {x1 : Int} {x2 : Int} {x3 : Int} {h : Heap} (hv : F_impl_choices R v0 x1 x2 x3 h) : CallsH P id_impl_choices #[v0, .int .i64 x1, .int .i64 x2, .int .i64 x3] h R :=
  callsH_of_vc ctxOk ⟨[(3, [(28, .i .i64)])], []⟩ Try.func64 [v0, .int .i64 x1, .int .i64 x2, .int .i64 x3] h R (by kernel_rfl) (Eq.mpr (by kernel_rfl) hv)
/-- impl.ChooseOrbits -/
def F_impl_ChooseOrbits (R : Value → Heap → Prop) (v0 : Value) (x1 : Int) (x2 : Int) (h : Heap) : Prop :=
  CallsH P id_impl_isCounts #[v0] h fun r10 h_2 => ∃ (b10 : Bool), r10 = .bool b10 ∧
  bif !b10 then
    R (.tuple #[(.slice none 0 0), .int .i64 1]) h_2
  else
    ∃ J : Heap → Prop, (
      CallsH P id_impl_isBudget #[.int .i64 x2] h_2 fun r13 h_3 => ∃ (b13 : Bool), r13 = .bool b13 ∧
      bif !b13 then
        R (.tuple #[(.slice none 0 0), .int .i64 2]) h_3
      else
        CallsH P id_impl_isLambda #[.int .i64 x1] h_3 fun r17 h_4 => ∃ (b17 : Bool), r17 = .bool b17 ∧
        bif !b17 then
          R (.tuple #[(.slice none 0 0), .int .i64 2]) h_4
        else
          J h_4
    ) ∧ ∀ (_ : Env) (h_5 : Heap), J h_5 →
    CallsH P id_impl_choices #[v0, .int .i64 x1, .int .i64 1, .int .i64 x2] h_5 fun r23 h_6 => ∃ (p23 : Addr), r23 = .pointer (some p23) ∧
    ldB h_6 (p23.add 1) fun b33 =>
    bif b33 then
      R (.tuple #[(.slice none 0 0), .int .i64 5]) h_6
    else
      ldI .i64 h_6 (p23.add 8) fun x38 =>
      bif (x38 : Int) == 0 then
        R (.tuple #[(.slice none 0 0), .int .i64 3]) h_6
      else
        ldV h_6 (p23.add 9) fun v27 =>
        R (.tuple #[v27, .int .i64 0]) h_6
theorem w_impl_ChooseOrbits {R : Value → Heap → Prop} {v0 : Value} {x1 : Int} {x2 : Int} {h : Heap} (hv : F_impl_ChooseOrbits R v0 x1 x2 h) : CallsH P id_impl_ChooseOrbits #[v0, .int .i64 x1, .int .i64 x2] h R :=
  callsH_of_vc ctxOk ⟨[], [(5, [])]⟩ Try.func33 [v0, .int .i64 x1, .int .i64 x2] h R (by kernel_rfl) (Eq.mpr (by kernel_rfl) hv)
/-- laws.markInt64SS -/
def F_laws_markInt64SS (R : Value → Heap → Prop) (v0 : Value) (x1 : Int) (h : Heap) : Prop :=
  ∃ J : Nat → Int → Int → Heap → Prop, (∃ n_2, J n_2 x1 0 h) ∧ ∀ (n : Nat) (_ : Env) (x1_2 : Int) (x5 : Int) (h_2 : Heap), J n x1_2 x5 h_2 →
  vLen v0 fun n8 =>
  bif decide ((x5 : Int) < (n8 : Int)) then
    vIdx v0 x5 1 fun p14 =>
    ldV h_2 p14 fun v15 =>
    CallsH P id_laws_markInt64S #[v15, .int .i64 x1_2] h_2 fun r17 h_3 => ∃ (x17 : Int), r17 = .int .i64 x17 ∧
    ∃ m, m < n ∧ J m x17 (IntKind.i64.wrap (x5 + 1)) h_3
  else
    R (.int .i64 x1_2) h_2
theorem w_laws_markInt64SS {R : Value → Heap → Prop} {v0 : Value} {x1 : Int} {h : Heap} (hv : F_laws_markInt64SS R v0 x1 h) : CallsH P id_laws_markInt64SS #[v0, .int .i64 x1] h R :=
  callsH_of_vc ctxOk ⟨[(2, [(1, .i .i64), (5, .i .i64)])], []⟩ Try.func34 [v0, .int .i64 x1] h R (by kernel_rfl) (Eq.mpr (by kernel_rfl) hv)
/-- laws.FnExactChooseOrbits -/
def F_laws_FnExactChooseOrbits (R : Value → Heap → Prop) (v0 : Value) (x1 : Int) (x2 : Int) (h : Heap) : Prop :=
  CallsH P id_laws_szInt64SS #[v0, .int .i64 1048576] h fun r20 h_2 => ∃ (x20 : Int), r20 = .int .i64 x20 ∧
  bif decide ((x20 : Int) < 0) then
    R (.bool true) h_2
  else
    CallsH P id_laws_toInt64SS #[v0] h_2 fun r25 h_3 => ∃ (v25 : Value), r25 = v25 ∧
    CallsH P id_spec_ChooseOrbits #[v25, .int .i64 x1, .int .i64 x2] h_3 fun r28 h_4 => ∃ (v28_0 : Value), ∃ (x28_1 : Int), r28 = .tuple #[v28_0, .int .i64 x28_1] ∧
    CallsH P id_laws_toInt64SS #[v0] h_4 fun r32 h_5 => ∃ (v32 : Value), r32 = v32 ∧
    CallsH P id_impl_ChooseOrbits #[v32, .int .i64 x1, .int .i64 x2] h_5 fun r37 h_6 => ∃ (v37_0 : Value), ∃ (x37_1 : Int), r37 = .tuple #[v37_0, .int .i64 x37_1] ∧
    ∃ J : Heap → Prop, (
      CallsH P id_laws_eqInt64S #[v37_0, v28_0] h_6 fun r42 h_7 => ∃ (b42 : Bool), r42 = .bool b42 ∧
      bif !b42 then
        R (.bool false) h_7
      else
        bif (x37_1 : Int) != x28_1 then
          R (.bool false) h_7
        else
          J h_7
    ) ∧ ∀ (_ : Env) (h_8 : Heap), J h_8 →
    CallsH P id_laws_toInt64SS #[v0] h_8 fun r51 h_9 => ∃ (v51 : Value), r51 = v51 ∧
    CallsH P id_laws_eqInt64SS #[v32, v51] h_9 fun r52 h_10 => ∃ (b52 : Bool), r52 = .bool b52 ∧
    bif !b52 then
      R (.bool false) h_10
    else
      CallsH P id_laws_markInt64SS #[v32, .int .i64 1] h_10 fun r56 h_11 => ∃ (x56 : Int), r56 = .int .i64 x56 ∧
      ∃ J_2 : Heap → Prop, (
        bif decide ((x56 : Int) < 0) then
          R (.bool false) h_11
        else
          CallsH P id_laws_eqInt64S #[v37_0, v28_0] h_11 fun r62 h_12 => ∃ (b62 : Bool), r62 = .bool b62 ∧
          bif !b62 then
            R (.bool false) h_12
          else
            bif (x37_1 : Int) != x28_1 then
              R (.bool false) h_12
            else
              J_2 h_12
      ) ∧ ∀ (_ : Env) (h_13 : Heap), J_2 h_13 →
      CallsH P id_laws_markInt64S #[v37_0, .int .i64 1] h_13 fun r72 h_14 => ∃ (x72 : Int), r72 = .int .i64 x72 ∧
      CallsH P id_laws_heldInt64S #[v37_0, .int .i64 1] h_14 fun r75 h_15 => ∃ (x75 : Int), r75 = .int .i64 x75 ∧
      bif decide ((x75 : Int) < 0) then
        R (.bool false) h_15
      else
        bif (x75 : Int) != x72 then
          R (.bool false) h_15
        else
          CallsH P id_laws_toInt64SS #[v0] h_15 fun r83 h_16 => ∃ (v83 : Value), r83 = v83 ∧
          CallsH P id_impl_ChooseOrbits #[v83, .int .i64 x1, .int .i64 x2] h_16 fun r86 h_17 => ∃ (v86_0 : Value), ∃ (x86_1 : Int), r86 = .tuple #[v86_0, .int .i64 x86_1] ∧
          ∃ J_3 : Heap → Prop, (
            CallsH P id_laws_eqInt64S #[v86_0, v28_0] h_17 fun r91 h_18 => ∃ (b91 : Bool), r91 = .bool b91 ∧
            bif !b91 then
              R (.bool false) h_18
            else
              bif (x86_1 : Int) != x28_1 then
                R (.bool false) h_18
              else
                J_3 h_18
          ) ∧ ∀ (_ : Env) (h_19 : Heap), J_3 h_19 →
          CallsH P id_laws_heldInt64S #[v37_0, .int .i64 1] h_19 fun r100 h_20 => ∃ (x100 : Int), r100 = .int .i64 x100 ∧
          bif decide ((x100 : Int) < 0) then
            R (.bool false) h_20
          else
            bif (x100 : Int) != x72 then
              R (.bool false) h_20
            else
              R (.bool true) h_20
theorem w_laws_FnExactChooseOrbits {R : Value → Heap → Prop} {v0 : Value} {x1 : Int} {x2 : Int} {h : Heap} (hv : F_laws_FnExactChooseOrbits R v0 x1 x2 h) : CallsH P id_laws_FnExactChooseOrbits #[v0, .int .i64 x1, .int .i64 x2] h R :=
  callsH_of_vc ctxOk ⟨[], [(10, []), (16, []), (27, [])]⟩ Try.func8 [v0, .int .i64 x1, .int .i64 x2] h R (by kernel_rfl) (Eq.mpr (by kernel_rfl) hv)
end Go.Proofs.Ytieehpcgmjbceaa
