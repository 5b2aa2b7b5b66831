/- Shallow verification conditions of the functions of this seat, printed by gen.py; each is held against the program by the kernel. -/
import Derived.Test.YtkgeocffngdeoaaGreatVcSoundE
import Derived.Test.YtkgeocffngdeoaaGreatPuBase
import Derived.Test.YtkgeocffngdeoaaGreatProg
import Derived.KernelRfl
namespace Go.Proofs.YtkgeocffngdeoaaGreat
open Go Go.Vc Go.Proofs
set_option linter.unusedVariables false
set_option maxRecDepth 100000
noncomputable abbrev P : Program := Tryz.prog
abbrev id_laws_szInt64S : Nat := 48
abbrev id_laws_szInt64SS : Nat := 23
abbrev id_laws_szDesign : Nat := 5
abbrev id_spec_l00In : Nat := 76
abbrev id_spec_l00Rises : Nat := 108
abbrev id_spec_l10Block : Nat := 82
abbrev id_spec_CompareLists : Nat := 96
abbrev id_spec_l10Ok : Nat := 67
abbrev id_spec_l00Same : Nat := 73
abbrev id_spec_l00Has : Nat := 101
abbrev id_spec_l10Pairs : Nat := 74
abbrev id_spec_l28Packing : Nat := 42
abbrev id_spec_Choose : Nat := 104
abbrev id_spec_l28Ask : Nat := 77
abbrev id_spec_l00Own : Nat := 105
abbrev id_spec_l28All : Nat := 78
abbrev id_spec_l05Find : Nat := 79
abbrev id_spec_l24Pair : Nat := 106
abbrev id_spec_l28Search_add : Nat := 80
abbrev id_spec_l28Search_fits : Nat := 107
abbrev id_spec_l28Search_visit : Nat := 81
abbrev id_spec_l28Run : Nat := 49
abbrev id_spec_l10Sort : Nat := 83
abbrev id_spec_l10Make : Nat := 50
abbrev id_spec_l28First : Nat := 24
abbrev id_spec_CompleteDesign : Nat := 6
abbrev id_laws_toInt64S : Nat := 51
abbrev id_laws_toInt64SS : Nat := 25
abbrev id_laws_toDesign : Nat := 7
abbrev id_impl_within : Nat := 31
abbrev id_slices_IndexFunc_LLint64_Lint64 : Nat := 109
abbrev id_slices_ContainsFunc_LLint64_Lint64 : Nat := 84
abbrev id_impl_ValidSet : Nat := 58
abbrev id_impl_isBlock : Nat := 86
abbrev id_impl_areBlocks_1 : Nat := 85
abbrev id_impl_areBlocks : Nat := 52
abbrev id_slices_IsSortedFunc_LLint64_Lint64 : Nat := 53
abbrev id_cmp_isNaN_int64 : Nat := 110
abbrev id_cmp_Compare_int64 : Nat := 87
abbrev id_slices_Compare_Lint64_int64 : Nat := 54
abbrev id_impl_ValidDesign : Nat := 26
abbrev id_impl_Choose : Nat := 34
abbrev id_impl_identity : Nat := 60
abbrev id_impl_size_int64 : Nat := 59
abbrev id_slices_Clone_Lint64_int64 : Nat := 88
abbrev id_impl_NextSubset : Nat := 61
abbrev id_impl_allSubsets : Nat := 35
abbrev id_impl_filledSquare : Nat := 99
abbrev id_impl_emptySquare_1 : Nat := 100
abbrev id_impl_emptySquare : Nat := 72
abbrev id_impl_pairCounts : Nat := 41
abbrev id_slices_Equal_Lint64_int64 : Nat := 69
abbrev id_slices_IndexFunc_Lint64_int64 : Nat := 98
abbrev id_slices_ContainsFunc_Lint64_int64 : Nat := 70
abbrev id_impl_isDesignPacking_1 : Nat := 71
abbrev id_impl_isDesignPacking : Nat := 40
abbrev id_impl_isSearched : Nat := 43
abbrev id_impl_load_change : Nat := 46
abbrev id_impl_loadOf : Nat := 44
abbrev id_impl_isBudget : Nat := 63
abbrev id_impl_copyLists : Nat := 64
abbrev id_impl_hasList_1 : Nat := 92
abbrev id_impl_hasList : Nat := 65
abbrev id_impl_load_most : Nat := 45
abbrev id_impl_counter_node : Nat := 93
abbrev id_impl_blocker_shortPair : Nat := 94
abbrev id_slices_Index_Lint64_int64 : Nat := 117
abbrev id_slices_Contains_Lint64_int64 : Nat := 95
abbrev id_impl_blocker_search : Nat := 66
abbrev id_impl_completed : Nat := 38
abbrev id_slices_SortFunc_LLint64_Lint64 : Nat := 75
abbrev id_impl_sorted : Nat := 47
abbrev id_impl_firstCompletion : Nat := 27
abbrev id_impl_CompleteDesign : Nat := 8
abbrev id_laws_eqInt64S : Nat := 55
abbrev id_laws_eqInt64SS : Nat := 28
abbrev id_laws_eqDesign : Nat := 9
abbrev id_laws_markInt64S : Nat := 56
abbrev id_laws_markInt64SS : Nat := 29
abbrev id_laws_markDesign : Nat := 10
abbrev id_laws_heldInt64S : Nat := 57
abbrev id_laws_heldInt64SS : Nat := 30
abbrev id_laws_heldDesign : Nat := 11
abbrev id_laws_FnExactCompleteDesign : Nat := 3
abbrev t_int64 : Nat := 2
abbrev t_int : Nat := 3
abbrev t_bool : Nat := 4
abbrev t_S_S_int64 : Nat := 22
abbrev t_laws_Design : Nat := 24
abbrev t_impl_Design : Nat := 26
abbrev t_S_int64 : Nat := 45
abbrev t_impl_counter : Nat := 67
abbrev t_impl_load : Nat := 68
abbrev t_S_bool : Nat := 69
abbrev t_impl_blocker : Nat := 71
abbrev t_S_int : Nat := 83
abbrev t_spec_l28Search : Nat := 85
def tab : List (Nat × TE) := [(2, ⟨.int .i64, [.i .i64], [.int .i64 0], 8⟩),
  (3, ⟨.int .i64, [.i .i64], [.int .i64 0], 8⟩),
  (4, ⟨.bool, [.b], [.bool false], 1⟩),
  (22, ⟨.slice 45, [.v], [.slice none 0 0], 24⟩),
  (24, ⟨.struct [(0, 1, false), (1, 1, false)], [.i .i64, .v], [.int .i64 0, .slice none 0 0], 32⟩),
  (26, ⟨.struct [(0, 1, false), (1, 1, false)], [.i .i64, .v], [.int .i64 0, .slice none 0 0], 32⟩),
  (45, ⟨.slice 2, [.v], [.slice none 0 0], 24⟩),
  (67, ⟨.struct [(0, 1, false), (1, 1, false)], [.i .i64, .b], [.int .i64 0, .bool false], 16⟩),
  (68, ⟨.slice 45, [.v], [.slice none 0 0], 24⟩),
  (69, ⟨.slice 4, [.v], [.slice none 0 0], 24⟩),
  (71, ⟨.struct [(0, 2, true), (2, 1, false), (3, 1, false), (4, 1, false), (5, 1, false), (6, 1, false), (7, 1, false), (8, 1, false), (9, 1, false), (10, 1, false)], [.i .i64, .b, .i .i64, .b, .v, .v, .v, .v, .i .i64, .i .i64, .v], [.int .i64 0, .bool false, .int .i64 0, .bool false, .slice none 0 0, .slice none 0 0, .slice none 0 0, .slice none 0 0, .int .i64 0, .int .i64 0, .slice none 0 0], 168⟩),
  (83, ⟨.slice 3, [.v], [.slice none 0 0], 24⟩),
  (85, ⟨.struct [(0, 1, false), (1, 1, false), (2, 1, false), (3, 1, false), (4, 1, false), (5, 1, false), (6, 1, false), (7, 1, false), (8, 1, false), (9, 1, false), (10, 1, false)], [.i .i64, .i .i64, .v, .v, .v, .v, .i .i64, .i .i64, .i .i64, .b, .v], [.int .i64 0, .int .i64 0, .slice none 0 0, .slice none 0 0, .slice none 0 0, .slice none 0 0, .int .i64 0, .int .i64 0, .int .i64 0, .bool false, .slice none 0 0], 168⟩)]
def rst : List (Nat × RS) := [(0, ⟨true, []⟩),
  (2, ⟨false, [(false, [.i .i64])]⟩),
  (3, ⟨false, [(false, [.i .i64])]⟩),
  (4, ⟨false, [(false, [.b])]⟩),
  (22, ⟨false, [(false, [.v])]⟩),
  (26, ⟨false, [(true, [.i .i64, .v])]⟩),
  (27, ⟨true, [(true, [.i .i64, .v]), (false, [.i .i64])]⟩),
  (45, ⟨false, [(false, [.v])]⟩),
  (64, ⟨true, [(false, [.v]), (false, [.i .i64])]⟩),
  (68, ⟨false, [(false, [.v])]⟩),
  (81, ⟨true, [(false, [.v]), (false, [.i .i64])]⟩),
  (92, ⟨true, [(false, [.v]), (false, [.b])]⟩),
  (111, ⟨true, [(false, [.i .i64]), (false, [.b])]⟩),
  (121, ⟨true, [(false, [.i .i64]), (false, [.i .i64]), (false, [.b])]⟩)]
noncomputable def ctx : Ctx := ⟨Tryz.prog, tab, rst, 3, 151⟩
theorem te2 : TeOk P 2 ⟨.int .i64, [.i .i64], [.int .i64 0], 8⟩ := ⟨by kernel_rfl, by kernel_rfl, by kernel_rfl⟩
theorem te3 : TeOk P 3 ⟨.int .i64, [.i .i64], [.int .i64 0], 8⟩ := ⟨by kernel_rfl, by kernel_rfl, by kernel_rfl⟩
theorem te4 : TeOk P 4 ⟨.bool, [.b], [.bool false], 1⟩ := ⟨by kernel_rfl, by kernel_rfl, by kernel_rfl⟩
theorem te22 : TeOk P 22 ⟨.slice 45, [.v], [.slice none 0 0], 24⟩ := ⟨by kernel_rfl, by kernel_rfl, by kernel_rfl⟩
theorem te24 : TeOk P 24 ⟨.struct [(0, 1, false), (1, 1, false)], [.i .i64, .v], [.int .i64 0, .slice none 0 0], 32⟩ := ⟨by kernel_rfl, by kernel_rfl, by kernel_rfl⟩
theorem te26 : TeOk P 26 ⟨.struct [(0, 1, false), (1, 1, false)], [.i .i64, .v], [.int .i64 0, .slice none 0 0], 32⟩ := ⟨by kernel_rfl, by kernel_rfl, by kernel_rfl⟩
theorem te45 : TeOk P 45 ⟨.slice 2, [.v], [.slice none 0 0], 24⟩ := ⟨by kernel_rfl, by kernel_rfl, by kernel_rfl⟩
theorem te67 : TeOk P 67 ⟨.struct [(0, 1, false), (1, 1, false)], [.i .i64, .b], [.int .i64 0, .bool false], 16⟩ := ⟨by kernel_rfl, by kernel_rfl, by kernel_rfl⟩
theorem te68 : TeOk P 68 ⟨.slice 45, [.v], [.slice none 0 0], 24⟩ := ⟨by kernel_rfl, by kernel_rfl, by kernel_rfl⟩
theorem te69 : TeOk P 69 ⟨.slice 4, [.v], [.slice none 0 0], 24⟩ := ⟨by kernel_rfl, by kernel_rfl, by kernel_rfl⟩
theorem te71 : TeOk P 71 ⟨.struct [(0, 2, true), (2, 1, false), (3, 1, false), (4, 1, false), (5, 1, false), (6, 1, false), (7, 1, false), (8, 1, false), (9, 1, false), (10, 1, false)], [.i .i64, .b, .i .i64, .b, .v, .v, .v, .v, .i .i64, .i .i64, .v], [.int .i64 0, .bool false, .int .i64 0, .bool false, .slice none 0 0, .slice none 0 0, .slice none 0 0, .slice none 0 0, .int .i64 0, .int .i64 0, .slice none 0 0], 168⟩ := ⟨by kernel_rfl, by kernel_rfl, by kernel_rfl⟩
theorem te83 : TeOk P 83 ⟨.slice 3, [.v], [.slice none 0 0], 24⟩ := ⟨by kernel_rfl, by kernel_rfl, by kernel_rfl⟩
theorem te85 : TeOk P 85 ⟨.struct [(0, 1, false), (1, 1, false), (2, 1, false), (3, 1, false), (4, 1, false), (5, 1, false), (6, 1, false), (7, 1, false), (8, 1, false), (9, 1, false), (10, 1, false)], [.i .i64, .i .i64, .v, .v, .v, .v, .i .i64, .i .i64, .i .i64, .b, .v], [.int .i64 0, .int .i64 0, .slice none 0 0, .slice none 0 0, .slice none 0 0, .slice none 0 0, .int .i64 0, .int .i64 0, .int .i64 0, .bool false, .slice none 0 0], 168⟩ := ⟨by kernel_rfl, by kernel_rfl, by kernel_rfl⟩
theorem tabOk_all : ∀ p ∈ tab, TeOk P p.1 p.2 := by
  unfold tab
  simp only [List.forall_mem_cons]
  exact ⟨te2, te3, te4, te22, te24, te26, te45, te67, te68, te69, te71, te83, te85, fun p hp => by cases hp⟩
theorem tab_mem : ∀ (l : List (Nat × TE)) (t : Nat) (te : TE), tabGet l t = some te → (t, te) ∈ l
  | [], t, te, h => by cases h
  | (k, x) :: r, t, te, h => by
    unfold tabGet at h
    cases hb : Nat.beq k t with
    | true => rw [hb] at h; have := Nat.eq_of_beq_eq_true hb; subst this; cases h; exact List.mem_cons_self ..
    | false => rw [hb] at h; exact List.mem_cons_of_mem _ (tab_mem r t te h)
noncomputable def fnB (f : Nat) : Bool := match P.funcs[f]? with | some fn => fn.body.isSome && !(fn.name == "runtime.NumGoroutine") | none => false
theorem fns_all : (List.range' 3 148).all fnB = true := by kernel_rfl
theorem ctxOk : CtxOk ctx where
  tab := fun t te h => tabOk_all (t, te) (tab_mem _ t te h)
  fns := fun f hf => by
    simp only [Ctx.okf, Bool.and_eq_true] at hf
    have h1 : 3 ≤ f := Nat.le_of_ble_eq_true hf.1
    have h2 : f < 151 := Nat.blt_eq.mp hf.2
    have h := List.all_eq_true.1 fns_all f (List.mem_range'_1.2 ⟨h1, by omega⟩)
    unfold fnB at h
    split at h
    · rename_i fn hfn; simp only [Bool.and_eq_true, Bool.not_eq_true'] at h; exact ⟨fn, hfn, h.1, h.2⟩
    · cases h
  mixed := by kernel_rfl
/-- laws.szInt64S -/
def F_laws_szInt64S (R : Value → Heap → Prop) (v0 : Value) (x1 : Int) (h : Heap) : Prop :=
  vLen v0 fun n7 =>
  bif decide ((IntKind.i64.wrap (x1 - (n7 : Int)) : Int) < 0) then
    R (.int .i64 (-1)) h
  else
    R (.int .i64 (IntKind.i64.wrap (x1 - (n7 : Int)))) h
theorem w_laws_szInt64S {R : Value → Heap → Prop} {v0 : Value} {x1 : Int} {h : Heap} (hv : F_laws_szInt64S R v0 x1 h) : CallsH P id_laws_szInt64S #[v0, .int .i64 x1] h R :=
  callsH_of_vc ctxOk ⟨[], []⟩ Tryz.func48 [v0, .int .i64 x1] h R (by kernel_rfl) (Eq.mpr (by kernel_rfl) hv)
/-- laws.szInt64SS -/
def F_laws_szInt64SS (R : Value → Heap → Prop) (v0 : Value) (x1 : Int) (h : Heap) : Prop :=
  vLen v0 fun n8 =>
  bif decide ((IntKind.i64.wrap (x1 - (n8 : Int)) : Int) < 0) then
    R (.int .i64 (-1)) h
  else
    ∃ J : Nat → Int → Int → Heap → Prop, (∃ n_2, J n_2 (IntKind.i64.wrap (x1 - (n8 : Int))) 0 h) ∧ ∀ (n : Nat) (_ : Env) (x1_2 : Int) (x5 : Int) (h_2 : Heap), J n x1_2 x5 h_2 →
    vLen v0 fun n14 =>
    bif decide ((x5 : Int) < (n14 : Int)) then
      vIdx v0 x5 1 fun p20 =>
      ldV h_2 p20 fun v21 =>
      CallsH P id_laws_szInt64S #[v21, .int .i64 x1_2] h_2 fun r23 h_3 => ∃ (x23 : Int), r23 = .int .i64 x23 ∧
      bif decide ((x23 : Int) < 0) then
        R (.int .i64 (-1)) h_3
      else
        ∃ m, m < n ∧ J m x23 (IntKind.i64.wrap (x5 + 1)) h_3
    else
      R (.int .i64 x1_2) h_2
theorem w_laws_szInt64SS {R : Value → Heap → Prop} {v0 : Value} {x1 : Int} {h : Heap} (hv : F_laws_szInt64SS R v0 x1 h) : CallsH P id_laws_szInt64SS #[v0, .int .i64 x1] h R :=
  callsH_of_vc ctxOk ⟨[(5, [(1, .i .i64), (5, .i .i64)])], []⟩ Tryz.func23 [v0, .int .i64 x1] h R (by kernel_rfl) (Eq.mpr (by kernel_rfl) hv)
/-- laws.szDesign -/
def F_laws_szDesign (R : Value → Heap → Prop) (x0_0 : Int) (v0_1 : Value) (x1 : Int) (h : Heap) : Prop :=
  vNew h (.cells #[.int .i64 x0_0, v0_1] t_laws_Design) fun p2 h_2 =>
  ldV h_2 (p2.add 1) fun v6 =>
  CallsH P id_laws_szInt64SS #[v6, .int .i64 x1] h_2 fun r8 h_3 => ∃ (x8 : Int), r8 = .int .i64 x8 ∧
  bif decide ((x8 : Int) < 0) then
    R (.int .i64 (-1)) h_3
  else
    R (.int .i64 x8) h_3
theorem w_laws_szDesign {R : Value → Heap → Prop} {x0_0 : Int} {v0_1 : Value} {x1 : Int} {h : Heap} (hv : F_laws_szDesign R x0_0 v0_1 x1 h) : CallsH P id_laws_szDesign #[.agg #[.int .i64 x0_0, v0_1], .int .i64 x1] h R :=
  callsH_of_vc ctxOk ⟨[], []⟩ Tryz.func5 [.agg #[.int .i64 x0_0, v0_1], .int .i64 x1] h R (by kernel_rfl) (Eq.mpr (by kernel_rfl) hv)
/-- spec.l00In -/
def F_spec_l00In (R : Value → Heap → Prop) (x0 : Int) (x1 : Int) (x2 : Int) (h : Heap) : Prop :=
  bif decide ((x0 : Int) ≥ x1) then
    R (.bool (decide ((x0 : Int) ≤ x2))) h
  else
    R (.bool false) h
theorem w_spec_l00In {R : Value → Heap → Prop} {x0 : Int} {x1 : Int} {x2 : Int} {h : Heap} (hv : F_spec_l00In R x0 x1 x2 h) : CallsH P id_spec_l00In #[.int .i64 x0, .int .i64 x1, .int .i64 x2] h R :=
  callsH_of_vc ctxOk ⟨[], []⟩ Tryz.func76 [.int .i64 x0, .int .i64 x1, .int .i64 x2] h R (by kernel_rfl) (Eq.mpr (by kernel_rfl) hv)
/-- spec.l00Rises -/
def F_spec_l00Rises (R : Value → Heap → Prop) (v0 : Value) (x1 : Int) (x2 : Int) (h : Heap) : Prop :=
  ∃ J : Nat → Int → Heap → Prop, (∃ n_2, J n_2 0 h) ∧ ∀ (n : Nat) (_ : Env) (x7 : Int) (h_2 : Heap), J n x7 h_2 →
  vLen v0 fun n10 =>
  bif decide ((x7 : Int) < (n10 : Int)) then
    vIdx v0 x7 1 fun p16 =>
    ldI .i64 h_2 p16 fun x17 =>
    CallsH P id_spec_l00In #[.int .i64 x17, .int .i64 x1, .int .i64 x2] h_2 fun r20 h_3 => ∃ (b20 : Bool), r20 = .bool b20 ∧
    bif !b20 then
      R (.bool false) h_3
    else
      bif decide ((x7 : Int) > 0) then
        vIdx v0 (IntKind.i64.wrap (x7 - 1)) 1 fun p29 =>
        ldI .i64 h_3 p29 fun x30 =>
        vIdx v0 x7 1 fun p33 =>
        ldI .i64 h_3 p33 fun x34 =>
        bif decide ((x30 : Int) ≥ x34) then
          R (.bool false) h_3
        else
          ∃ m, m < n ∧ J m (IntKind.i64.wrap (x7 + 1)) h_3
      else
        ∃ m, m < n ∧ J m (IntKind.i64.wrap (x7 + 1)) h_3
  else
    R (.bool true) h_2
theorem w_spec_l00Rises {R : Value → Heap → Prop} {v0 : Value} {x1 : Int} {x2 : Int} {h : Heap} (hv : F_spec_l00Rises R v0 x1 x2 h) : CallsH P id_spec_l00Rises #[v0, .int .i64 x1, .int .i64 x2] h R :=
  callsH_of_vc ctxOk ⟨[(2, [(7, .i .i64)])], []⟩ Tryz.func108 [v0, .int .i64 x1, .int .i64 x2] h R (by kernel_rfl) (Eq.mpr (by kernel_rfl) hv)
/-- spec.l10Block -/
def F_spec_l10Block (R : Value → Heap → Prop) (v0 : Value) (x1 : Int) (h : Heap) : Prop :=
  vLen v0 fun n6 =>
  bif decide (((n6 : Int) : Int) > 0) then
    CallsH P id_spec_l00Rises #[v0, .int .i64 0, .int .i64 (IntKind.i64.wrap (x1 - 1))] h fun r12 h_2 => ∃ (b12 : Bool), r12 = .bool b12 ∧
    R (.bool b12) h_2
  else
    R (.bool false) h
theorem w_spec_l10Block {R : Value → Heap → Prop} {v0 : Value} {x1 : Int} {h : Heap} (hv : F_spec_l10Block R v0 x1 h) : CallsH P id_spec_l10Block #[v0, .int .i64 x1] h R :=
  callsH_of_vc ctxOk ⟨[], []⟩ Tryz.func82 [v0, .int .i64 x1] h R (by kernel_rfl) (Eq.mpr (by kernel_rfl) hv)
/-- spec.CompareLists -/
def F_spec_CompareLists (R : Value → Heap → Prop) (v0 : Value) (v1 : Value) (h : Heap) : Prop :=
  ∃ J : Heap → Prop, (
    ∃ J_2 : Nat → Int → Heap → Prop, (∃ n_2, J_2 n_2 0 h) ∧ ∀ (n : Nat) (_ : Env) (x5 : Int) (h_2 : Heap), J_2 n x5 h_2 →
    ∃ J_3 : Heap → Prop, (
      vLen v0 fun n8 =>
      bif decide ((x5 : Int) < (n8 : Int)) then
        vLen v1 fun n13 =>
        bif decide ((x5 : Int) < (n13 : Int)) then
          J_3 h_2
        else
          J h_2
      else
        J h_2
    ) ∧ ∀ (_ : Env) (h_3 : Heap), J_3 h_3 →
    vIdx v0 x5 1 fun p20 =>
    ldI .i64 h_3 p20 fun x21 =>
    vIdx v1 x5 1 fun p24 =>
    ldI .i64 h_3 p24 fun x25 =>
    bif decide ((x21 : Int) < x25) then
      R (.int .i64 (-1)) h_3
    else
      vIdx v0 x5 1 fun p29 =>
      ldI .i64 h_3 p29 fun x30 =>
      vIdx v1 x5 1 fun p33 =>
      ldI .i64 h_3 p33 fun x34 =>
      bif decide ((x30 : Int) > x34) then
        R (.int .i64 1) h_3
      else
        ∃ m, m < n ∧ J_2 m (IntKind.i64.wrap (x5 + 1)) h_3
  ) ∧ ∀ (_ : Env) (h_4 : Heap), J h_4 →
  vLen v0 fun n37 =>
  vLen v1 fun n39 =>
  bif decide (((n37 : Int) : Int) < (n39 : Int)) then
    R (.int .i64 (-1)) h_4
  else
    vLen v0 fun n42 =>
    vLen v1 fun n44 =>
    bif decide (((n42 : Int) : Int) > (n44 : Int)) then
      R (.int .i64 1) h_4
    else
      R (.int .i64 0) h_4
theorem w_spec_CompareLists {R : Value → Heap → Prop} {v0 : Value} {v1 : Value} {h : Heap} (hv : F_spec_CompareLists R v0 v1 h) : CallsH P id_spec_CompareLists #[v0, v1] h R :=
  callsH_of_vc ctxOk ⟨[(2, [(5, .i .i64)])], [(4, []), (8, [])]⟩ Tryz.func96 [v0, v1] h R (by kernel_rfl) (Eq.mpr (by kernel_rfl) hv)
/-- spec.l10Ok -/
def F_spec_l10Ok (R : Value → Heap → Prop) (p0 : Addr) (h : Heap) : Prop :=
  ∃ J : Heap → Prop, (
    ldI .i64 h p0 fun x7 =>
    CallsH P id_spec_l00In #[.int .i64 x7, .int .i64 1, .int .i64 32] h fun r8 h_2 => ∃ (b8 : Bool), r8 = .bool b8 ∧
    bif !b8 then
      R (.bool false) h_2
    else
      ldV h_2 (p0.add 1) fun v14 =>
      vLen v14 fun n15 =>
      bif decide (((n15 : Int) : Int) > 128) then
        R (.bool false) h_2
      else
        J h_2
  ) ∧ ∀ (_ : Env) (h_3 : Heap), J h_3 →
  ∃ J_2 : Nat → Int → Heap → Prop, (∃ n_2, J_2 n_2 0 h_3) ∧ ∀ (n : Nat) (_ : Env) (x3 : Int) (h_4 : Heap), J_2 n x3 h_4 →
  ldV h_4 (p0.add 1) fun v22 =>
  vLen v22 fun n23 =>
  bif decide ((x3 : Int) < (n23 : Int)) then
    ldV h_4 (p0.add 1) fun v30 =>
    vIdx v30 x3 1 fun p32 =>
    ldV h_4 p32 fun v33 =>
    ldI .i64 h_4 p0 fun x37 =>
    CallsH P id_spec_l10Block #[v33, .int .i64 x37] h_4 fun r38 h_5 => ∃ (b38 : Bool), r38 = .bool b38 ∧
    bif !b38 then
      R (.bool false) h_5
    else
      bif decide ((x3 : Int) > 0) then
        ldV h_5 (p0.add 1) fun v47 =>
        vIdx v47 (IntKind.i64.wrap (x3 - 1)) 1 fun p50 =>
        ldV h_5 p50 fun v51 =>
        ldV h_5 (p0.add 1) fun v55 =>
        vIdx v55 x3 1 fun p57 =>
        ldV h_5 p57 fun v58 =>
        CallsH P id_spec_CompareLists #[v51, v58] h_5 fun r59 h_6 => ∃ (x59 : Int), r59 = .int .i64 x59 ∧
        bif decide ((x59 : Int) > 0) then
          R (.bool false) h_6
        else
          ∃ m, m < n ∧ J_2 m (IntKind.i64.wrap (x3 + 1)) h_6
      else
        ∃ m, m < n ∧ J_2 m (IntKind.i64.wrap (x3 + 1)) h_5
  else
    R (.bool true) h_4
theorem w_spec_l10Ok {R : Value → Heap → Prop} {p0 : Addr} {h : Heap} (hv : F_spec_l10Ok R p0 h) : CallsH P id_spec_l10Ok #[.pointer (some p0)] h R :=
  callsH_of_vc ctxOk ⟨[(4, [(3, .i .i64)])], [(3, [])]⟩ Tryz.func67 [.pointer (some p0)] h R (by kernel_rfl) (Eq.mpr (by kernel_rfl) hv)
/-- spec.l00Same -/
def F_spec_l00Same (R : Value → Heap → Prop) (v0 : Value) (v1 : Value) (h : Heap) : Prop :=
  vLen v0 fun n7 =>
  vLen v1 fun n9 =>
  bif ((n7 : Int) : Int) != (n9 : Int) then
    R (.bool false) h
  else
    ∃ J : Nat → Int → Heap → Prop, (∃ n_2, J n_2 0 h) ∧ ∀ (n : Nat) (_ : Env) (x5 : Int) (h_2 : Heap), J n x5 h_2 →
    vLen v0 fun n13 =>
    bif decide ((x5 : Int) < (n13 : Int)) then
      vIdx v0 x5 1 fun p19 =>
      ldI .i64 h_2 p19 fun x20 =>
      vIdx v1 x5 1 fun p23 =>
      ldI .i64 h_2 p23 fun x24 =>
      bif (x20 : Int) != x24 then
        R (.bool false) h_2
      else
        ∃ m, m < n ∧ J m (IntKind.i64.wrap (x5 + 1)) h_2
    else
      R (.bool true) h_2
theorem w_spec_l00Same {R : Value → Heap → Prop} {v0 : Value} {v1 : Value} {h : Heap} (hv : F_spec_l00Same R v0 v1 h) : CallsH P id_spec_l00Same #[v0, v1] h R :=
  callsH_of_vc ctxOk ⟨[(4, [(5, .i .i64)])], []⟩ Tryz.func73 [v0, v1] h R (by kernel_rfl) (Eq.mpr (by kernel_rfl) hv)
/-- spec.l00Has -/
def F_spec_l00Has (R : Value → Heap → Prop) (v0 : Value) (x1 : Int) (h : Heap) : Prop :=
  ∃ J : Nat → Int → Heap → Prop, (∃ n_2, J n_2 0 h) ∧ ∀ (n : Nat) (_ : Env) (x5 : Int) (h_2 : Heap), J n x5 h_2 →
  vLen v0 fun n8 =>
  bif decide ((x5 : Int) < (n8 : Int)) then
    vIdx v0 x5 1 fun p14 =>
    ldI .i64 h_2 p14 fun x15 =>
    bif (x15 : Int) == x1 then
      R (.bool true) h_2
    else
      ∃ m, m < n ∧ J m (IntKind.i64.wrap (x5 + 1)) h_2
  else
    R (.bool false) h_2
theorem w_spec_l00Has {R : Value → Heap → Prop} {v0 : Value} {x1 : Int} {h : Heap} (hv : F_spec_l00Has R v0 x1 h) : CallsH P id_spec_l00Has #[v0, .int .i64 x1] h R :=
  callsH_of_vc ctxOk ⟨[(2, [(5, .i .i64)])], []⟩ Tryz.func101 [v0, .int .i64 x1] h R (by kernel_rfl) (Eq.mpr (by kernel_rfl) hv)
/-- spec.l10Pairs -/
def F_spec_l10Pairs (R : Value → Heap → Prop) (p0 : Addr) (h : Heap) : Prop :=
  vNewS h (.cells #[] t_int64) 0 fun v8 h_2 =>
  ∃ J : Nat → Value → Int → Heap → Prop, (∃ n_2, J n_2 v8 0 h_2) ∧ ∀ (n : Nat) (_ : Env) (v3 : Value) (x4 : Int) (h_3 : Heap), J n v3 x4 h_3 →
  ldI .i64 h_3 p0 fun x13 =>
  bif decide ((x4 : Int) < x13) then
    ∃ J_2 : Nat → Value → Int → Heap → Prop, (∃ n_4, J_2 n_4 v3 (IntKind.i64.wrap (x4 + 1)) h_3) ∧ ∀ (n_3 : Nat) (_ : Env) (v3_2 : Value) (x5 : Int) (h_4 : Heap), J_2 n_3 v3_2 x5 h_4 →
    ldI .i64 h_4 p0 fun x23 =>
    bif decide ((x5 : Int) < x23) then
      ∃ J_3 : Nat → Int → Int → Heap → Prop, (∃ n_6, J_3 n_6 0 0 h_4) ∧ ∀ (n_5 : Nat) (_ : Env) (x6 : Int) (x7 : Int) (h_5 : Heap), J_3 n_5 x6 x7 h_5 →
      ldV h_5 (p0.add 1) fun v31 =>
      vLen v31 fun n32 =>
      bif decide ((x7 : Int) < (n32 : Int)) then
        ldV h_5 (p0.add 1) fun v39 =>
        vIdx v39 x7 1 fun p41 =>
        ldV h_5 p41 fun v42 =>
        CallsH P id_spec_l00Has #[v42, .int .i64 x4] h_5 fun r44 h_6 => ∃ (b44 : Bool), r44 = .bool b44 ∧
        bif b44 then
          ldV h_6 (p0.add 1) fun v49 =>
          vIdx v49 x7 1 fun p51 =>
          ldV h_6 p51 fun v52 =>
          CallsH P id_spec_l00Has #[v52, .int .i64 x5] h_6 fun r54 h_7 => ∃ (b54 : Bool), r54 = .bool b54 ∧
          bif b54 then
            ∃ m_3, m_3 < n_5 ∧ J_3 m_3 (IntKind.i64.wrap (x6 + 1)) (IntKind.i64.wrap (x7 + 1)) h_7
          else
            ∃ m_3, m_3 < n_5 ∧ J_3 m_3 x6 (IntKind.i64.wrap (x7 + 1)) h_7
        else
          ∃ m_3, m_3 < n_5 ∧ J_3 m_3 x6 (IntKind.i64.wrap (x7 + 1)) h_6
      else
        vNewS h_5 (.cells #[.int .i64 x6] t_int64) 1 fun v60 h_8 =>
        vAppend 1 8 [.int .i64 0] t_int64 v3_2 v60 h_8 fun v61 h_9 =>
        ∃ m_2, m_2 < n_3 ∧ J_2 m_2 v61 (IntKind.i64.wrap (x5 + 1)) h_9
    else
      ∃ m, m < n ∧ J m v3_2 (IntKind.i64.wrap (x4 + 1)) h_4
  else
    R v3 h_3
theorem w_spec_l10Pairs {R : Value → Heap → Prop} {p0 : Addr} {h : Heap} (hv : F_spec_l10Pairs R p0 h) : CallsH P id_spec_l10Pairs #[.pointer (some p0)] h R :=
  callsH_of_vc ctxOk ⟨[(3, [(3, .v), (4, .i .i64)]), (6, [(3, .v), (5, .i .i64)]), (10, [(6, .i .i64), (7, .i .i64)])], []⟩ Tryz.func74 [.pointer (some p0)] h R (by kernel_rfl) (Eq.mpr (by kernel_rfl) hv)
/-- spec.l28Packing -/
def F_spec_l28Packing (R : Value → Heap → Prop) (p0 : Addr) (x1 : Int) (x2 : Int) (h : Heap) : Prop :=
  ∃ J : Heap → Prop, (
    CallsH P id_spec_l10Ok #[.pointer (some p0)] h fun r11 h_2 => ∃ (b11 : Bool), r11 = .bool b11 ∧
    bif !b11 then
      R (.bool false) h_2
    else
      bif decide ((x2 : Int) < 1) then
        R (.bool false) h_2
      else
        J h_2
  ) ∧ ∀ (_ : Env) (h_3 : Heap), J h_3 →
  ∃ J_2 : Nat → Int → Heap → Prop, (∃ n_2, J_2 n_2 0 h_3) ∧ ∀ (n : Nat) (_ : Env) (x7 : Int) (h_4 : Heap), J_2 n x7 h_4 →
  ldV h_4 (p0.add 1) fun v21 =>
  vLen v21 fun n22 =>
  bif decide ((x7 : Int) < (n22 : Int)) then
    ldV h_4 (p0.add 1) fun v29 =>
    vIdx v29 x7 1 fun p31 =>
    ldV h_4 p31 fun v32 =>
    vLen v32 fun n33 =>
    bif ((n33 : Int) : Int) != x1 then
      R (.bool false) h_4
    else
      bif decide ((x7 : Int) > 0) then
        ldV h_4 (p0.add 1) fun v43 =>
        vIdx v43 x7 1 fun p45 =>
        ldV h_4 p45 fun v46 =>
        ldV h_4 (p0.add 1) fun v50 =>
        vIdx v50 (IntKind.i64.wrap (x7 - 1)) 1 fun p53 =>
        ldV h_4 p53 fun v54 =>
        CallsH P id_spec_l00Same #[v46, v54] h_4 fun r55 h_5 => ∃ (b55 : Bool), r55 = .bool b55 ∧
        bif b55 then
          R (.bool false) h_5
        else
          ∃ m, m < n ∧ J_2 m (IntKind.i64.wrap (x7 + 1)) h_5
      else
        ∃ m, m < n ∧ J_2 m (IntKind.i64.wrap (x7 + 1)) h_4
  else
    CallsH P id_spec_l10Pairs #[.pointer (some p0)] h_4 fun r59 h_6 => ∃ (v59 : Value), r59 = v59 ∧
    ∃ J_3 : Nat → Int → Heap → Prop, (∃ n_4, J_3 n_4 0 h_6) ∧ ∀ (n_3 : Nat) (_ : Env) (x9 : Int) (h_7 : Heap), J_3 n_3 x9 h_7 →
    vLen v59 fun n62 =>
    bif decide ((x9 : Int) < (n62 : Int)) then
      vIdx v59 x9 1 fun p68 =>
      ldI .i64 h_7 p68 fun x69 =>
      bif decide ((x69 : Int) > x2) then
        R (.bool false) h_7
      else
        ∃ m_2, m_2 < n_3 ∧ J_3 m_2 (IntKind.i64.wrap (x9 + 1)) h_7
    else
      R (.bool true) h_7
theorem w_spec_l28Packing {R : Value → Heap → Prop} {p0 : Addr} {x1 : Int} {x2 : Int} {h : Heap} (hv : F_spec_l28Packing R p0 x1 x2 h) : CallsH P id_spec_l28Packing #[.pointer (some p0), .int .i64 x1, .int .i64 x2] h R :=
  callsH_of_vc ctxOk ⟨[(4, [(7, .i .i64)]), (10, [(9, .i .i64)])], [(3, [])]⟩ Tryz.func42 [.pointer (some p0), .int .i64 x1, .int .i64 x2] h R (by kernel_rfl) (Eq.mpr (by kernel_rfl) hv)
/-- spec.Choose -/
def F_spec_Choose (R : Value → Heap → Prop) (x0 : Int) (x1 : Int) (h : Heap) : Prop :=
  ∃ J : Heap → Prop, (
    CallsH P id_spec_l00In #[.int .i64 x0, .int .i64 0, .int .i64 32] h fun r8 h_2 => ∃ (b8 : Bool), r8 = .bool b8 ∧
    bif !b8 then
      R (.int .i64 0) h_2
    else
      CallsH P id_spec_l00In #[.int .i64 x1, .int .i64 0, .int .i64 x0] h_2 fun r13 h_3 => ∃ (b13 : Bool), r13 = .bool b13 ∧
      bif !b13 then
        R (.int .i64 0) h_3
      else
        J h_3
  ) ∧ ∀ (_ : Env) (h_4 : Heap), J h_4 →
  ∃ J_2 : Nat → Int → Int → Heap → Prop, (∃ n_2, J_2 n_2 1 1 h_4) ∧ ∀ (n : Nat) (_ : Env) (x5 : Int) (x6 : Int) (h_5 : Heap), J_2 n x5 x6 h_5 →
  bif decide ((x6 : Int) ≤ x1) then
    (x6 : Int) ≠ 0 ∧
    ∃ m, m < n ∧ J_2 m (IntKind.i64.wrap (Int.tdiv (IntKind.i64.wrap (x5 * (IntKind.i64.wrap ((IntKind.i64.wrap (x0 - x1)) + x6)))) x6)) (IntKind.i64.wrap (x6 + 1)) h_5
  else
    R (.int .i64 x5) h_5
theorem w_spec_Choose {R : Value → Heap → Prop} {x0 : Int} {x1 : Int} {h : Heap} (hv : F_spec_Choose R x0 x1 h) : CallsH P id_spec_Choose #[.int .i64 x0, .int .i64 x1] h R :=
  callsH_of_vc ctxOk ⟨[(5, [(5, .i .i64), (6, .i .i64)])], [(3, [])]⟩ Tryz.func104 [.int .i64 x0, .int .i64 x1] h R (by kernel_rfl) (Eq.mpr (by kernel_rfl) hv)
/-- spec.l28Ask -/
def F_spec_l28Ask (R : Value → Heap → Prop) (x0 : Int) (x1 : Int) (x2 : Int) (h : Heap) : Prop :=
  ∃ J : Heap → Prop, (
    CallsH P id_spec_l00In #[.int .i64 x0, .int .i64 2, .int .i64 32] h fun r8 h_2 => ∃ (b8 : Bool), r8 = .bool b8 ∧
    bif !b8 then
      R (.int .i64 2) h_2
    else
      CallsH P id_spec_l00In #[.int .i64 x1, .int .i64 2, .int .i64 x0] h_2 fun r13 h_3 => ∃ (b13 : Bool), r13 = .bool b13 ∧
      bif !b13 then
        R (.int .i64 2) h_3
      else
        CallsH P id_spec_l00In #[.int .i64 x2, .int .i64 1, .int .i64 128] h_3 fun r18 h_4 => ∃ (b18 : Bool), r18 = .bool b18 ∧
        bif !b18 then
          R (.int .i64 2) h_4
        else
          J h_4
  ) ∧ ∀ (_ : Env) (h_5 : Heap), J h_5 →
  CallsH P id_spec_Choose #[.int .i64 x0, .int .i64 x1] h_5 fun r23 h_6 => ∃ (x23 : Int), r23 = .int .i64 x23 ∧
  bif decide ((x23 : Int) > 1500) then
    R (.int .i64 5) h_6
  else
    R (.int .i64 0) h_6
theorem w_spec_l28Ask {R : Value → Heap → Prop} {x0 : Int} {x1 : Int} {x2 : Int} {h : Heap} (hv : F_spec_l28Ask R x0 x1 x2 h) : CallsH P id_spec_l28Ask #[.int .i64 x0, .int .i64 x1, .int .i64 x2] h R :=
  callsH_of_vc ctxOk ⟨[], [(3, [])]⟩ Tryz.func77 [.int .i64 x0, .int .i64 x1, .int .i64 x2] h R (by kernel_rfl) (Eq.mpr (by kernel_rfl) hv)
/-- spec.l00Own -/
def F_spec_l00Own (R : Value → Heap → Prop) (v0 : Value) (h : Heap) : Prop :=
  vNewS h (.cells #[] t_int64) 0 fun v3 h_2 =>
  vAppend 1 8 [.int .i64 0] t_int64 v3 v0 h_2 fun v5 h_3 =>
  R v5 h_3
theorem w_spec_l00Own {R : Value → Heap → Prop} {v0 : Value} {h : Heap} (hv : F_spec_l00Own R v0 h) : CallsH P id_spec_l00Own #[v0] h R :=
  callsH_of_vc ctxOk ⟨[], []⟩ Tryz.func105 [v0] h R (by kernel_rfl) (Eq.mpr (by kernel_rfl) hv)
/-- spec.l28All -/
def F_spec_l28All (R : Value → Heap → Prop) (x0 : Int) (x1 : Int) (h : Heap) : Prop :=
  vNewS h (.cells #[] t_int64) 0 fun v10 h_2 =>
  ∃ J : Nat → Value → Int → Heap → Prop, (∃ n_2, J n_2 v10 0 h_2) ∧ ∀ (n : Nat) (_ : Env) (v5 : Value) (x6 : Int) (h_3 : Heap), J n v5 x6 h_3 →
  bif decide ((x6 : Int) < x1) then
    vNewS h_3 (.cells #[.int .i64 x6] t_int64) 1 fun v18 h_4 =>
    vAppend 1 8 [.int .i64 0] t_int64 v5 v18 h_4 fun v19 h_5 =>
    ∃ m, m < n ∧ J m v19 (IntKind.i64.wrap (x6 + 1)) h_5
  else
    vNewS h_3 (.cells #[] t_S_int64) 0 fun v20 h_6 =>
    ∃ J_2 : Nat → Value → Heap → Prop, (∃ n_4, J_2 n_4 v20 h_6) ∧ ∀ (n_3 : Nat) (_ : Env) (v7 : Value) (h_7 : Heap), J_2 n_3 v7 h_7 →
    CallsH P id_spec_l00Own #[v5] h_7 fun r23 h_8 => ∃ (v23 : Value), r23 = v23 ∧
    vOne v23 fun _ =>
    vNewS h_8 (.cells #[v23] t_S_int64) 1 fun v24 h_9 =>
    vAppend 1 24 [.slice none 0 0] t_S_int64 v7 v24 h_9 fun v25 h_10 =>
    ∃ J_3 : Int → Heap → Prop, (
      ∃ J_4 : Nat → Int → Heap → Prop, (∃ n_6, J_4 n_6 (IntKind.i64.wrap (x1 - 1)) h_10) ∧ ∀ (n_5 : Nat) (_ : Env) (x8 : Int) (h_11 : Heap), J_4 n_5 x8 h_11 →
      bif decide ((x8 : Int) ≥ 0) then
        vIdx v5 x8 1 fun p33 =>
        ldI .i64 h_11 p33 fun x34 =>
        bif (x34 : Int) == (IntKind.i64.wrap ((IntKind.i64.wrap (x0 - x1)) + x8)) then
          ∃ m_3, m_3 < n_5 ∧ J_4 m_3 (IntKind.i64.wrap (x8 - 1)) h_11
        else
          J_3 x8 h_11
      else
        J_3 x8 h_11
    ) ∧ ∀ (_ : Env) (x8_2 : Int) (h_12 : Heap), J_3 x8_2 h_12 →
    bif decide ((x8_2 : Int) < 0) then
      R v25 h_12
    else
      vIdx v5 x8_2 1 fun p49 =>
      ldI .i64 h_12 p49 fun x50 =>
      vIdx v5 x8_2 1 fun p52 =>
      vStore1 h_12 p52 (.int .i64 (IntKind.i64.wrap (x50 + 1))) fun h_13 =>
      ∃ J_5 : Nat → Int → Heap → Prop, (∃ n_8, J_5 n_8 (IntKind.i64.wrap (x8_2 + 1)) h_13) ∧ ∀ (n_7 : Nat) (_ : Env) (x9 : Int) (h_14 : Heap), J_5 n_7 x9 h_14 →
      bif decide ((x9 : Int) < x1) then
        vIdx v5 (IntKind.i64.wrap (x9 - 1)) 1 fun p65 =>
        ldI .i64 h_14 p65 fun x66 =>
        vIdx v5 x9 1 fun p68 =>
        vStore1 h_14 p68 (.int .i64 (IntKind.i64.wrap (x66 + 1))) fun h_15 =>
        ∃ m_4, m_4 < n_7 ∧ J_5 m_4 (IntKind.i64.wrap (x9 + 1)) h_15
      else
        ∃ m_2, m_2 < n_3 ∧ J_2 m_2 v25 h_14
theorem w_spec_l28All {R : Value → Heap → Prop} {x0 : Int} {x1 : Int} {h : Heap} (hv : F_spec_l28All R x0 x1 h) : CallsH P id_spec_l28All #[.int .i64 x0, .int .i64 x1] h R :=
  callsH_of_vc ctxOk ⟨[(3, [(5, .v), (6, .i .i64)]), (7, [(7, .v)]), (9, [(8, .i .i64)]), (15, [(9, .i .i64)])], [(11, [(8, .i .i64)])]⟩ Tryz.func78 [.int .i64 x0, .int .i64 x1] h R (by kernel_rfl) (Eq.mpr (by kernel_rfl) hv)
/-- spec.l05Find -/
def F_spec_l05Find (R : Value → Heap → Prop) (v0 : Value) (v1 : Value) (h : Heap) : Prop :=
  vLen v0 fun n11 =>
  ∃ J : Nat → Int → Int → Heap → Prop, (∃ n_2, J n_2 0 (n11 : Int) h) ∧ ∀ (n : Nat) (_ : Env) (x6 : Int) (x7 : Int) (h_2 : Heap), J n x6 x7 h_2 →
  bif decide ((x6 : Int) < x7) then
    (2 : Int) ≠ 0 ∧
    vIdx v0 (IntKind.i64.wrap (Int.tdiv (IntKind.i64.wrap (x6 + x7)) 2)) 1 fun p21 =>
    ldV h_2 p21 fun v22 =>
    CallsH P id_spec_CompareLists #[v22, v1] h_2 fun r24 h_3 => ∃ (x24 : Int), r24 = .int .i64 x24 ∧
    bif (x24 : Int) == 0 then
      R (.tuple #[.int .i64 (IntKind.i64.wrap (Int.tdiv (IntKind.i64.wrap (x6 + x7)) 2)), .bool true]) h_3
    else
      bif decide ((x24 : Int) < 0) then
        ∃ m, m < n ∧ J m (IntKind.i64.wrap ((IntKind.i64.wrap (Int.tdiv (IntKind.i64.wrap (x6 + x7)) 2)) + 1)) x7 h_3
      else
        ∃ m, m < n ∧ J m x6 (IntKind.i64.wrap (Int.tdiv (IntKind.i64.wrap (x6 + x7)) 2)) h_3
  else
    R (.tuple #[.int .i64 x6, .bool false]) h_2
theorem w_spec_l05Find {R : Value → Heap → Prop} {v0 : Value} {v1 : Value} {h : Heap} (hv : F_spec_l05Find R v0 v1 h) : CallsH P id_spec_l05Find #[v0, v1] h R :=
  callsH_of_vc ctxOk ⟨[(3, [(6, .i .i64), (7, .i .i64)])], []⟩ Tryz.func79 [v0, v1] h R (by kernel_rfl) (Eq.mpr (by kernel_rfl) hv)
/-- spec.l24Pair -/
def F_spec_l24Pair (R : Value → Heap → Prop) (x0 : Int) (x1 : Int) (x2 : Int) (h : Heap) : Prop :=
  (2 : Int) ≠ 0 ∧
  R (.int .i64 (IntKind.i64.wrap ((IntKind.i64.wrap ((IntKind.i64.wrap ((IntKind.i64.wrap (Int.tdiv (IntKind.i64.wrap (x1 * (IntKind.i64.wrap ((IntKind.i64.wrap ((IntKind.i64.wrap (2 * x0)) - x1)) - 1)))) 2)) + x2)) - x1)) - 1))) h
theorem w_spec_l24Pair {R : Value → Heap → Prop} {x0 : Int} {x1 : Int} {x2 : Int} {h : Heap} (hv : F_spec_l24Pair R x0 x1 x2 h) : CallsH P id_spec_l24Pair #[.int .i64 x0, .int .i64 x1, .int .i64 x2] h R :=
  callsH_of_vc ctxOk ⟨[], []⟩ Tryz.func106 [.int .i64 x0, .int .i64 x1, .int .i64 x2] h R (by kernel_rfl) (Eq.mpr (by kernel_rfl) hv)
/-- (*spec.l28Search).add -/
def F_spec_l28Search_add (R : Value → Heap → Prop) (p0 : Addr) (x1 : Int) (x2 : Int) (h : Heap) : Prop :=
  ldV h (p0.add 2) fun v12 =>
  vIdx v12 x1 1 fun p14 =>
  ldV h p14 fun v15 =>
  ldV h (p0.add 3) fun v19 =>
  vIdx v19 x1 1 fun p23 =>
  vStore1 h p23 (.bool (decide ((x2 : Int) > 0))) fun h_2 =>
  ∃ J : Nat → Int → Heap → Prop, (∃ n_2, J n_2 0 h_2) ∧ ∀ (n : Nat) (_ : Env) (x7 : Int) (h_3 : Heap), J n x7 h_3 →
  vLen v15 fun n26 =>
  bif decide ((x7 : Int) < (n26 : Int)) then
    ∃ J_2 : Nat → Int → Heap → Prop, (∃ n_4, J_2 n_4 (IntKind.i64.wrap (x7 + 1)) h_3) ∧ ∀ (n_3 : Nat) (_ : Env) (x8 : Int) (h_4 : Heap), J_2 n_3 x8 h_4 →
    vLen v15 fun n34 =>
    bif decide ((x8 : Int) < (n34 : Int)) then
      ldI .i64 h_4 p0 fun x45 =>
      vIdx v15 x7 1 fun p48 =>
      ldI .i64 h_4 p48 fun x49 =>
      vIdx v15 x8 1 fun p52 =>
      ldI .i64 h_4 p52 fun x53 =>
      CallsH P id_spec_l24Pair #[.int .i64 x45, .int .i64 x49, .int .i64 x53] h_4 fun r54 h_5 => ∃ (x54 : Int), r54 = .int .i64 x54 ∧
      ExtH h_4 h_5 ∧
      ldV h_4 (p0.add 4) fun v41 =>
      vIdx v41 x54 1 fun p55 =>
      ldI .i64 h_5 p55 fun x56 =>
      vIdx v41 x54 1 fun p59 =>
      vStore1 h_5 p59 (.int .i64 (IntKind.i64.wrap (x56 + x2))) fun h_6 =>
      ∃ m_2, m_2 < n_3 ∧ J_2 m_2 (IntKind.i64.wrap (x8 + 1)) h_6
    else
      ∃ m, m < n ∧ J m (IntKind.i64.wrap (x7 + 1)) h_4
  else
    R (.tuple #[]) h_3
theorem w_spec_l28Search_add {R : Value → Heap → Prop} {p0 : Addr} {x1 : Int} {x2 : Int} {h : Heap} (hv : F_spec_l28Search_add R p0 x1 x2 h) : CallsH P id_spec_l28Search_add #[.pointer (some p0), .int .i64 x1, .int .i64 x2] h R :=
  callsH_of_vc ctxOk ⟨[(3, [(7, .i .i64)]), (6, [(8, .i .i64)])], []⟩ Tryz.func80 [.pointer (some p0), .int .i64 x1, .int .i64 x2] h R (by kernel_rfl) (Eq.mpr (by kernel_rfl) hv)
/-- (*spec.l28Search).fits -/
def F_spec_l28Search_fits (R : Value → Heap → Prop) (p0 : Addr) (x1 : Int) (h : Heap) : Prop :=
  ldV h (p0.add 2) fun v11 =>
  vIdx v11 x1 1 fun p13 =>
  ldV h p13 fun v14 =>
  ∃ J : Nat → Int → Heap → Prop, (∃ n_2, J n_2 0 h) ∧ ∀ (n : Nat) (_ : Env) (x6 : Int) (h_2 : Heap), J n x6 h_2 →
  vLen v14 fun n17 =>
  bif decide ((x6 : Int) < (n17 : Int)) then
    ∃ J_2 : Nat → Int → Heap → Prop, (∃ n_4, J_2 n_4 (IntKind.i64.wrap (x6 + 1)) h_2) ∧ ∀ (n_3 : Nat) (_ : Env) (x7 : Int) (h_3 : Heap), J_2 n_3 x7 h_3 →
    vLen v14 fun n25 =>
    bif decide ((x7 : Int) < (n25 : Int)) then
      ldI .i64 h_3 p0 fun x36 =>
      vIdx v14 x6 1 fun p39 =>
      ldI .i64 h_3 p39 fun x40 =>
      vIdx v14 x7 1 fun p43 =>
      ldI .i64 h_3 p43 fun x44 =>
      CallsH P id_spec_l24Pair #[.int .i64 x36, .int .i64 x40, .int .i64 x44] h_3 fun r45 h_4 => ∃ (x45 : Int), r45 = .int .i64 x45 ∧
      ExtH h_3 h_4 ∧
      ldV h_3 (p0.add 4) fun v32 =>
      vIdx v32 x45 1 fun p46 =>
      ldI .i64 h_4 p46 fun x47 =>
      ldI .i64 h_3 (p0.add 1) fun x51 =>
      bif decide ((x47 : Int) ≥ x51) then
        R (.bool false) h_4
      else
        ∃ m_2, m_2 < n_3 ∧ J_2 m_2 (IntKind.i64.wrap (x7 + 1)) h_4
    else
      ∃ m, m < n ∧ J m (IntKind.i64.wrap (x6 + 1)) h_3
  else
    ldV h_2 (p0.add 3) fun v56 =>
    vIdx v56 x1 1 fun p58 =>
    ldB h_2 p58 fun b59 =>
    R (.bool (!b59)) h_2
theorem w_spec_l28Search_fits {R : Value → Heap → Prop} {p0 : Addr} {x1 : Int} {h : Heap} (hv : F_spec_l28Search_fits R p0 x1 h) : CallsH P id_spec_l28Search_fits #[.pointer (some p0), .int .i64 x1] h R :=
  callsH_of_vc ctxOk ⟨[(3, [(6, .i .i64)]), (6, [(7, .i .i64)])], []⟩ Tryz.func107 [.pointer (some p0), .int .i64 x1] h R (by kernel_rfl) (Eq.mpr (by kernel_rfl) hv)
/-- (*spec.l28Search).visit -/
def F_spec_l28Search_visit (R : Value → Heap → Prop) (p0 : Addr) (x1 : Int) (x2 : Int) (h : Heap) : Prop :=
  ldI .i64 h (p0.add 6) fun x15 =>
  vStore1 h (p0.add 6) (.int .i64 (IntKind.i64.wrap (x15 + 1))) fun h_2 =>
  ldI .i64 h_2 (p0.add 6) fun x22 =>
  ldI .i64 h_2 (p0.add 7) fun x26 =>
  bif decide ((x22 : Int) > x26) then
    R (.bool false) h_2
  else
    ∃ J : Nat → Int → Heap → Prop, (∃ n_2, J n_2 0 h_2) ∧ ∀ (n : Nat) (_ : Env) (x7 : Int) (h_3 : Heap), J n x7 h_3 →
    ldI .i64 h_3 p0 fun x32 =>
    bif decide ((x7 : Int) < x32) then
      ∃ J_2 : Nat → Int → Heap → Prop, (∃ n_4, J_2 n_4 (IntKind.i64.wrap (x7 + 1)) h_3) ∧ ∀ (n_3 : Nat) (_ : Env) (x8 : Int) (h_4 : Heap), J_2 n_3 x8 h_4 →
      ldI .i64 h_4 p0 fun x42 =>
      bif decide ((x8 : Int) < x42) then
        ldI .i64 h_4 p0 fun x49 =>
        CallsH P id_spec_l24Pair #[.int .i64 x49, .int .i64 x7, .int .i64 x8] h_4 fun r52 h_5 => ∃ (x52 : Int), r52 = .int .i64 x52 ∧
        ldV h_5 (p0.add 4) fun v56 =>
        vIdx v56 x52 1 fun p58 =>
        ldI .i64 h_5 p58 fun x59 =>
        ldI .i64 h_5 (p0.add 1) fun x63 =>
        bif decide ((x59 : Int) ≥ x63) then
          ∃ m_2, m_2 < n_3 ∧ J_2 m_2 (IntKind.i64.wrap (x8 + 1)) h_5
        else
          ∃ J_3 : Int → Heap → Prop, (
            bif (x52 : Int) == x1 then
              J_3 x2 h_5
            else
              J_3 0 h_5
          ) ∧ ∀ (_ : Env) (x10 : Int) (h_6 : Heap), J_3 x10 h_6 →
          ∃ J_4 : Nat → Int → Heap → Prop, (∃ n_6, J_4 n_6 x10 h_6) ∧ ∀ (n_5 : Nat) (_ : Env) (x10_2 : Int) (h_7 : Heap), J_4 n_5 x10_2 h_7 →
          ldV h_7 (p0.add 2) fun v73 =>
          vLen v73 fun n74 =>
          bif decide ((x10_2 : Int) < (n74 : Int)) then
            ∃ J_5 : Heap → Prop, (
              ldV h_7 (p0.add 2) fun v81 =>
              vIdx v81 x10_2 1 fun p83 =>
              ldV h_7 p83 fun v84 =>
              CallsH P id_spec_l00Has #[v84, .int .i64 x7] h_7 fun r86 h_8 => ∃ (b86 : Bool), r86 = .bool b86 ∧
              bif !b86 then
                ∃ m_3, m_3 < n_5 ∧ J_4 m_3 (IntKind.i64.wrap (x10_2 + 1)) h_8
              else
                ldV h_8 (p0.add 2) fun v92 =>
                vIdx v92 x10_2 1 fun p94 =>
                ldV h_8 p94 fun v95 =>
                CallsH P id_spec_l00Has #[v95, .int .i64 x8] h_8 fun r97 h_9 => ∃ (b97 : Bool), r97 = .bool b97 ∧
                bif !b97 then
                  ∃ m_3, m_3 < n_5 ∧ J_4 m_3 (IntKind.i64.wrap (x10_2 + 1)) h_9
                else
                  CallsH P id_spec_l28Search_fits #[.pointer (some p0), .int .i64 x10_2] h_9 fun r103 h_10 => ∃ (b103 : Bool), r103 = .bool b103 ∧
                  bif !b103 then
                    ∃ m_3, m_3 < n_5 ∧ J_4 m_3 (IntKind.i64.wrap (x10_2 + 1)) h_10
                  else
                    J_5 h_10
            ) ∧ ∀ (_ : Env) (h_11 : Heap), J_5 h_11 →
            CallsH P id_spec_l28Search_add #[.pointer (some p0), .int .i64 x10_2, .int .i64 1] h_11 fun r108 h_12 => r108 = .tuple #[] ∧
            ldV h_12 (p0.add 5) fun v113 =>
            vNewS h_12 (.cells #[.int .i64 x10_2] t_int) 1 fun v115 h_13 =>
            vAppend 1 8 [.int .i64 0] t_int v113 v115 h_13 fun v116 h_14 =>
            vStore1 h_14 (p0.add 5) v116 fun h_15 =>
            CallsH P id_spec_l28Search_visit #[.pointer (some p0), .int .i64 x52, .int .i64 (IntKind.i64.wrap (x10_2 + 1))] h_15 fun r123 h_16 => ∃ (b123 : Bool), r123 = .bool b123 ∧
            ldV h_16 (p0.add 5) fun v128 =>
            ldV h_16 (p0.add 5) fun v132 =>
            vLen v132 fun n133 =>
            vSliceS v128 1 none (some (.int .i64 (IntKind.i64.wrap ((n133 : Int) - 1)))) none fun v135 =>
            vStore1 h_16 (p0.add 5) v135 fun h_17 =>
            CallsH P id_spec_l28Search_add #[.pointer (some p0), .int .i64 x10_2, .int .i64 (-1)] h_17 fun r140 h_18 => r140 = .tuple #[] ∧
            bif !b123 then
              R (.bool false) h_18
            else
              ∃ m_3, m_3 < n_5 ∧ J_4 m_3 (IntKind.i64.wrap (x10_2 + 1)) h_18
          else
            R (.bool true) h_7
      else
        ∃ m, m < n ∧ J m (IntKind.i64.wrap (x7 + 1)) h_4
    else
      ldI .i64 h_3 (p0.add 8) fun x146 =>
      vStore1 h_3 (p0.add 8) (.int .i64 (IntKind.i64.wrap (x146 + 1))) fun h_19 =>
      vNewS h_19 (.cells #[] t_int) 0 fun v151 h_20 =>
      ldV h_20 (p0.add 5) fun v155 =>
      vAppend 1 8 [.int .i64 0] t_int v151 v155 h_20 fun v156 h_21 =>
      vStore1 h_21 (p0.add 10) v156 fun h_22 =>
      ldB h_22 (p0.add 9) fun b162 =>
      R (.bool (!b162)) h_22
theorem w_spec_l28Search_visit {R : Value → Heap → Prop} {p0 : Addr} {x1 : Int} {x2 : Int} {h : Heap} (hv : F_spec_l28Search_visit R p0 x1 x2 h) : CallsH P id_spec_l28Search_visit #[.pointer (some p0), .int .i64 x1, .int .i64 x2] h R :=
  callsH_of_vc ctxOk ⟨[(5, [(7, .i .i64)]), (8, [(8, .i .i64)]), (15, [(10, .i .i64)])], [(15, [(10, .i .i64)]), (18, [])]⟩ Tryz.func81 [.pointer (some p0), .int .i64 x1, .int .i64 x2] h R (by kernel_rfl) (Eq.mpr (by kernel_rfl) hv)
/-- spec.l28Run -/
def F_spec_l28Run (R : Value → Heap → Prop) (p0 : Addr) (x1 : Int) (x2 : Int) (x3 : Int) (b4 : Bool) (h : Heap) : Prop :=
  ldI .i64 h p0 fun x20 =>
  vNew h (.cells #[.int .i64 x20, .int .i64 x2, (.slice none 0 0), (.slice none 0 0), (.slice none 0 0), (.slice none 0 0), .int .i64 0, .int .i64 x3, .int .i64 0, .bool b4, (.slice none 0 0)] t_spec_l28Search) fun p25 h_2 =>
  CallsH P id_spec_l10Ok #[.pointer (some p0)] h_2 fun r27 h_3 => ∃ (b27 : Bool), r27 = .bool b27 ∧
  bif !b27 then
    R (.tuple #[.pointer (some p25), .int .i64 1]) h_3
  else
    CallsH P id_spec_l00In #[.int .i64 x3, .int .i64 1, .int .i64 20000] h_3 fun r31 h_4 => ∃ (b31 : Bool), r31 = .bool b31 ∧
    bif !b31 then
      R (.tuple #[.pointer (some p25), .int .i64 2]) h_4
    else
      ldI .i64 h_4 p0 fun x37 =>
      CallsH P id_spec_l28Ask #[.int .i64 x37, .int .i64 x1, .int .i64 x2] h_4 fun r40 h_5 => ∃ (x40 : Int), r40 = .int .i64 x40 ∧
      bif (x40 : Int) != 0 then
        R (.tuple #[.pointer (some p25), .int .i64 x40]) h_5
      else
        CallsH P id_spec_l28Packing #[.pointer (some p0), .int .i64 x1, .int .i64 x2] h_5 fun r48 h_6 => ∃ (b48 : Bool), r48 = .bool b48 ∧
        bif !b48 then
          R (.tuple #[.pointer (some p25), .int .i64 6]) h_6
        else
          ldI .i64 h_6 p0 fun x55 =>
          CallsH P id_spec_l28All #[.int .i64 x55, .int .i64 x1] h_6 fun r57 h_7 => ∃ (v57 : Value), r57 = v57 ∧
          vStore1 h_7 (p25.add 2) v57 fun h_8 =>
          ldV h_8 (p25.add 2) fun v64 =>
          vLen v64 fun n65 =>
          vMake 1 [.bool false] t_bool (n65 : Int) (n65 : Int) h_8 fun v66 h_9 =>
          vStore1 h_9 (p25.add 3) v66 fun h_10 =>
          ldI .i64 h_10 p0 fun x73 =>
          ldI .i64 h_10 p0 fun x77 =>
          (2 : Int) ≠ 0 ∧
          vMake 8 [.int .i64 0] t_int64 (IntKind.i64.wrap (Int.tdiv (IntKind.i64.wrap (x73 * (IntKind.i64.wrap (x77 - 1)))) 2)) (IntKind.i64.wrap (Int.tdiv (IntKind.i64.wrap (x73 * (IntKind.i64.wrap (x77 - 1)))) 2)) h_10 fun v81 h_11 =>
          vStore1 h_11 (p25.add 4) v81 fun h_12 =>
          ∃ J : Nat → Int → Heap → Prop, (∃ n_2, J n_2 0 h_12) ∧ ∀ (n : Nat) (_ : Env) (x14 : Int) (h_13 : Heap), J n x14 h_13 →
          ldV h_13 (p0.add 1) fun v88 =>
          vLen v88 fun n89 =>
          bif decide ((x14 : Int) < (n89 : Int)) then
            ldV h_13 (p25.add 2) fun v97 =>
            ldV h_13 (p0.add 1) fun v101 =>
            vIdx v101 x14 1 fun p103 =>
            ldV h_13 p103 fun v104 =>
            CallsH P id_spec_l05Find #[v97, v104] h_13 fun r105 h_14 => ∃ (x105_0 : Int), ∃ (b105_1 : Bool), r105 = .tuple #[.int .i64 x105_0, .bool b105_1] ∧
            CallsH P id_spec_l28Search_add #[.pointer (some p25), .int .i64 x105_0, .int .i64 1] h_14 fun r110 h_15 => r110 = .tuple #[] ∧
            ∃ m, m < n ∧ J m (IntKind.i64.wrap (x14 + 1)) h_15
          else
            CallsH P id_spec_l28Search_visit #[.pointer (some p25), .int .i64 (-1), .int .i64 0] h_13 fun r112 h_16 => ∃ (b112 : Bool), r112 = .bool b112 ∧
            ldI .i64 h_16 (p25.add 6) fun x116 =>
            bif decide ((x116 : Int) > x3) then
              R (.tuple #[.pointer (some p25), .int .i64 5]) h_16
            else
              R (.tuple #[.pointer (some p25), .int .i64 0]) h_16
theorem w_spec_l28Run {R : Value → Heap → Prop} {p0 : Addr} {x1 : Int} {x2 : Int} {x3 : Int} {b4 : Bool} {h : Heap} (hv : F_spec_l28Run R p0 x1 x2 x3 b4 h) : CallsH P id_spec_l28Run #[.pointer (some p0), .int .i64 x1, .int .i64 x2, .int .i64 x3, .bool b4] h R :=
  callsH_of_vc ctxOk ⟨[(15, [(14, .i .i64)])], []⟩ Tryz.func49 [.pointer (some p0), .int .i64 x1, .int .i64 x2, .int .i64 x3, .bool b4] h R (by kernel_rfl) (Eq.mpr (by kernel_rfl) hv)
/-- spec.l10Sort -/
def F_spec_l10Sort (R : Value → Heap → Prop) (v0 : Value) (h : Heap) : Prop :=
  vNewS h (.cells #[] t_S_int64) 0 fun v7 h_2 =>
  ∃ J : Nat → Value → Int → Heap → Prop, (∃ n_2, J n_2 v7 0 h_2) ∧ ∀ (n : Nat) (_ : Env) (v3 : Value) (x4 : Int) (h_3 : Heap), J n v3 x4 h_3 →
  vLen v0 fun n10 =>
  bif decide ((x4 : Int) < (n10 : Int)) then
    vLen v3 fun n15 =>
    ∃ J_2 : Int → Heap → Prop, (
      ∃ J_3 : Nat → Int → Heap → Prop, (∃ n_4, J_3 n_4 (n15 : Int) h_3) ∧ ∀ (n_3 : Nat) (_ : Env) (x5 : Int) (h_4 : Heap), J_3 n_3 x5 h_4 →
      bif decide ((x5 : Int) > 0) then
        vIdx v3 (IntKind.i64.wrap (x5 - 1)) 1 fun p22 =>
        ldV h_4 p22 fun v23 =>
        vIdx v0 x4 1 fun p26 =>
        ldV h_4 p26 fun v27 =>
        CallsH P id_spec_CompareLists #[v23, v27] h_4 fun r28 h_5 => ∃ (x28 : Int), r28 = .int .i64 x28 ∧
        bif decide ((x28 : Int) > 0) then
          ∃ m_2, m_2 < n_3 ∧ J_3 m_2 (IntKind.i64.wrap (x5 - 1)) h_5
        else
          J_2 x5 h_5
      else
        J_2 x5 h_4
    ) ∧ ∀ (_ : Env) (x5_2 : Int) (h_6 : Heap), J_2 x5_2 h_6 →
    vNewS h_6 (.cells #[] t_S_int64) 0 fun v33 h_7 =>
    vSliceS v3 1 none (some (.int .i64 x5_2)) none fun v36 =>
    vAppend 1 24 [.slice none 0 0] t_S_int64 v33 v36 h_7 fun v37 h_8 =>
    vIdx v0 x4 1 fun p41 =>
    ldV h_8 p41 fun v42 =>
    CallsH P id_spec_l00Own #[v42] h_8 fun r43 h_9 => ∃ (v43 : Value), r43 = v43 ∧
    vOne v43 fun _ =>
    vNewS h_9 (.cells #[v43] t_S_int64) 1 fun v44 h_10 =>
    vAppend 1 24 [.slice none 0 0] t_S_int64 v37 v44 h_10 fun v45 h_11 =>
    vSliceS v3 1 (some (.int .i64 x5_2)) none none fun v49 =>
    vAppend 1 24 [.slice none 0 0] t_S_int64 v45 v49 h_11 fun v50 h_12 =>
    ∃ m, m < n ∧ J m v50 (IntKind.i64.wrap (x4 + 1)) h_12
  else
    R v3 h_3
theorem w_spec_l10Sort {R : Value → Heap → Prop} {v0 : Value} {h : Heap} (hv : F_spec_l10Sort R v0 h) : CallsH P id_spec_l10Sort #[v0] h R :=
  callsH_of_vc ctxOk ⟨[(3, [(3, .v), (4, .i .i64)]), (6, [(5, .i .i64)])], [(8, [(5, .i .i64)])]⟩ Tryz.func83 [v0] h R (by kernel_rfl) (Eq.mpr (by kernel_rfl) hv)
/-- spec.l10Make -/
def F_spec_l10Make (R : Value → Heap → Prop) (x0 : Int) (v1 : Value) (h : Heap) : Prop :=
  vNew h (.cells #[.int .i64 0, .slice none 0 0] t_impl_Design) fun p4 h_2 =>
  ∃ J : Nat → Int → Heap → Prop, (∃ n_2, J n_2 0 h_2) ∧ ∀ (n : Nat) (_ : Env) (x6 : Int) (h_3 : Heap), J n x6 h_3 →
  vLen v1 fun n9 =>
  bif decide ((x6 : Int) < (n9 : Int)) then
    vIdx v1 x6 1 fun p15 =>
    ldV h_3 p15 fun v16 =>
    CallsH P id_spec_l10Block #[v16, .int .i64 x0] h_3 fun r18 h_4 => ∃ (b18 : Bool), r18 = .bool b18 ∧
    bif !b18 then
      vStore1 h_4 p4 (.int .i64 0) fun h_5 =>
      vStore1 h_5 (p4.add 1) (.slice none 0 0) fun h_6 =>
      ldI .i64 h_6 p4 fun xres0_0 =>
      ldV h_6 (p4.add 1) fun vres0_1 =>
      R (.tuple #[.agg #[.int .i64 xres0_0, vres0_1], .int .i64 1]) h_6
    else
      ∃ m, m < n ∧ J m (IntKind.i64.wrap (x6 + 1)) h_4
  else
    vLen v1 fun n22 =>
    bif decide (((n22 : Int) : Int) > 128) then
      vStore1 h_3 p4 (.int .i64 0) fun h_7 =>
      vStore1 h_7 (p4.add 1) (.slice none 0 0) fun h_8 =>
      ldI .i64 h_8 p4 fun xres0_0_2 =>
      ldV h_8 (p4.add 1) fun vres0_1_2 =>
      R (.tuple #[.agg #[.int .i64 xres0_0_2, vres0_1_2], .int .i64 5]) h_8
    else
      CallsH P id_spec_l10Sort #[v1] h_3 fun r27 h_9 => ∃ (v27 : Value), r27 = v27 ∧
      vOne v27 fun _ =>
      vStore1 h_9 p4 (.int .i64 x0) fun h_10 =>
      vStore1 h_10 (p4.add 1) v27 fun h_11 =>
      ldI .i64 h_11 p4 fun xres0_0_3 =>
      ldV h_11 (p4.add 1) fun vres0_1_3 =>
      R (.tuple #[.agg #[.int .i64 xres0_0_3, vres0_1_3], .int .i64 0]) h_11
theorem w_spec_l10Make {R : Value → Heap → Prop} {x0 : Int} {v1 : Value} {h : Heap} (hv : F_spec_l10Make R x0 v1 h) : CallsH P id_spec_l10Make #[.int .i64 x0, v1] h R :=
  callsH_of_vc ctxOk ⟨[(2, [(6, .i .i64)])], []⟩ Tryz.func50 [.int .i64 x0, v1] h R (by kernel_rfl) (Eq.mpr (by kernel_rfl) hv)
/-- spec.l28First -/
def F_spec_l28First (R : Value → Heap → Prop) (p0 : Addr) (x1 : Int) (x2 : Int) (x3 : Int) (h : Heap) : Prop :=
  vNew h (.cells #[.int .i64 0, .slice none 0 0] t_impl_Design) fun p8 h_2 =>
  CallsH P id_spec_l28Run #[.pointer (some p0), .int .i64 x1, .int .i64 x2, .int .i64 x3, .bool true] h_2 fun r19 h_3 => ∃ (v19_0 : Value), ∃ (x19_1 : Int), r19 = .tuple #[v19_0, .int .i64 x19_1] ∧
  bif (x19_1 : Int) != 0 then
    vStore1 h_3 p8 (.int .i64 0) fun h_4 =>
    vStore1 h_4 (p8.add 1) (.slice none 0 0) fun h_5 =>
    ldI .i64 h_5 p8 fun xres0_0 =>
    ldV h_5 (p8.add 1) fun vres0_1 =>
    R (.tuple #[.agg #[.int .i64 xres0_0, vres0_1], .int .i64 x19_1]) h_5
  else
    vNilQ v19_0 (fun _ _ _ => False) fun p27 =>
    ldI .i64 h_3 (p27.add 8) fun x29 =>
    bif (x29 : Int) == 0 then
      vStore1 h_3 p8 (.int .i64 0) fun h_6 =>
      vStore1 h_6 (p8.add 1) (.slice none 0 0) fun h_7 =>
      ldI .i64 h_7 p8 fun xres0_0_2 =>
      ldV h_7 (p8.add 1) fun vres0_1_2 =>
      R (.tuple #[.agg #[.int .i64 xres0_0_2, vres0_1_2], .int .i64 3]) h_7
    else
      vNewS h_3 (.cells #[] t_S_int64) 0 fun v32 h_8 =>
      ldV h_8 (p0.add 1) fun v36 =>
      vAppend 1 24 [.slice none 0 0] t_S_int64 v32 v36 h_8 fun v37 h_9 =>
      ∃ J : Nat → Value → Int → Heap → Prop, (∃ n_2, J n_2 v37 0 h_9) ∧ ∀ (n : Nat) (_ : Env) (v12 : Value) (x13 : Int) (h_10 : Heap), J n v12 x13 h_10 →
      vNilQ v19_0 (fun _ _ _ => False) fun p40 =>
      ldV h_10 (p40.add 10) fun v42 =>
      vLen v42 fun n43 =>
      bif decide ((x13 : Int) < (n43 : Int)) then
        vNilQ v19_0 (fun _ _ _ => False) fun p49 =>
        ldV h_10 (p49.add 2) fun v51 =>
        vNilQ v19_0 (fun _ _ _ => False) fun p53 =>
        ldV h_10 (p53.add 10) fun v55 =>
        vIdx v55 x13 1 fun p57 =>
        ldI .i64 h_10 p57 fun x58 =>
        vIdx v51 x58 1 fun p59 =>
        ldV h_10 p59 fun v60 =>
        vOne v60 fun _ =>
        vNewS h_10 (.cells #[v60] t_S_int64) 1 fun v61 h_11 =>
        vAppend 1 24 [.slice none 0 0] t_S_int64 v12 v61 h_11 fun v62 h_12 =>
        ∃ m, m < n ∧ J m v62 (IntKind.i64.wrap (x13 + 1)) h_12
      else
        ldI .i64 h_10 p0 fun x66 =>
        CallsH P id_spec_l10Make #[.int .i64 x66, v12] h_10 fun r68 h_13 => ∃ (x68_0_0 : Int), ∃ (v68_0_1 : Value), ∃ (x68_1 : Int), r68 = .tuple #[.agg #[.int .i64 x68_0_0, v68_0_1], .int .i64 x68_1] ∧
        vStore1 h_13 p8 (.int .i64 x68_0_0) fun h_14 =>
        vStore1 h_14 (p8.add 1) v68_0_1 fun h_15 =>
        ldI .i64 h_15 p8 fun xres0_0_3 =>
        ldV h_15 (p8.add 1) fun vres0_1_3 =>
        R (.tuple #[.agg #[.int .i64 xres0_0_3, vres0_1_3], .int .i64 x68_1]) h_15
theorem w_spec_l28First {R : Value → Heap → Prop} {p0 : Addr} {x1 : Int} {x2 : Int} {x3 : Int} {h : Heap} (hv : F_spec_l28First R p0 x1 x2 x3 h) : CallsH P id_spec_l28First #[.pointer (some p0), .int .i64 x1, .int .i64 x2, .int .i64 x3] h R :=
  callsH_of_vc ctxOk ⟨[(8, [(12, .v), (13, .i .i64)])], []⟩ Tryz.func24 [.pointer (some p0), .int .i64 x1, .int .i64 x2, .int .i64 x3] h R (by kernel_rfl) (Eq.mpr (by kernel_rfl) hv)
/-- spec.CompleteDesign -/
def F_spec_CompleteDesign (R : Value → Heap → Prop) (x0_0 : Int) (v0_1 : Value) (x1 : Int) (x2 : Int) (x3 : Int) (h : Heap) : Prop :=
  vNew h (.cells #[.int .i64 x0_0, v0_1] t_impl_Design) fun p4 h_2 =>
  vNew h_2 (.cells #[.int .i64 0, .slice none 0 0] t_impl_Design) fun p8 h_3 =>
  CallsH P id_spec_l28First #[.pointer (some p4), .int .i64 x1, .int .i64 x2, .int .i64 x3] h_3 fun r13 h_4 => ∃ (x13_0_0 : Int), ∃ (v13_0_1 : Value), ∃ (x13_1 : Int), r13 = .tuple #[.agg #[.int .i64 x13_0_0, v13_0_1], .int .i64 x13_1] ∧
  vStore1 h_4 p8 (.int .i64 x13_0_0) fun h_5 =>
  vStore1 h_5 (p8.add 1) v13_0_1 fun h_6 =>
  ldI .i64 h_6 p8 fun xres0_0 =>
  ldV h_6 (p8.add 1) fun vres0_1 =>
  R (.tuple #[.agg #[.int .i64 xres0_0, vres0_1], .int .i64 x13_1]) h_6
theorem w_spec_CompleteDesign {R : Value → Heap → Prop} {x0_0 : Int} {v0_1 : Value} {x1 : Int} {x2 : Int} {x3 : Int} {h : Heap} (hv : F_spec_CompleteDesign R x0_0 v0_1 x1 x2 x3 h) : CallsH P id_spec_CompleteDesign #[.agg #[.int .i64 x0_0, v0_1], .int .i64 x1, .int .i64 x2, .int .i64 x3] h R :=
  callsH_of_vc ctxOk ⟨[], []⟩ Tryz.func6 [.agg #[.int .i64 x0_0, v0_1], .int .i64 x1, .int .i64 x2, .int .i64 x3] h R (by kernel_rfl) (Eq.mpr (by kernel_rfl) hv)
/-- laws.toInt64S -/
def F_laws_toInt64S (R : Value → Heap → Prop) (v0 : Value) (h : Heap) : Prop :=
  vLen v0 fun n6 =>
  vMake 8 [.int .i64 0] t_int64 (n6 : Int) (n6 : Int) h fun v7 h_2 =>
  ∃ J : Nat → Int → Heap → Prop, (∃ n_2, J n_2 0 h_2) ∧ ∀ (n : Nat) (_ : Env) (x4 : Int) (h_3 : Heap), J n x4 h_3 →
  vLen v0 fun n10 =>
  bif decide ((x4 : Int) < (n10 : Int)) then
    vIdx v0 x4 1 fun p18 =>
    ldI .i64 h_3 p18 fun x19 =>
    vIdx v7 x4 1 fun p20 =>
    vStore1 h_3 p20 (.int .i64 x19) fun h_4 =>
    ∃ m, m < n ∧ J m (IntKind.i64.wrap (x4 + 1)) h_4
  else
    R v7 h_3
theorem w_laws_toInt64S {R : Value → Heap → Prop} {v0 : Value} {h : Heap} (hv : F_laws_toInt64S R v0 h) : CallsH P id_laws_toInt64S #[v0] h R :=
  callsH_of_vc ctxOk ⟨[(3, [(4, .i .i64)])], []⟩ Tryz.func51 [v0] h R (by kernel_rfl) (Eq.mpr (by kernel_rfl) hv)
/-- laws.toInt64SS -/
def F_laws_toInt64SS (R : Value → Heap → Prop) (v0 : Value) (h : Heap) : Prop :=
  vLen v0 fun n6 =>
  vMake 24 [.slice none 0 0] t_S_int64 (n6 : Int) (n6 : Int) h fun v7 h_2 =>
  ∃ J : Nat → Int → Heap → Prop, (∃ n_2, J n_2 0 h_2) ∧ ∀ (n : Nat) (_ : Env) (x4 : Int) (h_3 : Heap), J n x4 h_3 →
  vLen v0 fun n10 =>
  bif decide ((x4 : Int) < (n10 : Int)) then
    vIdx v0 x4 1 fun p18 =>
    ldV h_3 p18 fun v19 =>
    CallsH P id_laws_toInt64S #[v19] h_3 fun r20 h_4 => ∃ (v20 : Value), r20 = v20 ∧
    vIdx v7 x4 1 fun p21 =>
    vStore1 h_4 p21 v20 fun h_5 =>
    ∃ m, m < n ∧ J m (IntKind.i64.wrap (x4 + 1)) h_5
  else
    R v7 h_3
theorem w_laws_toInt64SS {R : Value → Heap → Prop} {v0 : Value} {h : Heap} (hv : F_laws_toInt64SS R v0 h) : CallsH P id_laws_toInt64SS #[v0] h R :=
  callsH_of_vc ctxOk ⟨[(3, [(4, .i .i64)])], []⟩ Tryz.func25 [v0] h R (by kernel_rfl) (Eq.mpr (by kernel_rfl) hv)
/-- laws.toDesign -/
def F_laws_toDesign (R : Value → Heap → Prop) (x0_0 : Int) (v0_1 : Value) (h : Heap) : Prop :=
  vNew h (.cells #[.int .i64 x0_0, v0_1] t_laws_Design) fun p1 h_2 =>
  vNew h_2 (.cells #[.int .i64 0, .slice none 0 0] t_impl_Design) fun p2 h_3 =>
  vNew h_3 (.cells #[.int .i64 0, .slice none 0 0] t_impl_Design) fun p3 h_4 =>
  ldI .i64 h_4 p1 fun x5 =>
  vStore1 h_4 p3 (.int .i64 x5) fun h_5 =>
  ldV h_5 (p1.add 1) fun v8 =>
  CallsH P id_laws_toInt64SS #[v8] h_5 fun r9 h_6 => ∃ (v9 : Value), r9 = v9 ∧
  vStore1 h_6 (p3.add 1) v9 fun h_7 =>
  ldI .i64 h_7 p3 fun x11_0 =>
  ldV h_7 (p3.add 1) fun v11_1 =>
  vStore1 h_7 p2 (.int .i64 x11_0) fun h_8 =>
  vStore1 h_8 (p2.add 1) v11_1 fun h_9 =>
  ldI .i64 h_9 p2 fun xres0_0 =>
  ldV h_9 (p2.add 1) fun vres0_1 =>
  R (.agg #[.int .i64 xres0_0, vres0_1]) h_9
theorem w_laws_toDesign {R : Value → Heap → Prop} {x0_0 : Int} {v0_1 : Value} {h : Heap} (hv : F_laws_toDesign R x0_0 v0_1 h) : CallsH P id_laws_toDesign #[.agg #[.int .i64 x0_0, v0_1]] h R :=
  callsH_of_vc ctxOk ⟨[], []⟩ Tryz.func7 [.agg #[.int .i64 x0_0, v0_1]] h R (by kernel_rfl) (Eq.mpr (by kernel_rfl) hv)
/-- impl.within -/
def F_impl_within (R : Value → Heap → Prop) (x0 : Int) (x1 : Int) (x2 : Int) (h : Heap) : Prop :=
  bif decide ((x0 : Int) ≥ x1) then
    R (.bool (decide ((x0 : Int) ≤ x2))) h
  else
    R (.bool false) h
theorem w_impl_within {R : Value → Heap → Prop} {x0 : Int} {x1 : Int} {x2 : Int} {h : Heap} (hv : F_impl_within R x0 x1 x2 h) : CallsH P id_impl_within #[.int .i64 x0, .int .i64 x1, .int .i64 x2] h R :=
  callsH_of_vc ctxOk ⟨[], []⟩ Tryz.func31 [.int .i64 x0, .int .i64 x1, .int .i64 x2] h R (by kernel_rfl) (Eq.mpr (by kernel_rfl) hv)
/-- slices.IndexFunc[[][]int64,[]int64] -/
def F_slices_IndexFunc_LLint64_Lint64 (R : Value → Heap → Prop) (v0 : Value) (g1 : Nat) (cap1 : List Value) (h : Heap) : Prop :=
  vLen v0 fun n7 =>
  ∃ J : Nat → Int → Heap → Prop, (∃ n_2, J n_2 0 h) ∧ ∀ (n : Nat) (_ : Env) (x8 : Int) (h_2 : Heap), J n x8 h_2 →
  bif decide ((x8 : Int) < (n7 : Int)) then
    vIdx v0 x8 1 fun p14 =>
    ldV h_2 p14 fun v15 =>
    vOkf ctx g1 fun _ =>
    CallsH P g1 (([v15] : List Value) ++ cap1).toArray h_2 fun r16 h_3 => ∃ (b16 : Bool), r16 = .bool b16 ∧
    bif b16 then
      R (.int .i64 x8) h_3
    else
      ∃ m, m < n ∧ J m (IntKind.i64.wrap (x8 + 1)) h_3
  else
    R (.int .i64 (-1)) h_2
theorem w_slices_IndexFunc_LLint64_Lint64 {R : Value → Heap → Prop} {v0 : Value} {g1 : Nat} {cap1 : List Value} {h : Heap} (hv : F_slices_IndexFunc_LLint64_Lint64 R v0 g1 cap1 h) : CallsH P id_slices_IndexFunc_LLint64_Lint64 #[v0, .func (.func g1) #[] cap1.toArray] h R :=
  callsH_of_vc ctxOk ⟨[(2, [(8, .i .i64)])], []⟩ Tryz.func109 [v0, .func (.func g1) #[] cap1.toArray] h R (by kernel_rfl) (Eq.mpr (by kernel_rfl) hv)
/-- slices.ContainsFunc[[][]int64,[]int64] -/
def F_slices_ContainsFunc_LLint64_Lint64 (R : Value → Heap → Prop) (v0 : Value) (g1 : Nat) (cap1 : List Value) (h : Heap) : Prop :=
  CallsH P id_slices_IndexFunc_LLint64_Lint64 #[v0, .func (.func g1) #[] cap1.toArray] h fun r7 h_2 => ∃ (x7 : Int), r7 = .int .i64 x7 ∧
  R (.bool (decide ((x7 : Int) ≥ 0))) h_2
theorem w_slices_ContainsFunc_LLint64_Lint64 {R : Value → Heap → Prop} {v0 : Value} {g1 : Nat} {cap1 : List Value} {h : Heap} (hv : F_slices_ContainsFunc_LLint64_Lint64 R v0 g1 cap1 h) : CallsH P id_slices_ContainsFunc_LLint64_Lint64 #[v0, .func (.func g1) #[] cap1.toArray] h R :=
  callsH_of_vc ctxOk ⟨[], []⟩ Tryz.func84 [v0, .func (.func g1) #[] cap1.toArray] h R (by kernel_rfl) (Eq.mpr (by kernel_rfl) hv)
/-- impl.ValidSet -/
def F_impl_ValidSet (R : Value → Heap → Prop) (v0 : Value) (x1 : Int) (h : Heap) : Prop :=
  vLen v0 fun n9 =>
  ∃ J : Nat → Int → Int → Heap → Prop, (∃ n_2, J n_2 (-1) 0 h) ∧ ∀ (n : Nat) (_ : Env) (x5 : Int) (x10 : Int) (h_2 : Heap), J n x5 x10 h_2 →
  bif decide ((x10 : Int) < (n9 : Int)) then
    vIdx v0 x10 1 fun p12 =>
    ldI .i64 h_2 p12 fun x13 =>
    bif decide ((x13 : Int) ≤ x5) then
      R (.bool false) h_2
    else
      bif decide ((x13 : Int) ≥ x1) then
        R (.bool false) h_2
      else
        ∃ m, m < n ∧ J m x13 (IntKind.i64.wrap (x10 + 1)) h_2
  else
    CallsH P id_impl_within #[.int .i64 x1, .int .i64 0, .int .i64 32] h_2 fun r25 h_3 => ∃ (b25 : Bool), r25 = .bool b25 ∧
    R (.bool b25) h_3
theorem w_impl_ValidSet {R : Value → Heap → Prop} {v0 : Value} {x1 : Int} {h : Heap} (hv : F_impl_ValidSet R v0 x1 h) : CallsH P id_impl_ValidSet #[v0, .int .i64 x1] h R :=
  callsH_of_vc ctxOk ⟨[(3, [(5, .i .i64), (10, .i .i64)])], []⟩ Tryz.func58 [v0, .int .i64 x1] h R (by kernel_rfl) (Eq.mpr (by kernel_rfl) hv)
/-- impl.isBlock -/
def F_impl_isBlock (R : Value → Heap → Prop) (v0 : Value) (x1 : Int) (h : Heap) : Prop :=
  vLen v0 fun n6 =>
  bif decide (((n6 : Int) : Int) > 0) then
    CallsH P id_impl_ValidSet #[v0, .int .i64 x1] h fun r11 h_2 => ∃ (b11 : Bool), r11 = .bool b11 ∧
    R (.bool b11) h_2
  else
    R (.bool false) h
theorem w_impl_isBlock {R : Value → Heap → Prop} {v0 : Value} {x1 : Int} {h : Heap} (hv : F_impl_isBlock R v0 x1 h) : CallsH P id_impl_isBlock #[v0, .int .i64 x1] h R :=
  callsH_of_vc ctxOk ⟨[], []⟩ Tryz.func86 [v0, .int .i64 x1] h R (by kernel_rfl) (Eq.mpr (by kernel_rfl) hv)
/-- impl.areBlocks$1 -/
def F_impl_areBlocks_1 (R : Value → Heap → Prop) (v0 : Value) (p1 : Addr) (h : Heap) : Prop :=
  ldI .i64 h p1 fun x5 =>
  CallsH P id_impl_isBlock #[v0, .int .i64 x5] h fun r6 h_2 => ∃ (b6 : Bool), r6 = .bool b6 ∧
  R (.bool (!b6)) h_2
theorem w_impl_areBlocks_1 {R : Value → Heap → Prop} {v0 : Value} {p1 : Addr} {h : Heap} (hv : F_impl_areBlocks_1 R v0 p1 h) : CallsH P id_impl_areBlocks_1 #[v0, .pointer (some p1)] h R :=
  callsH_of_vc ctxOk ⟨[], []⟩ Tryz.func85 [v0, .pointer (some p1)] h R (by kernel_rfl) (Eq.mpr (by kernel_rfl) hv)
/-- impl.areBlocks -/
def F_impl_areBlocks (R : Value → Heap → Prop) (v0 : Value) (x1 : Int) (h : Heap) : Prop :=
  vNew h (.cells #[.int .i64 x1] t_int64) fun p3 h_2 =>
  ldI .i64 h_2 p3 fun x5 =>
  CallsH P id_impl_within #[.int .i64 x5, .int .i64 1, .int .i64 32] h_2 fun r6 h_3 => ∃ (b6 : Bool), r6 = .bool b6 ∧
  bif b6 then
    CallsH P id_slices_ContainsFunc_LLint64_Lint64 #[v0, .func (.func id_impl_areBlocks_1) #[] #[.pointer (some p3)]] h_3 fun r10 h_4 => ∃ (b10 : Bool), r10 = .bool b10 ∧
    R (.bool (!b10)) h_4
  else
    R (.bool false) h_3
theorem w_impl_areBlocks {R : Value → Heap → Prop} {v0 : Value} {x1 : Int} {h : Heap} (hv : F_impl_areBlocks R v0 x1 h) : CallsH P id_impl_areBlocks #[v0, .int .i64 x1] h R :=
  callsH_of_vc ctxOk ⟨[], []⟩ Tryz.func52 [v0, .int .i64 x1] h R (by kernel_rfl) (Eq.mpr (by kernel_rfl) hv)
/-- slices.IsSortedFunc[[][]int64,[]int64] -/
def F_slices_IsSortedFunc_LLint64_Lint64 (R : Value → Heap → Prop) (v0 : Value) (g1 : Nat) (cap1 : List Value) (h : Heap) : Prop :=
  vLen v0 fun n7 =>
  ∃ J : Nat → Int → Heap → Prop, (∃ n_2, J n_2 (IntKind.i64.wrap ((n7 : Int) - 1)) h) ∧ ∀ (n : Nat) (_ : Env) (x5 : Int) (h_2 : Heap), J n x5 h_2 →
  bif decide ((x5 : Int) > 0) then
    vIdx v0 x5 1 fun p16 =>
    ldV h_2 p16 fun v17 =>
    vIdx v0 (IntKind.i64.wrap (x5 - 1)) 1 fun p21 =>
    ldV h_2 p21 fun v22 =>
    vOkf ctx g1 fun _ =>
    CallsH P g1 (([v17, v22] : List Value) ++ cap1).toArray h_2 fun r23 h_3 => ∃ (x23 : Int), r23 = .int .i64 x23 ∧
    bif decide ((x23 : Int) < 0) then
      R (.bool false) h_3
    else
      ∃ m, m < n ∧ J m (IntKind.i64.wrap (x5 - 1)) h_3
  else
    R (.bool true) h_2
theorem w_slices_IsSortedFunc_LLint64_Lint64 {R : Value → Heap → Prop} {v0 : Value} {g1 : Nat} {cap1 : List Value} {h : Heap} (hv : F_slices_IsSortedFunc_LLint64_Lint64 R v0 g1 cap1 h) : CallsH P id_slices_IsSortedFunc_LLint64_Lint64 #[v0, .func (.func g1) #[] cap1.toArray] h R :=
  callsH_of_vc ctxOk ⟨[(2, [(5, .i .i64)])], []⟩ Tryz.func53 [v0, .func (.func g1) #[] cap1.toArray] h R (by kernel_rfl) (Eq.mpr (by kernel_rfl) hv)
/-- cmp.isNaN[int64] -/
def F_cmp_isNaN_int64 (R : Value → Heap → Prop) (x0 : Int) (h : Heap) : Prop :=
  R (.bool ((x0 : Int) != x0)) h
theorem w_cmp_isNaN_int64 {R : Value → Heap → Prop} {x0 : Int} {h : Heap} (hv : F_cmp_isNaN_int64 R x0 h) : CallsH P id_cmp_isNaN_int64 #[.int .i64 x0] h R :=
  callsH_of_vc ctxOk ⟨[], []⟩ Tryz.func110 [.int .i64 x0] h R (by kernel_rfl) (Eq.mpr (by kernel_rfl) hv)
/-- cmp.Compare[int64] -/
def F_cmp_Compare_int64 (R : Value → Heap → Prop) (x0 : Int) (x1 : Int) (h : Heap) : Prop :=
  CallsH P id_cmp_isNaN_int64 #[.int .i64 x0] h fun r8 h_2 => ∃ (b8 : Bool), r8 = .bool b8 ∧
  CallsH P id_cmp_isNaN_int64 #[.int .i64 x1] h_2 fun r10 h_3 => ∃ (b10 : Bool), r10 = .bool b10 ∧
  bif b8 then
    bif b10 then
      R (.int .i64 0) h_3
    else
      R (.int .i64 (-1)) h_3
  else
    bif b10 then
      R (.int .i64 1) h_3
    else
      bif decide ((x0 : Int) < x1) then
        R (.int .i64 (-1)) h_3
      else
        bif decide ((x0 : Int) > x1) then
          R (.int .i64 1) h_3
        else
          R (.int .i64 0) h_3
theorem w_cmp_Compare_int64 {R : Value → Heap → Prop} {x0 : Int} {x1 : Int} {h : Heap} (hv : F_cmp_Compare_int64 R x0 x1 h) : CallsH P id_cmp_Compare_int64 #[.int .i64 x0, .int .i64 x1] h R :=
  callsH_of_vc ctxOk ⟨[], []⟩ Tryz.func87 [.int .i64 x0, .int .i64 x1] h R (by kernel_rfl) (Eq.mpr (by kernel_rfl) hv)
/-- slices.Compare[[]int64,int64] -/
def F_slices_Compare_Lint64_int64 (R : Value → Heap → Prop) (v0 : Value) (v1 : Value) (h : Heap) : Prop :=
  vLen v0 fun n10 =>
  ∃ J : Nat → Int → Heap → Prop, (∃ n_2, J n_2 0 h) ∧ ∀ (n : Nat) (_ : Env) (x11 : Int) (h_2 : Heap), J n x11 h_2 →
  bif decide ((x11 : Int) < (n10 : Int)) then
    vIdx v0 x11 1 fun p14 =>
    ldI .i64 h_2 p14 fun x15 =>
    vLen v1 fun n18 =>
    bif decide ((x11 : Int) ≥ (n18 : Int)) then
      R (.int .i64 1) h_2
    else
      vIdx v1 x11 1 fun p22 =>
      ldI .i64 h_2 p22 fun x23 =>
      CallsH P id_cmp_Compare_int64 #[.int .i64 x15, .int .i64 x23] h_2 fun r26 h_3 => ∃ (x26 : Int), r26 = .int .i64 x26 ∧
      bif (x26 : Int) != 0 then
        R (.int .i64 x26) h_3
      else
        ∃ m, m < n ∧ J m (IntKind.i64.wrap (x11 + 1)) h_3
  else
    vLen v0 fun n32 =>
    vLen v1 fun n34 =>
    bif decide (((n32 : Int) : Int) < (n34 : Int)) then
      R (.int .i64 (-1)) h_2
    else
      R (.int .i64 0) h_2
theorem w_slices_Compare_Lint64_int64 {R : Value → Heap → Prop} {v0 : Value} {v1 : Value} {h : Heap} (hv : F_slices_Compare_Lint64_int64 R v0 v1 h) : CallsH P id_slices_Compare_Lint64_int64 #[v0, v1] h R :=
  callsH_of_vc ctxOk ⟨[(2, [(11, .i .i64)])], []⟩ Tryz.func54 [v0, v1] h R (by kernel_rfl) (Eq.mpr (by kernel_rfl) hv)
/-- impl.ValidDesign -/
def F_impl_ValidDesign (R : Value → Heap → Prop) (x0_0 : Int) (v0_1 : Value) (h : Heap) : Prop :=
  vNew h (.cells #[.int .i64 x0_0, v0_1] t_impl_Design) fun p1 h_2 =>
  ldV h_2 (p1.add 1) fun v4 =>
  ldI .i64 h_2 p1 fun x6 =>
  CallsH P id_impl_areBlocks #[v4, .int .i64 x6] h_2 fun r7 h_3 => ∃ (b7 : Bool), r7 = .bool b7 ∧
  bif b7 then
    ldV h_3 (p1.add 1) fun v10 =>
    vLen v10 fun n11 =>
    bif decide (((n11 : Int) : Int) ≤ 128) then
      ldV h_3 (p1.add 1) fun v16 =>
      CallsH P id_slices_IsSortedFunc_LLint64_Lint64 #[v16, .func (.func id_slices_Compare_Lint64_int64) #[] #[]] h_3 fun r17 h_4 => ∃ (b17 : Bool), r17 = .bool b17 ∧
      R (.bool b17) h_4
    else
      R (.bool false) h_3
  else
    R (.bool false) h_3
theorem w_impl_ValidDesign {R : Value → Heap → Prop} {x0_0 : Int} {v0_1 : Value} {h : Heap} (hv : F_impl_ValidDesign R x0_0 v0_1 h) : CallsH P id_impl_ValidDesign #[.agg #[.int .i64 x0_0, v0_1]] h R :=
  callsH_of_vc ctxOk ⟨[], []⟩ Tryz.func26 [.agg #[.int .i64 x0_0, v0_1]] h R (by kernel_rfl) (Eq.mpr (by kernel_rfl) hv)
/-- impl.Choose -/
def F_impl_Choose (R : Value → Heap → Prop) (x0 : Int) (x1 : Int) (h : Heap) : Prop :=
  ∃ J : Heap → Prop, (
    CallsH P id_impl_within #[.int .i64 x0, .int .i64 0, .int .i64 32] h fun r8 h_2 => ∃ (b8 : Bool), r8 = .bool b8 ∧
    bif !b8 then
      R (.int .i64 0) h_2
    else
      CallsH P id_impl_within #[.int .i64 x1, .int .i64 0, .int .i64 x0] h_2 fun r13 h_3 => ∃ (b13 : Bool), r13 = .bool b13 ∧
      bif !b13 then
        R (.int .i64 0) h_3
      else
        J h_3
  ) ∧ ∀ (_ : Env) (h_4 : Heap), J h_4 →
  ∃ J_2 : Nat → Int → Int → Heap → Prop, (∃ n_2, J_2 n_2 1 1 h_4) ∧ ∀ (n : Nat) (_ : Env) (x5 : Int) (x6 : Int) (h_5 : Heap), J_2 n x5 x6 h_5 →
  bif decide ((x6 : Int) ≤ x1) then
    (x6 : Int) ≠ 0 ∧
    ∃ m, m < n ∧ J_2 m (IntKind.i64.wrap (Int.tdiv (IntKind.i64.wrap (x5 * (IntKind.i64.wrap ((IntKind.i64.wrap (x0 - x1)) + x6)))) x6)) (IntKind.i64.wrap (x6 + 1)) h_5
  else
    R (.int .i64 x5) h_5
theorem w_impl_Choose {R : Value → Heap → Prop} {x0 : Int} {x1 : Int} {h : Heap} (hv : F_impl_Choose R x0 x1 h) : CallsH P id_impl_Choose #[.int .i64 x0, .int .i64 x1] h R :=
  callsH_of_vc ctxOk ⟨[(5, [(5, .i .i64), (6, .i .i64)])], [(3, [])]⟩ Tryz.func34 [.int .i64 x0, .int .i64 x1] h R (by kernel_rfl) (Eq.mpr (by kernel_rfl) hv)
/-- impl.identity -/
def F_impl_identity (R : Value → Heap → Prop) (x0 : Int) (h : Heap) : Prop :=
  vMake 8 [.int .i64 0] t_int64 x0 x0 h fun v6 h_2 =>
  vLen v6 fun n8 =>
  ∃ J : Nat → Int → Heap → Prop, (∃ n_2, J n_2 0 h_2) ∧ ∀ (n : Nat) (_ : Env) (x9 : Int) (h_3 : Heap), J n x9 h_3 →
  bif decide ((x9 : Int) < (n8 : Int)) then
    vIdx v6 x9 1 fun p15 =>
    vStore1 h_3 p15 (.int .i64 x9) fun h_4 =>
    ∃ m, m < n ∧ J m (IntKind.i64.wrap (x9 + 1)) h_4
  else
    R v6 h_3
theorem w_impl_identity {R : Value → Heap → Prop} {x0 : Int} {h : Heap} (hv : F_impl_identity R x0 h) : CallsH P id_impl_identity #[.int .i64 x0] h R :=
  callsH_of_vc ctxOk ⟨[(3, [(9, .i .i64)])], []⟩ Tryz.func60 [.int .i64 x0] h R (by kernel_rfl) (Eq.mpr (by kernel_rfl) hv)
/-- impl.size[int64] -/
def F_impl_size_int64 (R : Value → Heap → Prop) (v0 : Value) (h : Heap) : Prop :=
  vLen v0 fun n4 =>
  R (.int .i64 (n4 : Int)) h
theorem w_impl_size_int64 {R : Value → Heap → Prop} {v0 : Value} {h : Heap} (hv : F_impl_size_int64 R v0 h) : CallsH P id_impl_size_int64 #[v0] h R :=
  callsH_of_vc ctxOk ⟨[], []⟩ Tryz.func59 [v0] h R (by kernel_rfl) (Eq.mpr (by kernel_rfl) hv)
/-- slices.Clone[[]int64,int64] -/
def F_slices_Clone_Lint64_int64 (R : Value → Heap → Prop) (v0 : Value) (h : Heap) : Prop :=
  vNilS false v0 fun b4 =>
  bif b4 then
    R (.slice none 0 0) h
  else
    vNewS h (.cells #[] t_int64) 0 fun v5 h_2 =>
    vAppend 1 8 [.int .i64 0] t_int64 v5 v0 h_2 fun v7 h_3 =>
    R v7 h_3
theorem w_slices_Clone_Lint64_int64 {R : Value → Heap → Prop} {v0 : Value} {h : Heap} (hv : F_slices_Clone_Lint64_int64 R v0 h) : CallsH P id_slices_Clone_Lint64_int64 #[v0] h R :=
  callsH_of_vc ctxOk ⟨[], []⟩ Tryz.func88 [v0] h R (by kernel_rfl) (Eq.mpr (by kernel_rfl) hv)
/-- impl.NextSubset -/
def F_impl_NextSubset (R : Value → Heap → Prop) (x0 : Int) (v1 : Value) (h : Heap) : Prop :=
  CallsH P id_impl_ValidSet #[v1, .int .i64 x0] h fun r12 h_2 => ∃ (b12 : Bool), r12 = .bool b12 ∧
  bif !b12 then
    R (.tuple #[(.slice none 0 0), .bool false]) h_2
  else
    CallsH P id_impl_size_int64 #[v1] h_2 fun r15 h_3 => ∃ (x15 : Int), r15 = .int .i64 x15 ∧
    ∃ J : Nat → Int → Heap → Prop, (∃ n_2, J n_2 (IntKind.i64.wrap (x15 - 1)) h_3) ∧ ∀ (n : Nat) (_ : Env) (x7 : Int) (h_4 : Heap), J n x7 h_4 →
    bif decide ((x7 : Int) ≥ 0) then
      vIdx v1 x7 1 fun p24 =>
      ldI .i64 h_4 p24 fun x25 =>
      bif (x25 : Int) == (IntKind.i64.wrap ((IntKind.i64.wrap (x0 - x15)) + x7)) then
        ∃ m, m < n ∧ J m (IntKind.i64.wrap (x7 - 1)) h_4
      else
        CallsH P id_slices_Clone_Lint64_int64 #[v1] h_4 fun r33 h_5 => ∃ (v33 : Value), r33 = v33 ∧
        ∃ J_2 : Nat → Int → Heap → Prop, (∃ n_4, J_2 n_4 x7 h_5) ∧ ∀ (n_3 : Nat) (_ : Env) (x9 : Int) (h_6 : Heap), J_2 n_3 x9 h_6 →
        bif decide ((x9 : Int) < x15) then
          vIdx v1 x7 1 fun p44 =>
          ldI .i64 h_6 p44 fun x45 =>
          vIdx v33 x9 1 fun p51 =>
          vStore1 h_6 p51 (.int .i64 (IntKind.i64.wrap ((IntKind.i64.wrap ((IntKind.i64.wrap (x45 + 1)) + x9)) - x7))) fun h_7 =>
          ∃ m_2, m_2 < n_3 ∧ J_2 m_2 (IntKind.i64.wrap (x9 + 1)) h_7
        else
          R (.tuple #[v33, .bool true]) h_6
    else
      R (.tuple #[(.slice none 0 0), .bool false]) h_4
theorem w_impl_NextSubset {R : Value → Heap → Prop} {x0 : Int} {v1 : Value} {h : Heap} (hv : F_impl_NextSubset R x0 v1 h) : CallsH P id_impl_NextSubset #[.int .i64 x0, v1] h R :=
  callsH_of_vc ctxOk ⟨[(5, [(7, .i .i64)]), (10, [(9, .i .i64)])], []⟩ Tryz.func61 [.int .i64 x0, v1] h R (by kernel_rfl) (Eq.mpr (by kernel_rfl) hv)
/-- impl.allSubsets -/
def F_impl_allSubsets (R : Value → Heap → Prop) (x0 : Int) (x1 : Int) (h : Heap) : Prop :=
  CallsH P id_impl_identity #[.int .i64 x1] h fun r9 h_2 => ∃ (v9 : Value), r9 = v9 ∧
  ∃ J : Nat → Value → Value → Bool → Heap → Prop, (∃ n_2, J n_2 (.slice none 0 0) v9 (decide ((x1 : Int) ≤ x0)) h_2) ∧ ∀ (n : Nat) (_ : Env) (v5 : Value) (v6 : Value) (b7 : Bool) (h_3 : Heap), J n v5 v6 b7 h_3 →
  bif b7 then
    vOne v6 fun _ =>
    vNewS h_3 (.cells #[v6] t_S_int64) 1 fun v16 h_4 =>
    vAppend 1 24 [.slice none 0 0] t_S_int64 v5 v16 h_4 fun v17 h_5 =>
    CallsH P id_impl_NextSubset #[.int .i64 x0, v6] h_5 fun r21 h_6 => ∃ (v21_0 : Value), ∃ (b21_1 : Bool), r21 = .tuple #[v21_0, .bool b21_1] ∧
    ∃ m, m < n ∧ J m v17 v21_0 b21_1 h_6
  else
    R v5 h_3
theorem w_impl_allSubsets {R : Value → Heap → Prop} {x0 : Int} {x1 : Int} {h : Heap} (hv : F_impl_allSubsets R x0 x1 h) : CallsH P id_impl_allSubsets #[.int .i64 x0, .int .i64 x1] h R :=
  callsH_of_vc ctxOk ⟨[(3, [(5, .v), (6, .v), (7, .b)])], []⟩ Tryz.func35 [.int .i64 x0, .int .i64 x1] h R (by kernel_rfl) (Eq.mpr (by kernel_rfl) hv)
/-- impl.filledSquare -/
def F_impl_filledSquare (R : Value → Heap → Prop) (x0 : Int) (g1 : Nat) (cap1 : List Value) (h : Heap) : Prop :=
  ∃ J : Nat → Value → Int → Heap → Prop, (∃ n_2, J n_2 (.slice none 0 0) 0 h) ∧ ∀ (n : Nat) (_ : Env) (v5 : Value) (x6 : Int) (h_2 : Heap), J n v5 x6 h_2 →
  bif decide ((x6 : Int) < x0) then
    ∃ J_2 : Nat → Value → Int → Heap → Prop, (∃ n_4, J_2 n_4 (.slice none 0 0) 0 h_2) ∧ ∀ (n_3 : Nat) (_ : Env) (v7 : Value) (x8 : Int) (h_3 : Heap), J_2 n_3 v7 x8 h_3 →
    bif decide ((x8 : Int) < x0) then
      vOkf ctx g1 fun _ =>
      CallsH P g1 (([.int .i64 x6, .int .i64 x8] : List Value) ++ cap1).toArray h_3 fun r23 h_4 => ∃ (x23 : Int), r23 = .int .i64 x23 ∧
      vNewS h_4 (.cells #[.int .i64 x23] t_int64) 1 fun v24 h_5 =>
      vAppend 1 8 [.int .i64 0] t_int64 v7 v24 h_5 fun v25 h_6 =>
      ∃ m_2, m_2 < n_3 ∧ J_2 m_2 v25 (IntKind.i64.wrap (x8 + 1)) h_6
    else
      vOne v7 fun _ =>
      vNewS h_3 (.cells #[v7] t_S_int64) 1 fun v28 h_7 =>
      vAppend 1 24 [.slice none 0 0] t_S_int64 v5 v28 h_7 fun v29 h_8 =>
      ∃ m, m < n ∧ J m v29 (IntKind.i64.wrap (x6 + 1)) h_8
  else
    R v5 h_2
theorem w_impl_filledSquare {R : Value → Heap → Prop} {x0 : Int} {g1 : Nat} {cap1 : List Value} {h : Heap} (hv : F_impl_filledSquare R x0 g1 cap1 h) : CallsH P id_impl_filledSquare #[.int .i64 x0, .func (.func g1) #[] cap1.toArray] h R :=
  callsH_of_vc ctxOk ⟨[(3, [(5, .v), (6, .i .i64)]), (7, [(7, .v), (8, .i .i64)])], []⟩ Tryz.func99 [.int .i64 x0, .func (.func g1) #[] cap1.toArray] h R (by kernel_rfl) (Eq.mpr (by kernel_rfl) hv)
/-- impl.emptySquare$1 -/
def F_impl_emptySquare_1 (R : Value → Heap → Prop) (x0 : Int) (x1 : Int) (h : Heap) : Prop :=
  R (.int .i64 0) h
theorem w_impl_emptySquare_1 {R : Value → Heap → Prop} {x0 : Int} {x1 : Int} {h : Heap} (hv : F_impl_emptySquare_1 R x0 x1 h) : CallsH P id_impl_emptySquare_1 #[.int .i64 x0, .int .i64 x1] h R :=
  callsH_of_vc ctxOk ⟨[], []⟩ Tryz.func100 [.int .i64 x0, .int .i64 x1] h R (by kernel_rfl) (Eq.mpr (by kernel_rfl) hv)
/-- impl.emptySquare -/
def F_impl_emptySquare (R : Value → Heap → Prop) (x0 : Int) (h : Heap) : Prop :=
  CallsH P id_impl_filledSquare #[.int .i64 x0, .func (.func id_impl_emptySquare_1) #[] #[]] h fun r4 h_2 => ∃ (v4 : Value), r4 = v4 ∧
  R v4 h_2
theorem w_impl_emptySquare {R : Value → Heap → Prop} {x0 : Int} {h : Heap} (hv : F_impl_emptySquare R x0 h) : CallsH P id_impl_emptySquare #[.int .i64 x0] h R :=
  callsH_of_vc ctxOk ⟨[], []⟩ Tryz.func72 [.int .i64 x0] h R (by kernel_rfl) (Eq.mpr (by kernel_rfl) hv)
/-- impl.pairCounts -/
def F_impl_pairCounts (R : Value → Heap → Prop) (x0_0 : Int) (v0_1 : Value) (h : Heap) : Prop :=
  vNew h (.cells #[.int .i64 x0_0, v0_1] t_impl_Design) fun p1 h_2 =>
  ldI .i64 h_2 p1 fun x14 =>
  CallsH P id_impl_emptySquare #[.int .i64 x14] h_2 fun r15 h_3 => ∃ (v15 : Value), r15 = v15 ∧
  ldV h_3 (p1.add 1) fun v17 =>
  vLen v17 fun n18 =>
  ∃ J : Nat → Int → Heap → Prop, (∃ n_2, J n_2 0 h_3) ∧ ∀ (n : Nat) (_ : Env) (x19 : Int) (h_4 : Heap), J n x19 h_4 →
  bif decide ((x19 : Int) < (n18 : Int)) then
    vIdx v17 x19 1 fun p21 =>
    ldV h_4 p21 fun v22 =>
    vLen v22 fun n24 =>
    ∃ J_2 : Nat → Int → Heap → Prop, (∃ n_4, J_2 n_4 0 h_4) ∧ ∀ (n_3 : Nat) (_ : Env) (x25 : Int) (h_5 : Heap), J_2 n_3 x25 h_5 →
    bif decide ((x25 : Int) < (n24 : Int)) then
      vIdx v22 x25 1 fun p28 =>
      ldI .i64 h_5 p28 fun x29 =>
      vSliceS v22 1 (some (.int .i64 (IntKind.i64.wrap (x25 + 1)))) none none fun v33 =>
      vLen v33 fun n34 =>
      ∃ J_3 : Nat → Int → Heap → Prop, (∃ n_6, J_3 n_6 0 h_5) ∧ ∀ (n_5 : Nat) (_ : Env) (x35 : Int) (h_6 : Heap), J_3 n_5 x35 h_6 →
      bif decide ((x35 : Int) < (n34 : Int)) then
        vIdx v33 x35 1 fun p37 =>
        ldI .i64 h_6 p37 fun x38 =>
        vIdx v15 x29 1 fun p41 =>
        ldV h_6 p41 fun v42 =>
        vIdx v42 x38 1 fun p44 =>
        ldI .i64 h_6 p44 fun x45 =>
        vIdx v42 x38 1 fun p47 =>
        vStore1 h_6 p47 (.int .i64 (IntKind.i64.wrap (x45 + 1))) fun h_7 =>
        ∃ m_3, m_3 < n_5 ∧ J_3 m_3 (IntKind.i64.wrap (x35 + 1)) h_7
      else
        ∃ m_2, m_2 < n_3 ∧ J_2 m_2 (IntKind.i64.wrap (x25 + 1)) h_6
    else
      ∃ m, m < n ∧ J m (IntKind.i64.wrap (x19 + 1)) h_5
  else
    vLen v15 fun n52 =>
    ∃ J_4 : Nat → Value → Int → Heap → Prop, (∃ n_8, J_4 n_8 (.slice none 0 0) 0 h_4) ∧ ∀ (n_7 : Nat) (_ : Env) (v10 : Value) (x53 : Int) (h_8 : Heap), J_4 n_7 v10 x53 h_8 →
    bif decide ((x53 : Int) < (n52 : Int)) then
      vIdx v15 x53 1 fun p56 =>
      ldV h_8 p56 fun v57 =>
      vSliceS v57 1 (some (.int .i64 (IntKind.i64.wrap (x53 + 1)))) none none fun v62 =>
      vAppend 1 8 [.int .i64 0] t_int64 v10 v62 h_8 fun v63 h_9 =>
      ∃ m_4, m_4 < n_7 ∧ J_4 m_4 v63 (IntKind.i64.wrap (x53 + 1)) h_9
    else
      R v10 h_8
theorem w_impl_pairCounts {R : Value → Heap → Prop} {x0_0 : Int} {v0_1 : Value} {h : Heap} (hv : F_impl_pairCounts R x0_0 v0_1 h) : CallsH P id_impl_pairCounts #[.agg #[.int .i64 x0_0, v0_1]] h R :=
  callsH_of_vc ctxOk ⟨[(3, [(19, .i .i64)]), (6, [(25, .i .i64)]), (9, [(35, .i .i64)]), (17, [(10, .v), (53, .i .i64)])], []⟩ Tryz.func41 [.agg #[.int .i64 x0_0, v0_1]] h R (by kernel_rfl) (Eq.mpr (by kernel_rfl) hv)
/-- slices.Equal[[]int64,int64] -/
def F_slices_Equal_Lint64_int64 (R : Value → Heap → Prop) (v0 : Value) (v1 : Value) (h : Heap) : Prop :=
  vLen v0 fun n7 =>
  vLen v1 fun n9 =>
  bif ((n7 : Int) : Int) != (n9 : Int) then
    R (.bool false) h
  else
    vLen v0 fun n12 =>
    ∃ J : Nat → Int → Heap → Prop, (∃ n_2, J n_2 0 h) ∧ ∀ (n : Nat) (_ : Env) (x13 : Int) (h_2 : Heap), J n x13 h_2 →
    bif decide ((x13 : Int) < (n12 : Int)) then
      vIdx v0 x13 1 fun p18 =>
      ldI .i64 h_2 p18 fun x19 =>
      vIdx v1 x13 1 fun p22 =>
      ldI .i64 h_2 p22 fun x23 =>
      bif (x19 : Int) != x23 then
        R (.bool false) h_2
      else
        ∃ m, m < n ∧ J m (IntKind.i64.wrap (x13 + 1)) h_2
    else
      R (.bool true) h_2
theorem w_slices_Equal_Lint64_int64 {R : Value → Heap → Prop} {v0 : Value} {v1 : Value} {h : Heap} (hv : F_slices_Equal_Lint64_int64 R v0 v1 h) : CallsH P id_slices_Equal_Lint64_int64 #[v0, v1] h R :=
  callsH_of_vc ctxOk ⟨[(4, [(13, .i .i64)])], []⟩ Tryz.func69 [v0, v1] h R (by kernel_rfl) (Eq.mpr (by kernel_rfl) hv)
/-- slices.IndexFunc[[]int64,int64] -/
def F_slices_IndexFunc_Lint64_int64 (R : Value → Heap → Prop) (v0 : Value) (g1 : Nat) (cap1 : List Value) (h : Heap) : Prop :=
  vLen v0 fun n7 =>
  ∃ J : Nat → Int → Heap → Prop, (∃ n_2, J n_2 0 h) ∧ ∀ (n : Nat) (_ : Env) (x8 : Int) (h_2 : Heap), J n x8 h_2 →
  bif decide ((x8 : Int) < (n7 : Int)) then
    vIdx v0 x8 1 fun p14 =>
    ldI .i64 h_2 p14 fun x15 =>
    vOkf ctx g1 fun _ =>
    CallsH P g1 (([.int .i64 x15] : List Value) ++ cap1).toArray h_2 fun r16 h_3 => ∃ (b16 : Bool), r16 = .bool b16 ∧
    bif b16 then
      R (.int .i64 x8) h_3
    else
      ∃ m, m < n ∧ J m (IntKind.i64.wrap (x8 + 1)) h_3
  else
    R (.int .i64 (-1)) h_2
theorem w_slices_IndexFunc_Lint64_int64 {R : Value → Heap → Prop} {v0 : Value} {g1 : Nat} {cap1 : List Value} {h : Heap} (hv : F_slices_IndexFunc_Lint64_int64 R v0 g1 cap1 h) : CallsH P id_slices_IndexFunc_Lint64_int64 #[v0, .func (.func g1) #[] cap1.toArray] h R :=
  callsH_of_vc ctxOk ⟨[(2, [(8, .i .i64)])], []⟩ Tryz.func98 [v0, .func (.func g1) #[] cap1.toArray] h R (by kernel_rfl) (Eq.mpr (by kernel_rfl) hv)
/-- slices.ContainsFunc[[]int64,int64] -/
def F_slices_ContainsFunc_Lint64_int64 (R : Value → Heap → Prop) (v0 : Value) (g1 : Nat) (cap1 : List Value) (h : Heap) : Prop :=
  CallsH P id_slices_IndexFunc_Lint64_int64 #[v0, .func (.func g1) #[] cap1.toArray] h fun r7 h_2 => ∃ (x7 : Int), r7 = .int .i64 x7 ∧
  R (.bool (decide ((x7 : Int) ≥ 0))) h_2
theorem w_slices_ContainsFunc_Lint64_int64 {R : Value → Heap → Prop} {v0 : Value} {g1 : Nat} {cap1 : List Value} {h : Heap} (hv : F_slices_ContainsFunc_Lint64_int64 R v0 g1 cap1 h) : CallsH P id_slices_ContainsFunc_Lint64_int64 #[v0, .func (.func g1) #[] cap1.toArray] h R :=
  callsH_of_vc ctxOk ⟨[], []⟩ Tryz.func70 [v0, .func (.func g1) #[] cap1.toArray] h R (by kernel_rfl) (Eq.mpr (by kernel_rfl) hv)
/-- impl.isDesignPacking$1 -/
def F_impl_isDesignPacking_1 (R : Value → Heap → Prop) (x0 : Int) (p1 : Addr) (h : Heap) : Prop :=
  ldI .i64 h p1 fun x5 =>
  R (.bool (decide ((x0 : Int) > x5))) h
theorem w_impl_isDesignPacking_1 {R : Value → Heap → Prop} {x0 : Int} {p1 : Addr} {h : Heap} (hv : F_impl_isDesignPacking_1 R x0 p1 h) : CallsH P id_impl_isDesignPacking_1 #[.int .i64 x0, .pointer (some p1)] h R :=
  callsH_of_vc ctxOk ⟨[], []⟩ Tryz.func71 [.int .i64 x0, .pointer (some p1)] h R (by kernel_rfl) (Eq.mpr (by kernel_rfl) hv)
/-- impl.isDesignPacking -/
def F_impl_isDesignPacking (R : Value → Heap → Prop) (x0_0 : Int) (v0_1 : Value) (x1 : Int) (x2 : Int) (h : Heap) : Prop :=
  vNew h (.cells #[.int .i64 x0_0, v0_1] t_impl_Design) fun p3 h_2 =>
  vNew h_2 (.cells #[.int .i64 x2] t_int64) fun p5 h_3 =>
  ldV h_3 (p3.add 1) fun v10 =>
  vLen v10 fun n11 =>
  ∃ J : Nat → Int → Heap → Prop, (∃ n_2, J n_2 0 h_3) ∧ ∀ (n : Nat) (_ : Env) (x12 : Int) (h_4 : Heap), J n x12 h_4 →
  bif decide ((x12 : Int) < (n11 : Int)) then
    vIdx v10 x12 1 fun p15 =>
    ldV h_4 p15 fun v16 =>
    CallsH P id_impl_size_int64 #[v16] h_4 fun r18 h_5 => ∃ (x18 : Int), r18 = .int .i64 x18 ∧
    bif (x18 : Int) != x1 then
      R (.bool false) h_5
    else
      bif decide ((x12 : Int) > 0) then
        ldV h_5 (p3.add 1) fun v26 =>
        vIdx v26 (IntKind.i64.wrap (x12 - 1)) 1 fun p29 =>
        ldV h_5 p29 fun v30 =>
        CallsH P id_slices_Equal_Lint64_int64 #[v30, v16] h_5 fun r32 h_6 => ∃ (b32 : Bool), r32 = .bool b32 ∧
        bif b32 then
          R (.bool false) h_6
        else
          ∃ m, m < n ∧ J m (IntKind.i64.wrap (x12 + 1)) h_6
      else
        ∃ m, m < n ∧ J m (IntKind.i64.wrap (x12 + 1)) h_5
  else
    ldI .i64 h_4 p5 fun x36 =>
    bif decide ((x36 : Int) > 0) then
      ldI .i64 h_4 p3 fun x39_0 =>
      ldV h_4 (p3.add 1) fun v39_1 =>
      CallsH P id_impl_pairCounts #[.agg #[.int .i64 x39_0, v39_1]] h_4 fun r40 h_7 => ∃ (v40 : Value), r40 = v40 ∧
      CallsH P id_slices_ContainsFunc_Lint64_int64 #[v40, .func (.func id_impl_isDesignPacking_1) #[] #[.pointer (some p5)]] h_7 fun r42 h_8 => ∃ (b42 : Bool), r42 = .bool b42 ∧
      R (.bool (!b42)) h_8
    else
      R (.bool false) h_4
theorem w_impl_isDesignPacking {R : Value → Heap → Prop} {x0_0 : Int} {v0_1 : Value} {x1 : Int} {x2 : Int} {h : Heap} (hv : F_impl_isDesignPacking R x0_0 v0_1 x1 x2 h) : CallsH P id_impl_isDesignPacking #[.agg #[.int .i64 x0_0, v0_1], .int .i64 x1, .int .i64 x2] h R :=
  callsH_of_vc ctxOk ⟨[(2, [(12, .i .i64)])], []⟩ Tryz.func40 [.agg #[.int .i64 x0_0, v0_1], .int .i64 x1, .int .i64 x2] h R (by kernel_rfl) (Eq.mpr (by kernel_rfl) hv)
/-- impl.isSearched -/
def F_impl_isSearched (R : Value → Heap → Prop) (x0 : Int) (x1 : Int) (x2 : Int) (h : Heap) : Prop :=
  CallsH P id_impl_within #[.int .i64 x0, .int .i64 2, .int .i64 32] h fun r8 h_2 => ∃ (b8 : Bool), r8 = .bool b8 ∧
  bif b8 then
    CallsH P id_impl_within #[.int .i64 x1, .int .i64 2, .int .i64 x0] h_2 fun r12 h_3 => ∃ (b12 : Bool), r12 = .bool b12 ∧
    bif b12 then
      CallsH P id_impl_within #[.int .i64 x2, .int .i64 1, .int .i64 128] h_3 fun r16 h_4 => ∃ (b16 : Bool), r16 = .bool b16 ∧
      R (.bool b16) h_4
    else
      R (.bool false) h_3
  else
    R (.bool false) h_2
theorem w_impl_isSearched {R : Value → Heap → Prop} {x0 : Int} {x1 : Int} {x2 : Int} {h : Heap} (hv : F_impl_isSearched R x0 x1 x2 h) : CallsH P id_impl_isSearched #[.int .i64 x0, .int .i64 x1, .int .i64 x2] h R :=
  callsH_of_vc ctxOk ⟨[], []⟩ Tryz.func43 [.int .i64 x0, .int .i64 x1, .int .i64 x2] h R (by kernel_rfl) (Eq.mpr (by kernel_rfl) hv)
/-- (impl.load).change -/
def F_impl_load_change (R : Value → Heap → Prop) (v0 : Value) (v1 : Value) (x2 : Int) (h : Heap) : Prop :=
  vLen v1 fun n11 =>
  ∃ J : Nat → Int → Heap → Prop, (∃ n_2, J n_2 0 h) ∧ ∀ (n : Nat) (_ : Env) (x12 : Int) (h_2 : Heap), J n x12 h_2 →
  bif decide ((x12 : Int) < (n11 : Int)) then
    vIdx v1 x12 1 fun p15 =>
    ldI .i64 h_2 p15 fun x16 =>
    vSliceS v1 1 (some (.int .i64 (IntKind.i64.wrap (x12 + 1)))) none none fun v20 =>
    vLen v20 fun n21 =>
    ∃ J_2 : Nat → Int → Heap → Prop, (∃ n_4, J_2 n_4 0 h_2) ∧ ∀ (n_3 : Nat) (_ : Env) (x22 : Int) (h_3 : Heap), J_2 n_3 x22 h_3 →
    bif decide ((x22 : Int) < (n21 : Int)) then
      vIdx v20 x22 1 fun p24 =>
      ldI .i64 h_3 p24 fun x25 =>
      vIdx v0 x16 1 fun p28 =>
      ldV h_3 p28 fun v29 =>
      vIdx v29 x25 1 fun p31 =>
      ldI .i64 h_3 p31 fun x32 =>
      vIdx v29 x25 1 fun p35 =>
      vStore1 h_3 p35 (.int .i64 (IntKind.i64.wrap (x32 + x2))) fun h_4 =>
      ∃ m_2, m_2 < n_3 ∧ J_2 m_2 (IntKind.i64.wrap (x22 + 1)) h_4
    else
      ∃ m, m < n ∧ J m (IntKind.i64.wrap (x12 + 1)) h_3
  else
    R (.tuple #[]) h_2
theorem w_impl_load_change {R : Value → Heap → Prop} {v0 : Value} {v1 : Value} {x2 : Int} {h : Heap} (hv : F_impl_load_change R v0 v1 x2 h) : CallsH P id_impl_load_change #[v0, v1, .int .i64 x2] h R :=
  callsH_of_vc ctxOk ⟨[(1, [(12, .i .i64)]), (4, [(22, .i .i64)])], []⟩ Tryz.func46 [v0, v1, .int .i64 x2] h R (by kernel_rfl) (Eq.mpr (by kernel_rfl) hv)
/-- impl.loadOf -/
def F_impl_loadOf (R : Value → Heap → Prop) (x0_0 : Int) (v0_1 : Value) (h : Heap) : Prop :=
  vNew h (.cells #[.int .i64 x0_0, v0_1] t_impl_Design) fun p1 h_2 =>
  ldI .i64 h_2 p1 fun x7 =>
  CallsH P id_impl_emptySquare #[.int .i64 x7] h_2 fun r8 h_3 => ∃ (v8 : Value), r8 = v8 ∧
  ldV h_3 (p1.add 1) fun v10 =>
  vLen v10 fun n11 =>
  ∃ J : Nat → Int → Heap → Prop, (∃ n_2, J n_2 0 h_3) ∧ ∀ (n : Nat) (_ : Env) (x12 : Int) (h_4 : Heap), J n x12 h_4 →
  bif decide ((x12 : Int) < (n11 : Int)) then
    vIdx v10 x12 1 fun p14 =>
    ldV h_4 p14 fun v15 =>
    CallsH P id_impl_load_change #[v8, v15, .int .i64 1] h_4 fun r18 h_5 => r18 = .tuple #[] ∧
    ∃ m, m < n ∧ J m (IntKind.i64.wrap (x12 + 1)) h_5
  else
    R v8 h_4
theorem w_impl_loadOf {R : Value → Heap → Prop} {x0_0 : Int} {v0_1 : Value} {h : Heap} (hv : F_impl_loadOf R x0_0 v0_1 h) : CallsH P id_impl_loadOf #[.agg #[.int .i64 x0_0, v0_1]] h R :=
  callsH_of_vc ctxOk ⟨[(3, [(12, .i .i64)])], []⟩ Tryz.func44 [.agg #[.int .i64 x0_0, v0_1]] h R (by kernel_rfl) (Eq.mpr (by kernel_rfl) hv)
/-- impl.isBudget -/
def F_impl_isBudget (R : Value → Heap → Prop) (x0 : Int) (h : Heap) : Prop :=
  CallsH P id_impl_within #[.int .i64 x0, .int .i64 1, .int .i64 20000] h fun r4 h_2 => ∃ (b4 : Bool), r4 = .bool b4 ∧
  R (.bool b4) h_2
theorem w_impl_isBudget {R : Value → Heap → Prop} {x0 : Int} {h : Heap} (hv : F_impl_isBudget R x0 h) : CallsH P id_impl_isBudget #[.int .i64 x0] h R :=
  callsH_of_vc ctxOk ⟨[], []⟩ Tryz.func63 [.int .i64 x0] h R (by kernel_rfl) (Eq.mpr (by kernel_rfl) hv)
/-- impl.copyLists -/
def F_impl_copyLists (R : Value → Heap → Prop) (v0 : Value) (h : Heap) : Prop :=
  vLen v0 fun n7 =>
  ∃ J : Nat → Value → Int → Heap → Prop, (∃ n_2, J n_2 (.slice none 0 0) 0 h) ∧ ∀ (n : Nat) (_ : Env) (v3 : Value) (x8 : Int) (h_2 : Heap), J n v3 x8 h_2 →
  bif decide ((x8 : Int) < (n7 : Int)) then
    vIdx v0 x8 1 fun p10 =>
    ldV h_2 p10 fun v11 =>
    CallsH P id_slices_Clone_Lint64_int64 #[v11] h_2 fun r14 h_3 => ∃ (v14 : Value), r14 = v14 ∧
    vOne v14 fun _ =>
    vNewS h_3 (.cells #[v14] t_S_int64) 1 fun v15 h_4 =>
    vAppend 1 24 [.slice none 0 0] t_S_int64 v3 v15 h_4 fun v16 h_5 =>
    ∃ m, m < n ∧ J m v16 (IntKind.i64.wrap (x8 + 1)) h_5
  else
    R v3 h_2
theorem w_impl_copyLists {R : Value → Heap → Prop} {v0 : Value} {h : Heap} (hv : F_impl_copyLists R v0 h) : CallsH P id_impl_copyLists #[v0] h R :=
  callsH_of_vc ctxOk ⟨[(3, [(3, .v), (8, .i .i64)])], []⟩ Tryz.func64 [v0] h R (by kernel_rfl) (Eq.mpr (by kernel_rfl) hv)
/-- impl.hasList$1 -/
def F_impl_hasList_1 (R : Value → Heap → Prop) (v0 : Value) (p1 : Addr) (h : Heap) : Prop :=
  ldV h p1 fun v5 =>
  CallsH P id_slices_Equal_Lint64_int64 #[v0, v5] h fun r6 h_2 => ∃ (b6 : Bool), r6 = .bool b6 ∧
  R (.bool b6) h_2
theorem w_impl_hasList_1 {R : Value → Heap → Prop} {v0 : Value} {p1 : Addr} {h : Heap} (hv : F_impl_hasList_1 R v0 p1 h) : CallsH P id_impl_hasList_1 #[v0, .pointer (some p1)] h R :=
  callsH_of_vc ctxOk ⟨[], []⟩ Tryz.func92 [v0, .pointer (some p1)] h R (by kernel_rfl) (Eq.mpr (by kernel_rfl) hv)
/-- impl.hasList -/
def F_impl_hasList (R : Value → Heap → Prop) (v0 : Value) (v1 : Value) (h : Heap) : Prop :=
  vOne v1 fun _ =>
  vNew h (.cells #[v1] t_S_int64) fun p3 h_2 =>
  CallsH P id_slices_ContainsFunc_LLint64_Lint64 #[v0, .func (.func id_impl_hasList_1) #[] #[.pointer (some p3)]] h_2 fun r7 h_3 => ∃ (b7 : Bool), r7 = .bool b7 ∧
  R (.bool b7) h_3
theorem w_impl_hasList {R : Value → Heap → Prop} {v0 : Value} {v1 : Value} {h : Heap} (hv : F_impl_hasList R v0 v1 h) : CallsH P id_impl_hasList #[v0, v1] h R :=
  callsH_of_vc ctxOk ⟨[], []⟩ Tryz.func65 [v0, v1] h R (by kernel_rfl) (Eq.mpr (by kernel_rfl) hv)
/-- (impl.load).most -/
def F_impl_load_most (R : Value → Heap → Prop) (v0 : Value) (v1 : Value) (h : Heap) : Prop :=
  vLen v1 fun n11 =>
  ∃ J : Nat → Int → Int → Heap → Prop, (∃ n_2, J n_2 0 0 h) ∧ ∀ (n : Nat) (_ : Env) (x5 : Int) (x12 : Int) (h_2 : Heap), J n x5 x12 h_2 →
  bif decide ((x12 : Int) < (n11 : Int)) then
    vIdx v1 x12 1 fun p15 =>
    ldI .i64 h_2 p15 fun x16 =>
    vSliceS v1 1 (some (.int .i64 (IntKind.i64.wrap (x12 + 1)))) none none fun v20 =>
    vLen v20 fun n21 =>
    ∃ J_2 : Nat → Int → Int → Heap → Prop, (∃ n_4, J_2 n_4 x5 0 h_2) ∧ ∀ (n_3 : Nat) (_ : Env) (x5_2 : Int) (x22 : Int) (h_3 : Heap), J_2 n_3 x5_2 x22 h_3 →
    bif decide ((x22 : Int) < (n21 : Int)) then
      vIdx v20 x22 1 fun p24 =>
      ldI .i64 h_3 p24 fun x25 =>
      vIdx v0 x16 1 fun p29 =>
      ldV h_3 p29 fun v30 =>
      vIdx v30 x25 1 fun p32 =>
      ldI .i64 h_3 p32 fun x33 =>
      ∃ m_2, m_2 < n_3 ∧ J_2 m_2 (if (x33 : Int) > x5_2 then x33 else x5_2) (IntKind.i64.wrap (x22 + 1)) h_3
    else
      ∃ m, m < n ∧ J m x5_2 (IntKind.i64.wrap (x12 + 1)) h_3
  else
    R (.int .i64 x5) h_2
theorem w_impl_load_most {R : Value → Heap → Prop} {v0 : Value} {v1 : Value} {h : Heap} (hv : F_impl_load_most R v0 v1 h) : CallsH P id_impl_load_most #[v0, v1] h R :=
  callsH_of_vc ctxOk ⟨[(3, [(5, .i .i64), (12, .i .i64)]), (6, [(5, .i .i64), (22, .i .i64)])], []⟩ Tryz.func45 [v0, v1] h R (by kernel_rfl) (Eq.mpr (by kernel_rfl) hv)
/-- (*impl.counter).node -/
def F_impl_counter_node (R : Value → Heap → Prop) (p0 : Addr) (h : Heap) : Prop :=
  ldI .i64 h p0 fun x6 =>
  bif (x6 : Int) == 0 then
    vStore1 h (p0.add 1) (.bool true) fun h_2 =>
    R (.bool false) h_2
  else
    ldI .i64 h p0 fun x14 =>
    vStore1 h p0 (.int .i64 (IntKind.i64.wrap (x14 - 1))) fun h_3 =>
    R (.bool true) h_3
theorem w_impl_counter_node {R : Value → Heap → Prop} {p0 : Addr} {h : Heap} (hv : F_impl_counter_node R p0 h) : CallsH P id_impl_counter_node #[.pointer (some p0)] h R :=
  callsH_of_vc ctxOk ⟨[], []⟩ Tryz.func93 [.pointer (some p0)] h R (by kernel_rfl) (Eq.mpr (by kernel_rfl) hv)
/-- (*impl.blocker).shortPair -/
def F_impl_blocker_shortPair (R : Value → Heap → Prop) (p0 : Addr) (h : Heap) : Prop :=
  ldV h (p0.add 4) fun v11 =>
  vLen v11 fun n12 =>
  ∃ J : Nat → Int → Heap → Prop, (∃ n_2, J n_2 0 h) ∧ ∀ (n : Nat) (_ : Env) (x13 : Int) (h_2 : Heap), J n x13 h_2 →
  bif decide ((x13 : Int) < (n12 : Int)) then
    vIdx v11 x13 1 fun p16 =>
    ldV h_2 p16 fun v17 =>
    ∃ J_2 : Nat → Int → Heap → Prop, (∃ n_4, J_2 n_4 (IntKind.i64.wrap (x13 + 1)) h_2) ∧ ∀ (n_3 : Nat) (_ : Env) (x7 : Int) (h_3 : Heap), J_2 n_3 x7 h_3 →
    vLen v17 fun n22 =>
    bif decide ((x7 : Int) < (n22 : Int)) then
      vIdx v17 x7 1 fun p28 =>
      ldI .i64 h_3 p28 fun x29 =>
      ldI .i64 h_3 (p0.add 2) fun x33 =>
      bif decide ((x29 : Int) < x33) then
        R (.tuple #[.int .i64 x13, .int .i64 x7, .bool true]) h_3
      else
        ∃ m_2, m_2 < n_3 ∧ J_2 m_2 (IntKind.i64.wrap (x7 + 1)) h_3
    else
      ∃ m, m < n ∧ J m (IntKind.i64.wrap (x13 + 1)) h_3
  else
    R (.tuple #[.int .i64 0, .int .i64 0, .bool false]) h_2
theorem w_impl_blocker_shortPair {R : Value → Heap → Prop} {p0 : Addr} {h : Heap} (hv : F_impl_blocker_shortPair R p0 h) : CallsH P id_impl_blocker_shortPair #[.pointer (some p0)] h R :=
  callsH_of_vc ctxOk ⟨[(2, [(13, .i .i64)]), (5, [(7, .i .i64)])], []⟩ Tryz.func94 [.pointer (some p0)] h R (by kernel_rfl) (Eq.mpr (by kernel_rfl) hv)
/-- slices.Index[[]int64,int64] -/
def F_slices_Index_Lint64_int64 (R : Value → Heap → Prop) (v0 : Value) (x1 : Int) (h : Heap) : Prop :=
  vLen v0 fun n7 =>
  ∃ J : Nat → Int → Heap → Prop, (∃ n_2, J n_2 0 h) ∧ ∀ (n : Nat) (_ : Env) (x8 : Int) (h_2 : Heap), J n x8 h_2 →
  bif decide ((x8 : Int) < (n7 : Int)) then
    vIdx v0 x8 1 fun p14 =>
    ldI .i64 h_2 p14 fun x15 =>
    bif (x1 : Int) == x15 then
      R (.int .i64 x8) h_2
    else
      ∃ m, m < n ∧ J m (IntKind.i64.wrap (x8 + 1)) h_2
  else
    R (.int .i64 (-1)) h_2
theorem w_slices_Index_Lint64_int64 {R : Value → Heap → Prop} {v0 : Value} {x1 : Int} {h : Heap} (hv : F_slices_Index_Lint64_int64 R v0 x1 h) : CallsH P id_slices_Index_Lint64_int64 #[v0, .int .i64 x1] h R :=
  callsH_of_vc ctxOk ⟨[(2, [(8, .i .i64)])], []⟩ Tryz.func117 [v0, .int .i64 x1] h R (by kernel_rfl) (Eq.mpr (by kernel_rfl) hv)
/-- slices.Contains[[]int64,int64] -/
def F_slices_Contains_Lint64_int64 (R : Value → Heap → Prop) (v0 : Value) (x1 : Int) (h : Heap) : Prop :=
  CallsH P id_slices_Index_Lint64_int64 #[v0, .int .i64 x1] h fun r7 h_2 => ∃ (x7 : Int), r7 = .int .i64 x7 ∧
  R (.bool (decide ((x7 : Int) ≥ 0))) h_2
theorem w_slices_Contains_Lint64_int64 {R : Value → Heap → Prop} {v0 : Value} {x1 : Int} {h : Heap} (hv : F_slices_Contains_Lint64_int64 R v0 x1 h) : CallsH P id_slices_Contains_Lint64_int64 #[v0, .int .i64 x1] h R :=
  callsH_of_vc ctxOk ⟨[], []⟩ Tryz.func95 [v0, .int .i64 x1] h R (by kernel_rfl) (Eq.mpr (by kernel_rfl) hv)
/-- (*impl.blocker).search -/
def F_impl_blocker_search (R : Value → Heap → Prop) (p0 : Addr) (x1 : Int) (x2 : Int) (x3 : Int) (h : Heap) : Prop :=
  ∃ J : Heap → Prop, (
    ldB h (p0.add 1) fun b18 =>
    bif b18 then
      R (.tuple #[]) h
    else
      ldB h (p0.add 3) fun b23 =>
      bif b23 then
        ldI .i64 h (p0.add 9) fun x28 =>
        bif decide ((x28 : Int) > 0) then
          R (.tuple #[]) h
        else
          CallsH P id_impl_counter_node #[.pointer (some p0)] h fun r36 h_2 => ∃ (b36 : Bool), r36 = .bool b36 ∧
          bif !b36 then
            R (.tuple #[]) h_2
          else
            J h_2
      else
        CallsH P id_impl_counter_node #[.pointer (some p0)] h fun r36_2 h_3 => ∃ (b36_2 : Bool), r36_2 = .bool b36_2 ∧
        bif !b36_2 then
          R (.tuple #[]) h_3
        else
          J h_3
  ) ∧ ∀ (_ : Env) (h_4 : Heap), J h_4 →
  ldI .i64 h_4 (p0.add 8) fun x42 =>
  vStore1 h_4 (p0.add 8) (.int .i64 (IntKind.i64.wrap (x42 + 1))) fun h_5 =>
  CallsH P id_impl_blocker_shortPair #[.pointer (some p0)] h_5 fun r48 h_6 => ∃ (x48_0 : Int), ∃ (x48_1 : Int), ∃ (b48_2 : Bool), r48 = .tuple #[.int .i64 x48_0, .int .i64 x48_1, .bool b48_2] ∧
  bif !b48_2 then
    ldI .i64 h_6 (p0.add 9) fun x57 =>
    vStore1 h_6 (p0.add 9) (.int .i64 (IntKind.i64.wrap (x57 + 1))) fun h_7 =>
    ldI .i64 h_7 (p0.add 9) fun x64 =>
    bif (x64 : Int) == 1 then
      ldV h_7 (p0.add 7) fun v70 =>
      CallsH P id_impl_copyLists #[v70] h_7 fun r71 h_8 => ∃ (v71 : Value), r71 = v71 ∧
      vStore1 h_8 (p0.add 10) v71 fun h_9 =>
      R (.tuple #[]) h_9
    else
      R (.tuple #[]) h_7
  else
    ∃ J_2 : Int → Heap → Prop, (
      bif (x48_0 : Int) == x2 then
        bif (x48_1 : Int) == x3 then
          J_2 (IntKind.i64.wrap (x1 + 1)) h_6
        else
          J_2 0 h_6
      else
        J_2 0 h_6
    ) ∧ ∀ (_ : Env) (x11 : Int) (h_10 : Heap), J_2 x11 h_10 →
    ∃ J_3 : Nat → Int → Heap → Prop, (∃ n_2, J_3 n_2 x11 h_10) ∧ ∀ (n : Nat) (_ : Env) (x12 : Int) (h_11 : Heap), J_3 n x12 h_11 →
    ldV h_11 (p0.add 5) fun v89 =>
    vLen v89 fun n90 =>
    bif decide ((x12 : Int) < (n90 : Int)) then
      ldV h_11 (p0.add 5) fun v97 =>
      vIdx v97 x12 1 fun p99 =>
      ldV h_11 p99 fun v100 =>
      ∃ J_4 : Heap → Prop, (
        ldV h_11 (p0.add 6) fun v104 =>
        vIdx v104 x12 1 fun p106 =>
        ldB h_11 p106 fun b107 =>
        bif b107 then
          ∃ m, m < n ∧ J_3 m (IntKind.i64.wrap (x12 + 1)) h_11
        else
          CallsH P id_slices_Contains_Lint64_int64 #[v100, .int .i64 x48_0] h_11 fun r111 h_12 => ∃ (b111 : Bool), r111 = .bool b111 ∧
          ExtH h_11 h_12 ∧
          bif !b111 then
            ∃ m, m < n ∧ J_3 m (IntKind.i64.wrap (x12 + 1)) h_12
          else
            CallsH P id_slices_Contains_Lint64_int64 #[v100, .int .i64 x48_1] h_12 fun r117 h_13 => ∃ (b117 : Bool), r117 = .bool b117 ∧
            ExtH h_11 h_13 ∧
            bif !b117 then
              ∃ m, m < n ∧ J_3 m (IntKind.i64.wrap (x12 + 1)) h_13
            else
              ldV h_13 (p0.add 4) fun v124 =>
              CallsH P id_impl_load_most #[v124, v100] h_13 fun r126 h_14 => ∃ (x126 : Int), r126 = .int .i64 x126 ∧
              ExtH h_11 h_14 ∧
              ldI .i64 h_11 (p0.add 2) fun x130 =>
              bif decide ((x126 : Int) ≥ x130) then
                ∃ m, m < n ∧ J_3 m (IntKind.i64.wrap (x12 + 1)) h_14
              else
                J_4 h_14
      ) ∧ ∀ (_ : Env) (h_15 : Heap), J_4 h_15 →
      ldV h_15 (p0.add 6) fun v136 =>
      vIdx v136 x12 1 fun p138 =>
      vStore1 h_15 p138 (.bool true) fun h_16 =>
      ldV h_16 (p0.add 4) fun v142 =>
      CallsH P id_impl_load_change #[v142, v100, .int .i64 1] h_16 fun r144 h_17 => r144 = .tuple #[] ∧
      ldV h_17 (p0.add 7) fun v149 =>
      vOne v100 fun _ =>
      vNewS h_17 (.cells #[v100] t_S_int64) 1 fun v151 h_18 =>
      vAppend 1 24 [.slice none 0 0] t_S_int64 v149 v151 h_18 fun v152 h_19 =>
      vStore1 h_19 (p0.add 7) v152 fun h_20 =>
      CallsH P id_impl_blocker_search #[.pointer (some p0), .int .i64 x12, .int .i64 x48_0, .int .i64 x48_1] h_20 fun r159 h_21 => r159 = .tuple #[] ∧
      ldV h_21 (p0.add 7) fun v164 =>
      ldV h_21 (p0.add 7) fun v168 =>
      vLen v168 fun n169 =>
      vSliceS v164 1 none (some (.int .i64 (IntKind.i64.wrap ((n169 : Int) - 1)))) none fun v171 =>
      vStore1 h_21 (p0.add 7) v171 fun h_22 =>
      ldV h_22 (p0.add 4) fun v177 =>
      CallsH P id_impl_load_change #[v177, v100, .int .i64 (-1)] h_22 fun r179 h_23 => r179 = .tuple #[] ∧
      ldV h_23 (p0.add 6) fun v183 =>
      vIdx v183 x12 1 fun p185 =>
      vStore1 h_23 p185 (.bool false) fun h_24 =>
      ∃ m, m < n ∧ J_3 m (IntKind.i64.wrap (x12 + 1)) h_24
    else
      R (.tuple #[]) h_11
theorem w_impl_blocker_search {R : Value → Heap → Prop} {p0 : Addr} {x1 : Int} {x2 : Int} {x3 : Int} {h : Heap} (hv : F_impl_blocker_search R p0 x1 x2 x3 h) : CallsH P id_impl_blocker_search #[.pointer (some p0), .int .i64 x1, .int .i64 x2, .int .i64 x3] h R :=
  callsH_of_vc ctxOk ⟨[(11, [(12, .i .i64)])], [(1, []), (10, [(11, .i .i64)]), (15, [])]⟩ Tryz.func66 [.pointer (some p0), .int .i64 x1, .int .i64 x2, .int .i64 x3] h R (by kernel_rfl) (Eq.mpr (by kernel_rfl) hv)
/-- impl.completed -/
def F_impl_completed (R : Value → Heap → Prop) (x0_0 : Int) (v0_1 : Value) (x1 : Int) (x2 : Int) (x3 : Int) (b4 : Bool) (h : Heap) : Prop :=
  vNew h (.cells #[.int .i64 x0_0, v0_1] t_impl_Design) fun p5 h_2 =>
  ∃ J : Heap → Prop, (
    ∃ J_2 : Bool → Heap → Prop, (
      CallsH P id_impl_isBudget #[.int .i64 x3] h_2 fun r17 h_3 => ∃ (b17 : Bool), r17 = .bool b17 ∧
      bif !b17 then
        J_2 true h_3
      else
        ldI .i64 h_3 p5 fun x21 =>
        CallsH P id_impl_isSearched #[.int .i64 x21, .int .i64 x1, .int .i64 x2] h_3 fun r24 h_4 => ∃ (b24 : Bool), r24 = .bool b24 ∧
        J_2 (!b24) h_4
    ) ∧ ∀ (_ : Env) (b15 : Bool) (h_5 : Heap), J_2 b15 h_5 →
    bif b15 then
      R (.tuple #[(.pointer none), .int .i64 2]) h_5
    else
      ldI .i64 h_5 p5 fun x29 =>
      CallsH P id_impl_Choose #[.int .i64 x29, .int .i64 x1] h_5 fun r31 h_6 => ∃ (x31 : Int), r31 = .int .i64 x31 ∧
      bif decide ((x31 : Int) > 1500) then
        R (.tuple #[(.pointer none), .int .i64 5]) h_6
      else
        ldI .i64 h_6 p5 fun x34_0 =>
        ldV h_6 (p5.add 1) fun v34_1 =>
        CallsH P id_impl_isDesignPacking #[.agg #[.int .i64 x34_0, v34_1], .int .i64 x1, .int .i64 x2] h_6 fun r37 h_7 => ∃ (b37 : Bool), r37 = .bool b37 ∧
        bif !b37 then
          R (.tuple #[(.pointer none), .int .i64 6]) h_7
        else
          J h_7
  ) ∧ ∀ (_ : Env) (h_8 : Heap), J h_8 →
  ldI .i64 h_8 p5 fun x43_0 =>
  ldV h_8 (p5.add 1) fun v43_1 =>
  CallsH P id_impl_loadOf #[.agg #[.int .i64 x43_0, v43_1]] h_8 fun r44 h_9 => ∃ (v44 : Value), r44 = v44 ∧
  ExtH h_8 h_9 ∧
  ldI .i64 h_8 p5 fun x46 =>
  CallsH P id_impl_allSubsets #[.int .i64 x46, .int .i64 x1] h_9 fun r48 h_10 => ∃ (v48 : Value), r48 = v48 ∧
  ExtH h_8 h_10 ∧
  ldV h_8 (p5.add 1) fun v50 =>
  CallsH P id_impl_copyLists #[v50] h_10 fun r51 h_11 => ∃ (v51 : Value), r51 = v51 ∧
  vOne v44 fun _ =>
  vOne v48 fun _ =>
  vOne v51 fun _ =>
  vNew h_11 (.cells #[.int .i64 x3, .bool false, .int .i64 x2, .bool b4, v44, v48, (.slice none 0 0), v51, .int .i64 0, .int .i64 0, (.slice none 0 0)] t_impl_blocker) fun p53 h_12 =>
  ldV h_12 (p53.add 5) fun v57 =>
  vLen v57 fun n58 =>
  ∃ J_3 : Nat → Int → Heap → Prop, (∃ n_2, J_3 n_2 0 h_12) ∧ ∀ (n : Nat) (_ : Env) (x59 : Int) (h_13 : Heap), J_3 n x59 h_13 →
  bif decide ((x59 : Int) < (n58 : Int)) then
    vIdx v57 x59 1 fun p61 =>
    ldV h_13 p61 fun v62 =>
    ldV h_13 (p5.add 1) fun v69 =>
    CallsH P id_impl_hasList #[v69, v62] h_13 fun r71 h_14 => ∃ (b71 : Bool), r71 = .bool b71 ∧
    ExtH h_13 h_14 ∧
    vNewS h_14 (.cells #[.bool b71] t_bool) 1 fun v72 h_15 =>
    ExtH h_13 h_15 ∧
    ldV h_13 (p53.add 6) fun v67 =>
    vAppend 1 1 [.bool false] t_bool v67 v72 h_15 fun v73 h_16 =>
    vStore1 h_16 (p53.add 6) v73 fun h_17 =>
    ∃ m, m < n ∧ J_3 m (IntKind.i64.wrap (x59 + 1)) h_17
  else
    CallsH P id_impl_blocker_search #[.pointer (some p53), .int .i64 (-1), .int .i64 (-1), .int .i64 (-1)] h_13 fun r78 h_18 => r78 = .tuple #[] ∧
    ldB h_18 (p53.add 1) fun b83 =>
    bif b83 then
      R (.tuple #[(.pointer none), .int .i64 5]) h_18
    else
      R (.tuple #[.pointer (some p53), .int .i64 0]) h_18
theorem w_impl_completed {R : Value → Heap → Prop} {x0_0 : Int} {v0_1 : Value} {x1 : Int} {x2 : Int} {x3 : Int} {b4 : Bool} {h : Heap} (hv : F_impl_completed R x0_0 v0_1 x1 x2 x3 b4 h) : CallsH P id_impl_completed #[.agg #[.int .i64 x0_0, v0_1], .int .i64 x1, .int .i64 x2, .int .i64 x3, .bool b4] h R :=
  callsH_of_vc ctxOk ⟨[(9, [(59, .i .i64)])], [(2, [(15, .b)]), (7, [])]⟩ Tryz.func38 [.agg #[.int .i64 x0_0, v0_1], .int .i64 x1, .int .i64 x2, .int .i64 x3, .bool b4] h R (by kernel_rfl) (Eq.mpr (by kernel_rfl) hv)
/-- impl.sorted -/
def F_impl_sorted (R : Value → Heap → Prop) (x0 : Int) (v1 : Value) (h : Heap) : Prop :=
  vNew h (.cells #[.int .i64 0, .slice none 0 0] t_impl_Design) fun p4 h_2 =>
  vLen v1 fun n8 =>
  bif decide (((n8 : Int) : Int) > 128) then
    vStore1 h_2 p4 (.int .i64 0) fun h_3 =>
    vStore1 h_3 (p4.add 1) (.slice none 0 0) fun h_4 =>
    ldI .i64 h_4 p4 fun xres0_0 =>
    ldV h_4 (p4.add 1) fun vres0_1 =>
    R (.tuple #[.agg #[.int .i64 xres0_0, vres0_1], .int .i64 5]) h_4
  else
    CallsH P id_impl_copyLists #[v1] h_2 fun r13 h_5 => ∃ (v13 : Value), r13 = v13 ∧
    vOne v13 fun _ =>
    vNew h_5 (.cells #[.int .i64 0, .slice none 0 0] t_impl_Design) fun p6 h_6 =>
    vStore1 h_6 p6 (.int .i64 x0) fun h_7 =>
    vStore1 h_7 (p6.add 1) v13 fun h_8 =>
    ldV h_8 (p6.add 1) fun v16 =>
    CallsH P id_slices_SortFunc_LLint64_Lint64 #[v16, .func (.func id_slices_Compare_Lint64_int64) #[] #[]] h_8 fun r17 h_9 => r17 = .tuple #[] ∧
    ldI .i64 h_9 p6 fun x18_0 =>
    ldV h_9 (p6.add 1) fun v18_1 =>
    vStore1 h_9 p4 (.int .i64 x18_0) fun h_10 =>
    vStore1 h_10 (p4.add 1) v18_1 fun h_11 =>
    ldI .i64 h_11 p4 fun xres0_0_2 =>
    ldV h_11 (p4.add 1) fun vres0_1_2 =>
    R (.tuple #[.agg #[.int .i64 xres0_0_2, vres0_1_2], .int .i64 0]) h_11
theorem w_impl_sorted {R : Value → Heap → Prop} {x0 : Int} {v1 : Value} {h : Heap} (hv : F_impl_sorted R x0 v1 h) : CallsH P id_impl_sorted #[.int .i64 x0, v1] h R :=
  callsH_of_vc ctxOk ⟨[], []⟩ Tryz.func47 [.int .i64 x0, v1] h R (by kernel_rfl) (Eq.mpr (by kernel_rfl) hv)
/-- impl.firstCompletion -/
def F_impl_firstCompletion (R : Value → Heap → Prop) (x0_0 : Int) (v0_1 : Value) (x1 : Int) (x2 : Int) (x3 : Int) (h : Heap) : Prop :=
  vNew h (.cells #[.int .i64 x0_0, v0_1] t_impl_Design) fun p4 h_2 =>
  vNew h_2 (.cells #[.int .i64 0, .slice none 0 0] t_impl_Design) fun p8 h_3 =>
  ldI .i64 h_3 p4 fun x13_0 =>
  ldV h_3 (p4.add 1) fun v13_1 =>
  CallsH P id_impl_completed #[.agg #[.int .i64 x13_0, v13_1], .int .i64 x1, .int .i64 x2, .int .i64 x3, .bool true] h_3 fun r17 h_4 => ∃ (v17_0 : Value), ∃ (x17_1 : Int), r17 = .tuple #[v17_0, .int .i64 x17_1] ∧
  bif (x17_1 : Int) != 0 then
    vStore1 h_4 p8 (.int .i64 0) fun h_5 =>
    vStore1 h_5 (p8.add 1) (.slice none 0 0) fun h_6 =>
    ldI .i64 h_6 p8 fun xres0_0 =>
    ldV h_6 (p8.add 1) fun vres0_1 =>
    R (.tuple #[.agg #[.int .i64 xres0_0, vres0_1], .int .i64 x17_1]) h_6
  else
    vNilQ v17_0 (fun _ _ _ => False) fun p25 =>
    ldI .i64 h_4 (p25.add 9) fun x27 =>
    bif (x27 : Int) == 0 then
      vStore1 h_4 p8 (.int .i64 0) fun h_7 =>
      vStore1 h_7 (p8.add 1) (.slice none 0 0) fun h_8 =>
      ldI .i64 h_8 p8 fun xres0_0_2 =>
      ldV h_8 (p8.add 1) fun vres0_1_2 =>
      R (.tuple #[.agg #[.int .i64 xres0_0_2, vres0_1_2], .int .i64 3]) h_8
    else
      ldI .i64 h_4 p4 fun x31 =>
      vNilQ v17_0 (fun _ _ _ => False) fun p33 =>
      ldV h_4 (p33.add 10) fun v35 =>
      CallsH P id_impl_sorted #[.int .i64 x31, v35] h_4 fun r36 h_9 => ∃ (x36_0_0 : Int), ∃ (v36_0_1 : Value), ∃ (x36_1 : Int), r36 = .tuple #[.agg #[.int .i64 x36_0_0, v36_0_1], .int .i64 x36_1] ∧
      vStore1 h_9 p8 (.int .i64 x36_0_0) fun h_10 =>
      vStore1 h_10 (p8.add 1) v36_0_1 fun h_11 =>
      ldI .i64 h_11 p8 fun xres0_0_3 =>
      ldV h_11 (p8.add 1) fun vres0_1_3 =>
      R (.tuple #[.agg #[.int .i64 xres0_0_3, vres0_1_3], .int .i64 x36_1]) h_11
theorem w_impl_firstCompletion {R : Value → Heap → Prop} {x0_0 : Int} {v0_1 : Value} {x1 : Int} {x2 : Int} {x3 : Int} {h : Heap} (hv : F_impl_firstCompletion R x0_0 v0_1 x1 x2 x3 h) : CallsH P id_impl_firstCompletion #[.agg #[.int .i64 x0_0, v0_1], .int .i64 x1, .int .i64 x2, .int .i64 x3] h R :=
  callsH_of_vc ctxOk ⟨[], []⟩ Tryz.func27 [.agg #[.int .i64 x0_0, v0_1], .int .i64 x1, .int .i64 x2, .int .i64 x3] h R (by kernel_rfl) (Eq.mpr (by kernel_rfl) hv)
/-- impl.CompleteDesign -/
def F_impl_CompleteDesign (R : Value → Heap → Prop) (x0_0 : Int) (v0_1 : Value) (x1 : Int) (x2 : Int) (x3 : Int) (h : Heap) : Prop :=
  vNew h (.cells #[.int .i64 x0_0, v0_1] t_impl_Design) fun p4 h_2 =>
  vNew h_2 (.cells #[.int .i64 0, .slice none 0 0] t_impl_Design) fun p8 h_3 =>
  ldI .i64 h_3 p4 fun x10_0 =>
  ldV h_3 (p4.add 1) fun v10_1 =>
  CallsH P id_impl_ValidDesign #[.agg #[.int .i64 x10_0, v10_1]] h_3 fun r11 h_4 => ∃ (b11 : Bool), r11 = .bool b11 ∧
  bif !b11 then
    vStore1 h_4 p8 (.int .i64 0) fun h_5 =>
    vStore1 h_5 (p8.add 1) (.slice none 0 0) fun h_6 =>
    ldI .i64 h_6 p8 fun xres0_0 =>
    ldV h_6 (p8.add 1) fun vres0_1 =>
    R (.tuple #[.agg #[.int .i64 xres0_0, vres0_1], .int .i64 1]) h_6
  else
    ldI .i64 h_4 p4 fun x14_0 =>
    ldV h_4 (p4.add 1) fun v14_1 =>
    CallsH P id_impl_firstCompletion #[.agg #[.int .i64 x14_0, v14_1], .int .i64 x1, .int .i64 x2, .int .i64 x3] h_4 fun r18 h_7 => ∃ (x18_0_0 : Int), ∃ (v18_0_1 : Value), ∃ (x18_1 : Int), r18 = .tuple #[.agg #[.int .i64 x18_0_0, v18_0_1], .int .i64 x18_1] ∧
    vStore1 h_7 p8 (.int .i64 x18_0_0) fun h_8 =>
    vStore1 h_8 (p8.add 1) v18_0_1 fun h_9 =>
    ldI .i64 h_9 p8 fun xres0_0_2 =>
    ldV h_9 (p8.add 1) fun vres0_1_2 =>
    R (.tuple #[.agg #[.int .i64 xres0_0_2, vres0_1_2], .int .i64 x18_1]) h_9
theorem w_impl_CompleteDesign {R : Value → Heap → Prop} {x0_0 : Int} {v0_1 : Value} {x1 : Int} {x2 : Int} {x3 : Int} {h : Heap} (hv : F_impl_CompleteDesign R x0_0 v0_1 x1 x2 x3 h) : CallsH P id_impl_CompleteDesign #[.agg #[.int .i64 x0_0, v0_1], .int .i64 x1, .int .i64 x2, .int .i64 x3] h R :=
  callsH_of_vc ctxOk ⟨[], []⟩ Tryz.func8 [.agg #[.int .i64 x0_0, v0_1], .int .i64 x1, .int .i64 x2, .int .i64 x3] h R (by kernel_rfl) (Eq.mpr (by kernel_rfl) hv)
/-- laws.eqInt64S -/
def F_laws_eqInt64S (R : Value → Heap → Prop) (v0 : Value) (v1 : Value) (h : Heap) : Prop :=
  vLen v0 fun n7 =>
  vLen v1 fun n9 =>
  bif ((n7 : Int) : Int) != (n9 : Int) then
    R (.bool false) h
  else
    ∃ J : Nat → Int → Heap → Prop, (∃ n_2, J n_2 0 h) ∧ ∀ (n : Nat) (_ : Env) (x5 : Int) (h_2 : Heap), J n x5 h_2 →
    vLen v0 fun n13 =>
    bif decide ((x5 : Int) < (n13 : Int)) then
      vIdx v0 x5 1 fun p19 =>
      ldI .i64 h_2 p19 fun x20 =>
      vIdx v1 x5 1 fun p23 =>
      ldI .i64 h_2 p23 fun x24 =>
      bif (x20 : Int) != x24 then
        R (.bool false) h_2
      else
        ∃ m, m < n ∧ J m (IntKind.i64.wrap (x5 + 1)) h_2
    else
      R (.bool true) h_2
theorem w_laws_eqInt64S {R : Value → Heap → Prop} {v0 : Value} {v1 : Value} {h : Heap} (hv : F_laws_eqInt64S R v0 v1 h) : CallsH P id_laws_eqInt64S #[v0, v1] h R :=
  callsH_of_vc ctxOk ⟨[(4, [(5, .i .i64)])], []⟩ Tryz.func55 [v0, v1] h R (by kernel_rfl) (Eq.mpr (by kernel_rfl) hv)
/-- laws.eqInt64SS -/
def F_laws_eqInt64SS (R : Value → Heap → Prop) (v0 : Value) (v1 : Value) (h : Heap) : Prop :=
  vLen v0 fun n7 =>
  vLen v1 fun n9 =>
  bif ((n7 : Int) : Int) != (n9 : Int) then
    R (.bool false) h
  else
    ∃ J : Nat → Int → Heap → Prop, (∃ n_2, J n_2 0 h) ∧ ∀ (n : Nat) (_ : Env) (x5 : Int) (h_2 : Heap), J n x5 h_2 →
    vLen v0 fun n13 =>
    bif decide ((x5 : Int) < (n13 : Int)) then
      vIdx v0 x5 1 fun p19 =>
      ldV h_2 p19 fun v20 =>
      vIdx v1 x5 1 fun p23 =>
      ldV h_2 p23 fun v24 =>
      CallsH P id_laws_eqInt64S #[v20, v24] h_2 fun r25 h_3 => ∃ (b25 : Bool), r25 = .bool b25 ∧
      bif !b25 then
        R (.bool false) h_3
      else
        ∃ m, m < n ∧ J m (IntKind.i64.wrap (x5 + 1)) h_3
    else
      R (.bool true) h_2
theorem w_laws_eqInt64SS {R : Value → Heap → Prop} {v0 : Value} {v1 : Value} {h : Heap} (hv : F_laws_eqInt64SS R v0 v1 h) : CallsH P id_laws_eqInt64SS #[v0, v1] h R :=
  callsH_of_vc ctxOk ⟨[(4, [(5, .i .i64)])], []⟩ Tryz.func28 [v0, v1] h R (by kernel_rfl) (Eq.mpr (by kernel_rfl) hv)
/-- laws.eqDesign -/
def F_laws_eqDesign (R : Value → Heap → Prop) (x0_0 : Int) (v0_1 : Value) (x1_0 : Int) (v1_1 : Value) (h : Heap) : Prop :=
  vNew h (.cells #[.int .i64 x0_0, v0_1] t_impl_Design) fun p2 h_2 =>
  vNew h_2 (.cells #[.int .i64 x1_0, v1_1] t_impl_Design) fun p3 h_3 =>
  ldI .i64 h_3 p2 fun x6 =>
  ldI .i64 h_3 p3 fun x8 =>
  bif (x6 : Int) != x8 then
    R (.bool false) h_3
  else
    ldV h_3 (p2.add 1) fun v11 =>
    ldV h_3 (p3.add 1) fun v13 =>
    CallsH P id_laws_eqInt64SS #[v11, v13] h_3 fun r14 h_4 => ∃ (b14 : Bool), r14 = .bool b14 ∧
    bif !b14 then
      R (.bool false) h_4
    else
      R (.bool true) h_4
theorem w_laws_eqDesign {R : Value → Heap → Prop} {x0_0 : Int} {v0_1 : Value} {x1_0 : Int} {v1_1 : Value} {h : Heap} (hv : F_laws_eqDesign R x0_0 v0_1 x1_0 v1_1 h) : CallsH P id_laws_eqDesign #[.agg #[.int .i64 x0_0, v0_1], .agg #[.int .i64 x1_0, v1_1]] h R :=
  callsH_of_vc ctxOk ⟨[], []⟩ Tryz.func9 [.agg #[.int .i64 x0_0, v0_1], .agg #[.int .i64 x1_0, v1_1]] h R (by kernel_rfl) (Eq.mpr (by kernel_rfl) hv)
/-- laws.markInt64S -/
def F_laws_markInt64S (R : Value → Heap → Prop) (v0 : Value) (x1 : Int) (h : Heap) : Prop :=
  ∃ J : Nat → Int → Int → Heap → Prop, (∃ n_2, J n_2 x1 0 h) ∧ ∀ (n : Nat) (_ : Env) (x1_2 : Int) (x5 : Int) (h_2 : Heap), J n x1_2 x5 h_2 →
  vLen v0 fun n8 =>
  bif decide ((x5 : Int) < (n8 : Int)) then
    vIdx v0 x5 1 fun p15 =>
    vStore1 h_2 p15 (.int .i64 x1_2) fun h_3 =>
    ∃ m, m < n ∧ J m (IntKind.i64.wrap (x1_2 + 1)) (IntKind.i64.wrap (x5 + 1)) h_3
  else
    R (.int .i64 x1_2) h_2
theorem w_laws_markInt64S {R : Value → Heap → Prop} {v0 : Value} {x1 : Int} {h : Heap} (hv : F_laws_markInt64S R v0 x1 h) : CallsH P id_laws_markInt64S #[v0, .int .i64 x1] h R :=
  callsH_of_vc ctxOk ⟨[(2, [(1, .i .i64), (5, .i .i64)])], []⟩ Tryz.func56 [v0, .int .i64 x1] h R (by kernel_rfl) (Eq.mpr (by kernel_rfl) hv)
/-- laws.markInt64SS -/
def F_laws_markInt64SS (R : Value → Heap → Prop) (v0 : Value) (x1 : Int) (h : Heap) : Prop :=
  ∃ J : Nat → Int → Int → Heap → Prop, (∃ n_2, J n_2 x1 0 h) ∧ ∀ (n : Nat) (_ : Env) (x1_2 : Int) (x5 : Int) (h_2 : Heap), J n x1_2 x5 h_2 →
  vLen v0 fun n8 =>
  bif decide ((x5 : Int) < (n8 : Int)) then
    vIdx v0 x5 1 fun p14 =>
    ldV h_2 p14 fun v15 =>
    CallsH P id_laws_markInt64S #[v15, .int .i64 x1_2] h_2 fun r17 h_3 => ∃ (x17 : Int), r17 = .int .i64 x17 ∧
    ∃ m, m < n ∧ J m x17 (IntKind.i64.wrap (x5 + 1)) h_3
  else
    R (.int .i64 x1_2) h_2
theorem w_laws_markInt64SS {R : Value → Heap → Prop} {v0 : Value} {x1 : Int} {h : Heap} (hv : F_laws_markInt64SS R v0 x1 h) : CallsH P id_laws_markInt64SS #[v0, .int .i64 x1] h R :=
  callsH_of_vc ctxOk ⟨[(2, [(1, .i .i64), (5, .i .i64)])], []⟩ Tryz.func29 [v0, .int .i64 x1] h R (by kernel_rfl) (Eq.mpr (by kernel_rfl) hv)
/-- laws.markDesign -/
def F_laws_markDesign (R : Value → Heap → Prop) (x0_0 : Int) (v0_1 : Value) (x1 : Int) (h : Heap) : Prop :=
  vNew h (.cells #[.int .i64 x0_0, v0_1] t_impl_Design) fun p2 h_2 =>
  ldV h_2 (p2.add 1) fun v6 =>
  CallsH P id_laws_markInt64SS #[v6, .int .i64 x1] h_2 fun r8 h_3 => ∃ (x8 : Int), r8 = .int .i64 x8 ∧
  R (.int .i64 x8) h_3
theorem w_laws_markDesign {R : Value → Heap → Prop} {x0_0 : Int} {v0_1 : Value} {x1 : Int} {h : Heap} (hv : F_laws_markDesign R x0_0 v0_1 x1 h) : CallsH P id_laws_markDesign #[.agg #[.int .i64 x0_0, v0_1], .int .i64 x1] h R :=
  callsH_of_vc ctxOk ⟨[], []⟩ Tryz.func10 [.agg #[.int .i64 x0_0, v0_1], .int .i64 x1] h R (by kernel_rfl) (Eq.mpr (by kernel_rfl) hv)
/-- laws.heldInt64S -/
def F_laws_heldInt64S (R : Value → Heap → Prop) (v0 : Value) (x1 : Int) (h : Heap) : Prop :=
  ∃ J : Nat → Int → Int → Heap → Prop, (∃ n_2, J n_2 x1 0 h) ∧ ∀ (n : Nat) (_ : Env) (x1_2 : Int) (x5 : Int) (h_2 : Heap), J n x1_2 x5 h_2 →
  vLen v0 fun n8 =>
  bif decide ((x5 : Int) < (n8 : Int)) then
    vIdx v0 x5 1 fun p14 =>
    ldI .i64 h_2 p14 fun x15 =>
    bif (x15 : Int) != x1_2 then
      R (.int .i64 (-1)) h_2
    else
      ∃ m, m < n ∧ J m (IntKind.i64.wrap (x1_2 + 1)) (IntKind.i64.wrap (x5 + 1)) h_2
  else
    R (.int .i64 x1_2) h_2
theorem w_laws_heldInt64S {R : Value → Heap → Prop} {v0 : Value} {x1 : Int} {h : Heap} (hv : F_laws_heldInt64S R v0 x1 h) : CallsH P id_laws_heldInt64S #[v0, .int .i64 x1] h R :=
  callsH_of_vc ctxOk ⟨[(2, [(1, .i .i64), (5, .i .i64)])], []⟩ Tryz.func57 [v0, .int .i64 x1] h R (by kernel_rfl) (Eq.mpr (by kernel_rfl) hv)
/-- laws.heldInt64SS -/
def F_laws_heldInt64SS (R : Value → Heap → Prop) (v0 : Value) (x1 : Int) (h : Heap) : Prop :=
  ∃ J : Nat → Int → Int → Heap → Prop, (∃ n_2, J n_2 x1 0 h) ∧ ∀ (n : Nat) (_ : Env) (x1_2 : Int) (x5 : Int) (h_2 : Heap), J n x1_2 x5 h_2 →
  vLen v0 fun n8 =>
  bif decide ((x5 : Int) < (n8 : Int)) then
    vIdx v0 x5 1 fun p14 =>
    ldV h_2 p14 fun v15 =>
    CallsH P id_laws_heldInt64S #[v15, .int .i64 x1_2] h_2 fun r17 h_3 => ∃ (x17 : Int), r17 = .int .i64 x17 ∧
    bif decide ((x17 : Int) < 0) then
      R (.int .i64 (-1)) h_3
    else
      ∃ m, m < n ∧ J m x17 (IntKind.i64.wrap (x5 + 1)) h_3
  else
    R (.int .i64 x1_2) h_2
theorem w_laws_heldInt64SS {R : Value → Heap → Prop} {v0 : Value} {x1 : Int} {h : Heap} (hv : F_laws_heldInt64SS R v0 x1 h) : CallsH P id_laws_heldInt64SS #[v0, .int .i64 x1] h R :=
  callsH_of_vc ctxOk ⟨[(2, [(1, .i .i64), (5, .i .i64)])], []⟩ Tryz.func30 [v0, .int .i64 x1] h R (by kernel_rfl) (Eq.mpr (by kernel_rfl) hv)
/-- laws.heldDesign -/
def F_laws_heldDesign (R : Value → Heap → Prop) (x0_0 : Int) (v0_1 : Value) (x1 : Int) (h : Heap) : Prop :=
  vNew h (.cells #[.int .i64 x0_0, v0_1] t_impl_Design) fun p2 h_2 =>
  ldV h_2 (p2.add 1) fun v6 =>
  CallsH P id_laws_heldInt64SS #[v6, .int .i64 x1] h_2 fun r8 h_3 => ∃ (x8 : Int), r8 = .int .i64 x8 ∧
  bif decide ((x8 : Int) < 0) then
    R (.int .i64 (-1)) h_3
  else
    R (.int .i64 x8) h_3
theorem w_laws_heldDesign {R : Value → Heap → Prop} {x0_0 : Int} {v0_1 : Value} {x1 : Int} {h : Heap} (hv : F_laws_heldDesign R x0_0 v0_1 x1 h) : CallsH P id_laws_heldDesign #[.agg #[.int .i64 x0_0, v0_1], .int .i64 x1] h R :=
  callsH_of_vc ctxOk ⟨[], []⟩ Tryz.func11 [.agg #[.int .i64 x0_0, v0_1], .int .i64 x1] h R (by kernel_rfl) (Eq.mpr (by kernel_rfl) hv)
/-- laws.FnExactCompleteDesign -/
def F_laws_FnExactCompleteDesign (R : Value → Heap → Prop) (x0_0 : Int) (v0_1 : Value) (x1 : Int) (x2 : Int) (x3 : Int) (h : Heap) : Prop :=
  vNew h (.cells #[.int .i64 x0_0, v0_1] t_laws_Design) fun p4 h_2 =>
  ldI .i64 h_2 p4 fun x20_0 =>
  ldV h_2 (p4.add 1) fun v20_1 =>
  CallsH P id_laws_szDesign #[.agg #[.int .i64 x20_0, v20_1], .int .i64 1048576] h_2 fun r22 h_3 => ∃ (x22 : Int), r22 = .int .i64 x22 ∧
  bif decide ((x22 : Int) < 0) then
    R (.bool true) h_3
  else
    ldI .i64 h_3 p4 fun x26_0 =>
    ldV h_3 (p4.add 1) fun v26_1 =>
    CallsH P id_laws_toDesign #[.agg #[.int .i64 x26_0, v26_1]] h_3 fun r27 h_4 => ∃ (x27_0_0 : Int), ∃ (v27_0_1 : Value), r27 = .agg #[.int .i64 x27_0_0, v27_0_1] ∧
    CallsH P id_spec_CompleteDesign #[.agg #[.int .i64 x27_0_0, v27_0_1], .int .i64 x1, .int .i64 x2, .int .i64 x3] h_4 fun r31 h_5 => ∃ (x31_0_0 : Int), ∃ (v31_0_1 : Value), ∃ (x31_1 : Int), r31 = .tuple #[.agg #[.int .i64 x31_0_0, v31_0_1], .int .i64 x31_1] ∧
    vNew h_5 (.cells #[.int .i64 0, .slice none 0 0] t_impl_Design) fun p10 h_6 =>
    vStore1 h_6 p10 (.int .i64 x31_0_0) fun h_7 =>
    vStore1 h_7 (p10.add 1) v31_0_1 fun h_8 =>
    ldI .i64 h_8 p4 fun x34_0 =>
    ldV h_8 (p4.add 1) fun v34_1 =>
    CallsH P id_laws_toDesign #[.agg #[.int .i64 x34_0, v34_1]] h_8 fun r35 h_9 => ∃ (x35_0_0 : Int), ∃ (v35_0_1 : Value), r35 = .agg #[.int .i64 x35_0_0, v35_0_1] ∧
    vNew h_9 (.cells #[.int .i64 0, .slice none 0 0] t_impl_Design) fun p12 h_10 =>
    vStore1 h_10 p12 (.int .i64 x35_0_0) fun h_11 =>
    vStore1 h_11 (p12.add 1) v35_0_1 fun h_12 =>
    ldI .i64 h_12 p12 fun x37_0 =>
    ldV h_12 (p12.add 1) fun v37_1 =>
    CallsH P id_impl_CompleteDesign #[.agg #[.int .i64 x37_0, v37_1], .int .i64 x1, .int .i64 x2, .int .i64 x3] h_12 fun r41 h_13 => ∃ (x41_0_0 : Int), ∃ (v41_0_1 : Value), ∃ (x41_1 : Int), r41 = .tuple #[.agg #[.int .i64 x41_0_0, v41_0_1], .int .i64 x41_1] ∧
    vNew h_13 (.cells #[.int .i64 0, .slice none 0 0] t_impl_Design) fun p13 h_14 =>
    vStore1 h_14 p13 (.int .i64 x41_0_0) fun h_15 =>
    vStore1 h_15 (p13.add 1) v41_0_1 fun h_16 =>
    ∃ J : Heap → Prop, (
      ldI .i64 h_16 p13 fun x44_0 =>
      ldV h_16 (p13.add 1) fun v44_1 =>
      ldI .i64 h_16 p10 fun x45_0 =>
      ldV h_16 (p10.add 1) fun v45_1 =>
      CallsH P id_laws_eqDesign #[.agg #[.int .i64 x44_0, v44_1], .agg #[.int .i64 x45_0, v45_1]] h_16 fun r46 h_17 => ∃ (b46 : Bool), r46 = .bool b46 ∧
      bif !b46 then
        R (.bool false) h_17
      else
        bif (x41_1 : Int) != x31_1 then
          R (.bool false) h_17
        else
          J h_17
    ) ∧ ∀ (_ : Env) (h_18 : Heap), J h_18 →
    ldI .i64 h_18 p4 fun x54_0 =>
    ldV h_18 (p4.add 1) fun v54_1 =>
    CallsH P id_laws_toDesign #[.agg #[.int .i64 x54_0, v54_1]] h_18 fun r55 h_19 => ∃ (x55_0_0 : Int), ∃ (v55_0_1 : Value), r55 = .agg #[.int .i64 x55_0_0, v55_0_1] ∧
    ExtH h_18 h_19 ∧
    ldI .i64 h_18 p12 fun x53_0 =>
    ldV h_18 (p12.add 1) fun v53_1 =>
    CallsH P id_laws_eqDesign #[.agg #[.int .i64 x53_0, v53_1], .agg #[.int .i64 x55_0_0, v55_0_1]] h_19 fun r56 h_20 => ∃ (b56 : Bool), r56 = .bool b56 ∧
    bif !b56 then
      R (.bool false) h_20
    else
      ldI .i64 h_20 p12 fun x58_0 =>
      ldV h_20 (p12.add 1) fun v58_1 =>
      CallsH P id_laws_markDesign #[.agg #[.int .i64 x58_0, v58_1], .int .i64 1] h_20 fun r60 h_21 => ∃ (x60 : Int), r60 = .int .i64 x60 ∧
      ∃ J_2 : Heap → Prop, (
        bif decide ((x60 : Int) < 0) then
          R (.bool false) h_21
        else
          ldI .i64 h_21 p13 fun x64_0 =>
          ldV h_21 (p13.add 1) fun v64_1 =>
          ldI .i64 h_21 p10 fun x65_0 =>
          ldV h_21 (p10.add 1) fun v65_1 =>
          CallsH P id_laws_eqDesign #[.agg #[.int .i64 x64_0, v64_1], .agg #[.int .i64 x65_0, v65_1]] h_21 fun r66 h_22 => ∃ (b66 : Bool), r66 = .bool b66 ∧
          bif !b66 then
            R (.bool false) h_22
          else
            bif (x41_1 : Int) != x31_1 then
              R (.bool false) h_22
            else
              J_2 h_22
      ) ∧ ∀ (_ : Env) (h_23 : Heap), J_2 h_23 →
      ldI .i64 h_23 p13 fun x74_0 =>
      ldV h_23 (p13.add 1) fun v74_1 =>
      CallsH P id_laws_markDesign #[.agg #[.int .i64 x74_0, v74_1], .int .i64 1] h_23 fun r76 h_24 => ∃ (x76 : Int), r76 = .int .i64 x76 ∧
      ldI .i64 h_24 p13 fun x77_0 =>
      ldV h_24 (p13.add 1) fun v77_1 =>
      CallsH P id_laws_heldDesign #[.agg #[.int .i64 x77_0, v77_1], .int .i64 1] h_24 fun r79 h_25 => ∃ (x79 : Int), r79 = .int .i64 x79 ∧
      bif decide ((x79 : Int) < 0) then
        R (.bool false) h_25
      else
        bif (x79 : Int) != x76 then
          R (.bool false) h_25
        else
          ldI .i64 h_25 p4 fun x86_0 =>
          ldV h_25 (p4.add 1) fun v86_1 =>
          CallsH P id_laws_toDesign #[.agg #[.int .i64 x86_0, v86_1]] h_25 fun r87 h_26 => ∃ (x87_0_0 : Int), ∃ (v87_0_1 : Value), r87 = .agg #[.int .i64 x87_0_0, v87_0_1] ∧
          CallsH P id_impl_CompleteDesign #[.agg #[.int .i64 x87_0_0, v87_0_1], .int .i64 x1, .int .i64 x2, .int .i64 x3] h_26 fun r91 h_27 => ∃ (x91_0_0 : Int), ∃ (v91_0_1 : Value), ∃ (x91_1 : Int), r91 = .tuple #[.agg #[.int .i64 x91_0_0, v91_0_1], .int .i64 x91_1] ∧
          vNew h_27 (.cells #[.int .i64 0, .slice none 0 0] t_impl_Design) fun p18 h_28 =>
          vStore1 h_28 p18 (.int .i64 x91_0_0) fun h_29 =>
          vStore1 h_29 (p18.add 1) v91_0_1 fun h_30 =>
          ∃ J_3 : Heap → Prop, (
            ldI .i64 h_30 p18 fun x94_0 =>
            ldV h_30 (p18.add 1) fun v94_1 =>
            ldI .i64 h_30 p10 fun x95_0 =>
            ldV h_30 (p10.add 1) fun v95_1 =>
            CallsH P id_laws_eqDesign #[.agg #[.int .i64 x94_0, v94_1], .agg #[.int .i64 x95_0, v95_1]] h_30 fun r96 h_31 => ∃ (b96 : Bool), r96 = .bool b96 ∧
            bif !b96 then
              R (.bool false) h_31
            else
              bif (x91_1 : Int) != x31_1 then
                R (.bool false) h_31
              else
                J_3 h_31
          ) ∧ ∀ (_ : Env) (h_32 : Heap), J_3 h_32 →
          ldI .i64 h_32 p13 fun x103_0 =>
          ldV h_32 (p13.add 1) fun v103_1 =>
          CallsH P id_laws_heldDesign #[.agg #[.int .i64 x103_0, v103_1], .int .i64 1] h_32 fun r105 h_33 => ∃ (x105 : Int), r105 = .int .i64 x105 ∧
          bif decide ((x105 : Int) < 0) then
            R (.bool false) h_33
          else
            bif (x105 : Int) != x76 then
              R (.bool false) h_33
            else
              R (.bool true) h_33
theorem w_laws_FnExactCompleteDesign {R : Value → Heap → Prop} {x0_0 : Int} {v0_1 : Value} {x1 : Int} {x2 : Int} {x3 : Int} {h : Heap} (hv : F_laws_FnExactCompleteDesign R x0_0 v0_1 x1 x2 x3 h) : CallsH P id_laws_FnExactCompleteDesign #[.agg #[.int .i64 x0_0, v0_1], .int .i64 x1, .int .i64 x2, .int .i64 x3] h R :=
  callsH_of_vc ctxOk ⟨[], [(10, []), (16, []), (27, [])]⟩ Tryz.func3 [.agg #[.int .i64 x0_0, v0_1], .int .i64 x1, .int .i64 x2, .int .i64 x3] h R (by kernel_rfl) (Eq.mpr (by kernel_rfl) hv)
end Go.Proofs.YtkgeocffngdeoaaGreat
