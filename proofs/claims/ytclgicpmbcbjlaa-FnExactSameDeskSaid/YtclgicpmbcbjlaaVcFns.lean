/- Shallow verification conditions of the functions of this seat, printed by gen.py; each is held against the program by the kernel. -/
import Derived.Test.YtclgicpmbcbjlaaVcSoundE
import Derived.Test.YtclgicpmbcbjlaaProg
import Derived.KernelRfl
namespace Go.Proofs.Ytclgicpmbcbjlaa
open Go Go.Vc Go.Proofs
set_option linter.unusedVariables false
set_option maxRecDepth 100000
noncomputable abbrev P : Program := Try.prog
abbrev id_laws_szInt64S : Nat := 108
abbrev id_laws_szStringS : Nat := 177
abbrev id_laws_szRecipe : Nat := 142
abbrev id_laws_szRecipeS : Nat := 89
abbrev id_laws_szInt64SS : Nat := 55
abbrev id_laws_szObject : Nat := 143
abbrev id_laws_szObjectS : Nat := 90
abbrev id_laws_szLab : Nat := 45
abbrev id_laws_szItem : Nat := 144
abbrev id_laws_szItemS : Nat := 91
abbrev id_laws_szCatalog : Nat := 46
abbrev id_laws_szDesk : Nat := 14
abbrev id_spec_l00Same : Nat := 92
abbrev id_spec_l32Words : Nat := 93
abbrev id_spec_l10Same : Nat := 145
abbrev id_spec_SameObject : Nat := 94
abbrev id_spec_SameLab : Nat := 47
abbrev id_spec_l31Same : Nat := 95
abbrev id_spec_SameCatalog : Nat := 48
abbrev id_spec_SameDesk : Nat := 15
abbrev id_laws_toInt64S : Nat := 113
abbrev id_laws_toStringS : Nat := 178
abbrev id_laws_toRecipe : Nat := 146
abbrev id_laws_toRecipeS : Nat := 96
abbrev id_laws_toInt64SS : Nat := 57
abbrev id_laws_toObject : Nat := 147
abbrev id_laws_toObjectS : Nat := 97
abbrev id_laws_toLab : Nat := 49
abbrev id_laws_toItem : Nat := 148
abbrev id_laws_toItemS : Nat := 98
abbrev id_laws_toCatalog : Nat := 50
abbrev id_laws_toDesk : Nat := 16
abbrev id_slices_EqualFunc_impl_Recipe_impl_Recipe_impl_Recipe_impl_Recipe : Nat := 99
abbrev id_slices_Equal_int64_int64 : Nat := 149
abbrev id_slices_Equal_string_string : Nat := 150
abbrev id_impl_sameRecipe : Nat := 100
abbrev id_slices_EqualFunc_impl_Object_impl_Object_impl_Object_impl_Object : Nat := 101
abbrev id_slices_EqualFunc_int64_int64_int64_int64 : Nat := 179
abbrev id_impl_areSame : Nat := 151
abbrev id_impl_SameObject : Nat := 102
abbrev id_impl_SameLab : Nat := 51
abbrev id_slices_EqualFunc_impl_Item_impl_Item_impl_Item_impl_Item : Nat := 103
abbrev id_impl_SameCatalog_1 : Nat := 104
abbrev id_impl_SameCatalog : Nat := 52
abbrev id_impl_SameDesk : Nat := 17
abbrev id_laws_eqInt64S : Nat := 121
abbrev id_laws_eqStringS : Nat := 180
abbrev id_laws_eqRecipe : Nat := 152
abbrev id_laws_eqRecipeS : Nat := 105
abbrev id_laws_eqInt64SS : Nat := 60
abbrev id_laws_eqObject : Nat := 153
abbrev id_laws_eqObjectS : Nat := 106
abbrev id_laws_eqLab : Nat := 53
abbrev id_laws_eqItem : Nat := 154
abbrev id_laws_eqItemS : Nat := 107
abbrev id_laws_eqCatalog : Nat := 54
abbrev id_laws_eqDesk : Nat := 18
abbrev id_laws_FnExactSameDesk : Nat := 4
abbrev t_int64 : Nat := 2
abbrev t_bool : Nat := 4
abbrev t_string : Nat := 9
abbrev t_S_S_int64 : Nat := 24
abbrev t_S_int64 : Nat := 27
abbrev t_S_laws_Recipe : Nat := 34
abbrev t_S_laws_Object : Nat := 35
abbrev t_laws_Lab : Nat := 37
abbrev t_S_laws_Item : Nat := 38
abbrev t_laws_Catalog : Nat := 40
abbrev t_laws_Desk : Nat := 42
abbrev t_S_impl_Recipe : Nat := 45
abbrev t_S_impl_Object : Nat := 46
abbrev t_impl_Lab : Nat := 48
abbrev t_S_impl_Item : Nat := 49
abbrev t_impl_Catalog : Nat := 51
abbrev t_impl_Desk : Nat := 53
abbrev t_S_string : Nat := 137
abbrev t_impl_Recipe : Nat := 139
abbrev t_impl_Object : Nat := 144
abbrev t_impl_Item : Nat := 148
abbrev t_laws_Recipe : Nat := 185
abbrev t_laws_Object : Nat := 187
abbrev t_laws_Item : Nat := 190
def tab : List (Nat × TE) := [(2, ⟨.int .i64, [.i .i64], [.int .i64 0], 8⟩),
  (4, ⟨.bool, [.b], [.bool false], 1⟩),
  (9, ⟨.str, [.s], [.string ⟨#[]⟩], 16⟩),
  (24, ⟨.slice 27, [.v], [.slice none 0 0], 24⟩),
  (27, ⟨.slice 2, [.v], [.slice none 0 0], 24⟩),
  (34, ⟨.slice 185, [.v], [.slice none 0 0], 24⟩),
  (35, ⟨.slice 187, [.v], [.slice none 0 0], 24⟩),
  (37, ⟨.struct [(0, 1, false), (1, 1, false)], [.v, .v], [.slice none 0 0, .slice none 0 0], 48⟩),
  (38, ⟨.slice 190, [.v], [.slice none 0 0], 24⟩),
  (40, ⟨.struct [(0, 1, false)], [.v], [.slice none 0 0], 24⟩),
  (42, ⟨.struct [(0, 2, true), (2, 1, true)], [.v, .v, .v], [.slice none 0 0, .slice none 0 0, .slice none 0 0], 72⟩),
  (45, ⟨.slice 139, [.v], [.slice none 0 0], 24⟩),
  (46, ⟨.slice 144, [.v], [.slice none 0 0], 24⟩),
  (48, ⟨.struct [(0, 1, false), (1, 1, false)], [.v, .v], [.slice none 0 0, .slice none 0 0], 48⟩),
  (49, ⟨.slice 148, [.v], [.slice none 0 0], 24⟩),
  (51, ⟨.struct [(0, 1, false)], [.v], [.slice none 0 0], 24⟩),
  (53, ⟨.struct [(0, 2, true), (2, 1, true)], [.v, .v, .v], [.slice none 0 0, .slice none 0 0, .slice none 0 0], 72⟩),
  (137, ⟨.slice 9, [.v], [.slice none 0 0], 24⟩),
  (139, ⟨.struct [(0, 1, false), (1, 1, false), (2, 1, false), (3, 1, false)], [.s, .s, .v, .v], [.string ⟨#[]⟩, .string ⟨#[]⟩, .slice none 0 0, .slice none 0 0], 80⟩),
  (144, ⟨.struct [(0, 1, false), (1, 1, false), (2, 1, false)], [.i .i64, .i .i64, .v], [.int .i64 0, .int .i64 0, .slice none 0 0], 40⟩),
  (148, ⟨.struct [(0, 1, false), (1, 3, true), (4, 1, false)], [.s, .i .i64, .i .i64, .v, .s], [.string ⟨#[]⟩, .int .i64 0, .int .i64 0, .slice none 0 0, .string ⟨#[]⟩], 72⟩),
  (185, ⟨.struct [(0, 1, false), (1, 1, false), (2, 1, false), (3, 1, false)], [.s, .s, .v, .v], [.string ⟨#[]⟩, .string ⟨#[]⟩, .slice none 0 0, .slice none 0 0], 80⟩),
  (187, ⟨.struct [(0, 1, false), (1, 1, false), (2, 1, false)], [.i .i64, .i .i64, .v], [.int .i64 0, .int .i64 0, .slice none 0 0], 40⟩),
  (190, ⟨.struct [(0, 1, false), (1, 3, true), (4, 1, false)], [.s, .i .i64, .i .i64, .v, .s], [.string ⟨#[]⟩, .int .i64 0, .int .i64 0, .slice none 0 0, .string ⟨#[]⟩], 72⟩)]
def rst : List (Nat × RS) := [(3, ⟨false, [(false, [.i .i64])]⟩),
  (4, ⟨false, [(false, [.b])]⟩),
  (24, ⟨false, [(false, [.v])]⟩),
  (27, ⟨false, [(false, [.v])]⟩),
  (45, ⟨false, [(false, [.v])]⟩),
  (46, ⟨false, [(false, [.v])]⟩),
  (48, ⟨false, [(true, [.v, .v])]⟩),
  (49, ⟨false, [(false, [.v])]⟩),
  (51, ⟨false, [(true, [.v])]⟩),
  (53, ⟨false, [(true, [.v, .v, .v])]⟩),
  (137, ⟨false, [(false, [.v])]⟩),
  (139, ⟨false, [(true, [.s, .s, .v, .v])]⟩),
  (144, ⟨false, [(true, [.i .i64, .i .i64, .v])]⟩),
  (148, ⟨false, [(true, [.s, .i .i64, .i .i64, .v, .s])]⟩)]
noncomputable def ctx : Ctx := ⟨Try.prog, tab, rst, 3, 201⟩
theorem te2 : TeOk P 2 ⟨.int .i64, [.i .i64], [.int .i64 0], 8⟩ := ⟨by kernel_rfl, by kernel_rfl, by kernel_rfl⟩
theorem te4 : TeOk P 4 ⟨.bool, [.b], [.bool false], 1⟩ := ⟨by kernel_rfl, by kernel_rfl, by kernel_rfl⟩
theorem te9 : TeOk P 9 ⟨.str, [.s], [.string ⟨#[]⟩], 16⟩ := ⟨by kernel_rfl, by kernel_rfl, by kernel_rfl⟩
theorem te24 : TeOk P 24 ⟨.slice 27, [.v], [.slice none 0 0], 24⟩ := ⟨by kernel_rfl, by kernel_rfl, by kernel_rfl⟩
theorem te27 : TeOk P 27 ⟨.slice 2, [.v], [.slice none 0 0], 24⟩ := ⟨by kernel_rfl, by kernel_rfl, by kernel_rfl⟩
theorem te34 : TeOk P 34 ⟨.slice 185, [.v], [.slice none 0 0], 24⟩ := ⟨by kernel_rfl, by kernel_rfl, by kernel_rfl⟩
theorem te35 : TeOk P 35 ⟨.slice 187, [.v], [.slice none 0 0], 24⟩ := ⟨by kernel_rfl, by kernel_rfl, by kernel_rfl⟩
theorem te37 : TeOk P 37 ⟨.struct [(0, 1, false), (1, 1, false)], [.v, .v], [.slice none 0 0, .slice none 0 0], 48⟩ := ⟨by kernel_rfl, by kernel_rfl, by kernel_rfl⟩
theorem te38 : TeOk P 38 ⟨.slice 190, [.v], [.slice none 0 0], 24⟩ := ⟨by kernel_rfl, by kernel_rfl, by kernel_rfl⟩
theorem te40 : TeOk P 40 ⟨.struct [(0, 1, false)], [.v], [.slice none 0 0], 24⟩ := ⟨by kernel_rfl, by kernel_rfl, by kernel_rfl⟩
theorem te42 : TeOk P 42 ⟨.struct [(0, 2, true), (2, 1, true)], [.v, .v, .v], [.slice none 0 0, .slice none 0 0, .slice none 0 0], 72⟩ := ⟨by kernel_rfl, by kernel_rfl, by kernel_rfl⟩
theorem te45 : TeOk P 45 ⟨.slice 139, [.v], [.slice none 0 0], 24⟩ := ⟨by kernel_rfl, by kernel_rfl, by kernel_rfl⟩
theorem te46 : TeOk P 46 ⟨.slice 144, [.v], [.slice none 0 0], 24⟩ := ⟨by kernel_rfl, by kernel_rfl, by kernel_rfl⟩
theorem te48 : TeOk P 48 ⟨.struct [(0, 1, false), (1, 1, false)], [.v, .v], [.slice none 0 0, .slice none 0 0], 48⟩ := ⟨by kernel_rfl, by kernel_rfl, by kernel_rfl⟩
theorem te49 : TeOk P 49 ⟨.slice 148, [.v], [.slice none 0 0], 24⟩ := ⟨by kernel_rfl, by kernel_rfl, by kernel_rfl⟩
theorem te51 : TeOk P 51 ⟨.struct [(0, 1, false)], [.v], [.slice none 0 0], 24⟩ := ⟨by kernel_rfl, by kernel_rfl, by kernel_rfl⟩
theorem te53 : TeOk P 53 ⟨.struct [(0, 2, true), (2, 1, true)], [.v, .v, .v], [.slice none 0 0, .slice none 0 0, .slice none 0 0], 72⟩ := ⟨by kernel_rfl, by kernel_rfl, by kernel_rfl⟩
theorem te137 : TeOk P 137 ⟨.slice 9, [.v], [.slice none 0 0], 24⟩ := ⟨by kernel_rfl, by kernel_rfl, by kernel_rfl⟩
theorem te139 : TeOk P 139 ⟨.struct [(0, 1, false), (1, 1, false), (2, 1, false), (3, 1, false)], [.s, .s, .v, .v], [.string ⟨#[]⟩, .string ⟨#[]⟩, .slice none 0 0, .slice none 0 0], 80⟩ := ⟨by kernel_rfl, by kernel_rfl, by kernel_rfl⟩
theorem te144 : TeOk P 144 ⟨.struct [(0, 1, false), (1, 1, false), (2, 1, false)], [.i .i64, .i .i64, .v], [.int .i64 0, .int .i64 0, .slice none 0 0], 40⟩ := ⟨by kernel_rfl, by kernel_rfl, by kernel_rfl⟩
theorem te148 : TeOk P 148 ⟨.struct [(0, 1, false), (1, 3, true), (4, 1, false)], [.s, .i .i64, .i .i64, .v, .s], [.string ⟨#[]⟩, .int .i64 0, .int .i64 0, .slice none 0 0, .string ⟨#[]⟩], 72⟩ := ⟨by kernel_rfl, by kernel_rfl, by kernel_rfl⟩
theorem te185 : TeOk P 185 ⟨.struct [(0, 1, false), (1, 1, false), (2, 1, false), (3, 1, false)], [.s, .s, .v, .v], [.string ⟨#[]⟩, .string ⟨#[]⟩, .slice none 0 0, .slice none 0 0], 80⟩ := ⟨by kernel_rfl, by kernel_rfl, by kernel_rfl⟩
theorem te187 : TeOk P 187 ⟨.struct [(0, 1, false), (1, 1, false), (2, 1, false)], [.i .i64, .i .i64, .v], [.int .i64 0, .int .i64 0, .slice none 0 0], 40⟩ := ⟨by kernel_rfl, by kernel_rfl, by kernel_rfl⟩
theorem te190 : TeOk P 190 ⟨.struct [(0, 1, false), (1, 3, true), (4, 1, false)], [.s, .i .i64, .i .i64, .v, .s], [.string ⟨#[]⟩, .int .i64 0, .int .i64 0, .slice none 0 0, .string ⟨#[]⟩], 72⟩ := ⟨by kernel_rfl, by kernel_rfl, by kernel_rfl⟩
theorem tabOk_all : ∀ p ∈ tab, TeOk P p.1 p.2 := by
  unfold tab
  simp only [List.forall_mem_cons]
  exact ⟨te2, te4, te9, te24, te27, te34, te35, te37, te38, te40, te42, te45, te46, te48, te49, te51, te53, te137, te139, te144, te148, te185, te187, te190, fun p hp => by cases hp⟩
theorem tab_mem : ∀ (l : List (Nat × TE)) (t : Nat) (te : TE), tabGet l t = some te → (t, te) ∈ l
  | [], t, te, h => by cases h
  | (k, x) :: r, t, te, h => by
    unfold tabGet at h
    cases hb : Nat.beq k t with
    | true => rw [hb] at h; have := Nat.eq_of_beq_eq_true hb; subst this; cases h; exact List.mem_cons_self ..
    | false => rw [hb] at h; exact List.mem_cons_of_mem _ (tab_mem r t te h)
noncomputable def fnB (f : Nat) : Bool := match P.funcs[f]? with | some fn => fn.body.isSome && !(fn.name == "runtime.NumGoroutine") | none => false
theorem fns_all : (List.range' 3 198).all fnB = true := by kernel_rfl
theorem ctxOk : CtxOk ctx where
  tab := fun t te h => tabOk_all (t, te) (tab_mem _ t te h)
  fns := fun f hf => by
    simp only [Ctx.okf, Bool.and_eq_true] at hf
    have h1 : 3 ≤ f := Nat.le_of_ble_eq_true hf.1
    have h2 : f < 201 := Nat.blt_eq.mp hf.2
    have h := List.all_eq_true.1 fns_all f (List.mem_range'_1.2 ⟨h1, by omega⟩)
    unfold fnB at h
    split at h
    · rename_i fn hfn; simp only [Bool.and_eq_true, Bool.not_eq_true'] at h; exact ⟨fn, hfn, h.1, h.2⟩
    · cases h
  mixed := by kernel_rfl
/-- laws.szInt64S -/
def F_laws_szInt64S (R : Value → Heap → Prop) (v0 : Value) (x1 : Int) (h : Heap) : Prop :=
  vLen v0 fun n7 =>
  bif decide ((IntKind.i64.wrap (x1 - (n7 : Int)) : Int) < 0) then
    R (.int .i64 (-1)) h
  else
    R (.int .i64 (IntKind.i64.wrap (x1 - (n7 : Int)))) h
theorem w_laws_szInt64S {R : Value → Heap → Prop} {v0 : Value} {x1 : Int} {h : Heap} (hv : F_laws_szInt64S R v0 x1 h) : CallsH P id_laws_szInt64S #[v0, .int .i64 x1] h R :=
  callsH_of_vc ctxOk ⟨[], []⟩ Try.func108 [v0, .int .i64 x1] h R (by kernel_rfl) (Eq.mpr (by kernel_rfl) hv)
/-- laws.szStringS -/
def F_laws_szStringS (R : Value → Heap → Prop) (v0 : Value) (x1 : Int) (h : Heap) : Prop :=
  vLen v0 fun n8 =>
  bif decide ((IntKind.i64.wrap (x1 - (n8 : Int)) : Int) < 0) then
    R (.int .i64 (-1)) h
  else
    ∃ J : Nat → Int → Int → Heap → Prop, (∃ n_2, J n_2 (IntKind.i64.wrap (x1 - (n8 : Int))) 0 h) ∧ ∀ (n : Nat) (_ : Env) (x1_2 : Int) (x5 : Int) (h_2 : Heap), J n x1_2 x5 h_2 →
    vLen v0 fun n14 =>
    bif decide ((x5 : Int) < (n14 : Int)) then
      vIdx v0 x5 1 fun p21 =>
      ldS h_2 p21 fun s22 =>
      bif decide ((IntKind.i64.wrap (x1_2 - (s22.size : Int)) : Int) < 0) then
        R (.int .i64 (-1)) h_2
      else
        ∃ m, m < n ∧ J m (IntKind.i64.wrap (x1_2 - (s22.size : Int))) (IntKind.i64.wrap (x5 + 1)) h_2
    else
      R (.int .i64 x1_2) h_2
theorem w_laws_szStringS {R : Value → Heap → Prop} {v0 : Value} {x1 : Int} {h : Heap} (hv : F_laws_szStringS R v0 x1 h) : CallsH P id_laws_szStringS #[v0, .int .i64 x1] h R :=
  callsH_of_vc ctxOk ⟨[(5, [(1, .i .i64), (5, .i .i64)])], []⟩ Try.func177 [v0, .int .i64 x1] h R (by kernel_rfl) (Eq.mpr (by kernel_rfl) hv)
/-- laws.szRecipe -/
def F_laws_szRecipe (R : Value → Heap → Prop) (s0_0 : ByteArray) (s0_1 : ByteArray) (v0_2 : Value) (v0_3 : Value) (x1 : Int) (h : Heap) : Prop :=
  vNew h (.cells #[.string s0_0, .string s0_1, v0_2, v0_3] t_laws_Recipe) fun p2 h_2 =>
  ldS h_2 p2 fun s7 =>
  bif decide ((IntKind.i64.wrap (x1 - (s7.size : Int)) : Int) < 0) then
    R (.int .i64 (-1)) h_2
  else
    ldS h_2 (p2.add 1) fun s14 =>
    bif decide ((IntKind.i64.wrap ((IntKind.i64.wrap (x1 - (s7.size : Int))) - (s14.size : Int)) : Int) < 0) then
      R (.int .i64 (-1)) h_2
    else
      ldV h_2 (p2.add 2) fun v20 =>
      CallsH P id_laws_szInt64S #[v20, .int .i64 (IntKind.i64.wrap ((IntKind.i64.wrap (x1 - (s7.size : Int))) - (s14.size : Int)))] h_2 fun r22 h_3 => ∃ (x22 : Int), r22 = .int .i64 x22 ∧
      bif decide ((x22 : Int) < 0) then
        R (.int .i64 (-1)) h_3
      else
        ldV h_3 (p2.add 3) fun v26 =>
        CallsH P id_laws_szStringS #[v26, .int .i64 x22] h_3 fun r28 h_4 => ∃ (x28 : Int), r28 = .int .i64 x28 ∧
        bif decide ((x28 : Int) < 0) then
          R (.int .i64 (-1)) h_4
        else
          R (.int .i64 x28) h_4
theorem w_laws_szRecipe {R : Value → Heap → Prop} {s0_0 : ByteArray} {s0_1 : ByteArray} {v0_2 : Value} {v0_3 : Value} {x1 : Int} {h : Heap} (hv : F_laws_szRecipe R s0_0 s0_1 v0_2 v0_3 x1 h) : CallsH P id_laws_szRecipe #[.agg #[.string s0_0, .string s0_1, v0_2, v0_3], .int .i64 x1] h R :=
  callsH_of_vc ctxOk ⟨[], []⟩ Try.func142 [.agg #[.string s0_0, .string s0_1, v0_2, v0_3], .int .i64 x1] h R (by kernel_rfl) (Eq.mpr (by kernel_rfl) hv)
/-- laws.szRecipeS -/
def F_laws_szRecipeS (R : Value → Heap → Prop) (v0 : Value) (x1 : Int) (h : Heap) : Prop :=
  vLen v0 fun n8 =>
  bif decide ((IntKind.i64.wrap (x1 - (n8 : Int)) : Int) < 0) then
    R (.int .i64 (-1)) h
  else
    ∃ J : Nat → Int → Int → Heap → Prop, (∃ n_2, J n_2 (IntKind.i64.wrap (x1 - (n8 : Int))) 0 h) ∧ ∀ (n : Nat) (_ : Env) (x1_2 : Int) (x5 : Int) (h_2 : Heap), J n x1_2 x5 h_2 →
    vLen v0 fun n14 =>
    bif decide ((x5 : Int) < (n14 : Int)) then
      vIdx v0 x5 4 fun p20 =>
      ldS h_2 p20 fun s21_0 =>
      ldS h_2 (p20.add 1) fun s21_1 =>
      ldV h_2 (p20.add 2) fun v21_2 =>
      ldV h_2 (p20.add 3) fun v21_3 =>
      CallsH P id_laws_szRecipe #[.agg #[.string s21_0, .string s21_1, v21_2, v21_3], .int .i64 x1_2] h_2 fun r23 h_3 => ∃ (x23 : Int), r23 = .int .i64 x23 ∧
      bif decide ((x23 : Int) < 0) then
        R (.int .i64 (-1)) h_3
      else
        ∃ m, m < n ∧ J m x23 (IntKind.i64.wrap (x5 + 1)) h_3
    else
      R (.int .i64 x1_2) h_2
theorem w_laws_szRecipeS {R : Value → Heap → Prop} {v0 : Value} {x1 : Int} {h : Heap} (hv : F_laws_szRecipeS R v0 x1 h) : CallsH P id_laws_szRecipeS #[v0, .int .i64 x1] h R :=
  callsH_of_vc ctxOk ⟨[(5, [(1, .i .i64), (5, .i .i64)])], []⟩ Try.func89 [v0, .int .i64 x1] h R (by kernel_rfl) (Eq.mpr (by kernel_rfl) hv)
/-- laws.szInt64SS -/
def F_laws_szInt64SS (R : Value → Heap → Prop) (v0 : Value) (x1 : Int) (h : Heap) : Prop :=
  vLen v0 fun n8 =>
  bif decide ((IntKind.i64.wrap (x1 - (n8 : Int)) : Int) < 0) then
    R (.int .i64 (-1)) h
  else
    ∃ J : Nat → Int → Int → Heap → Prop, (∃ n_2, J n_2 (IntKind.i64.wrap (x1 - (n8 : Int))) 0 h) ∧ ∀ (n : Nat) (_ : Env) (x1_2 : Int) (x5 : Int) (h_2 : Heap), J n x1_2 x5 h_2 →
    vLen v0 fun n14 =>
    bif decide ((x5 : Int) < (n14 : Int)) then
      vIdx v0 x5 1 fun p20 =>
      ldV h_2 p20 fun v21 =>
      CallsH P id_laws_szInt64S #[v21, .int .i64 x1_2] h_2 fun r23 h_3 => ∃ (x23 : Int), r23 = .int .i64 x23 ∧
      bif decide ((x23 : Int) < 0) then
        R (.int .i64 (-1)) h_3
      else
        ∃ m, m < n ∧ J m x23 (IntKind.i64.wrap (x5 + 1)) h_3
    else
      R (.int .i64 x1_2) h_2
theorem w_laws_szInt64SS {R : Value → Heap → Prop} {v0 : Value} {x1 : Int} {h : Heap} (hv : F_laws_szInt64SS R v0 x1 h) : CallsH P id_laws_szInt64SS #[v0, .int .i64 x1] h R :=
  callsH_of_vc ctxOk ⟨[(5, [(1, .i .i64), (5, .i .i64)])], []⟩ Try.func55 [v0, .int .i64 x1] h R (by kernel_rfl) (Eq.mpr (by kernel_rfl) hv)
/-- laws.szObject -/
def F_laws_szObject (R : Value → Heap → Prop) (x0_0 : Int) (x0_1 : Int) (v0_2 : Value) (x1 : Int) (h : Heap) : Prop :=
  vNew h (.cells #[.int .i64 x0_0, .int .i64 x0_1, v0_2] t_laws_Object) fun p2 h_2 =>
  ldV h_2 (p2.add 2) fun v6 =>
  CallsH P id_laws_szInt64SS #[v6, .int .i64 x1] h_2 fun r8 h_3 => ∃ (x8 : Int), r8 = .int .i64 x8 ∧
  bif decide ((x8 : Int) < 0) then
    R (.int .i64 (-1)) h_3
  else
    R (.int .i64 x8) h_3
theorem w_laws_szObject {R : Value → Heap → Prop} {x0_0 : Int} {x0_1 : Int} {v0_2 : Value} {x1 : Int} {h : Heap} (hv : F_laws_szObject R x0_0 x0_1 v0_2 x1 h) : CallsH P id_laws_szObject #[.agg #[.int .i64 x0_0, .int .i64 x0_1, v0_2], .int .i64 x1] h R :=
  callsH_of_vc ctxOk ⟨[], []⟩ Try.func143 [.agg #[.int .i64 x0_0, .int .i64 x0_1, v0_2], .int .i64 x1] h R (by kernel_rfl) (Eq.mpr (by kernel_rfl) hv)
/-- laws.szObjectS -/
def F_laws_szObjectS (R : Value → Heap → Prop) (v0 : Value) (x1 : Int) (h : Heap) : Prop :=
  vLen v0 fun n8 =>
  bif decide ((IntKind.i64.wrap (x1 - (n8 : Int)) : Int) < 0) then
    R (.int .i64 (-1)) h
  else
    ∃ J : Nat → Int → Int → Heap → Prop, (∃ n_2, J n_2 (IntKind.i64.wrap (x1 - (n8 : Int))) 0 h) ∧ ∀ (n : Nat) (_ : Env) (x1_2 : Int) (x5 : Int) (h_2 : Heap), J n x1_2 x5 h_2 →
    vLen v0 fun n14 =>
    bif decide ((x5 : Int) < (n14 : Int)) then
      vIdx v0 x5 3 fun p20 =>
      ldI .i64 h_2 p20 fun x21_0 =>
      ldI .i64 h_2 (p20.add 1) fun x21_1 =>
      ldV h_2 (p20.add 2) fun v21_2 =>
      CallsH P id_laws_szObject #[.agg #[.int .i64 x21_0, .int .i64 x21_1, v21_2], .int .i64 x1_2] h_2 fun r23 h_3 => ∃ (x23 : Int), r23 = .int .i64 x23 ∧
      bif decide ((x23 : Int) < 0) then
        R (.int .i64 (-1)) h_3
      else
        ∃ m, m < n ∧ J m x23 (IntKind.i64.wrap (x5 + 1)) h_3
    else
      R (.int .i64 x1_2) h_2
theorem w_laws_szObjectS {R : Value → Heap → Prop} {v0 : Value} {x1 : Int} {h : Heap} (hv : F_laws_szObjectS R v0 x1 h) : CallsH P id_laws_szObjectS #[v0, .int .i64 x1] h R :=
  callsH_of_vc ctxOk ⟨[(5, [(1, .i .i64), (5, .i .i64)])], []⟩ Try.func90 [v0, .int .i64 x1] h R (by kernel_rfl) (Eq.mpr (by kernel_rfl) hv)
/-- laws.szLab -/
def F_laws_szLab (R : Value → Heap → Prop) (v0_0 : Value) (v0_1 : Value) (x1 : Int) (h : Heap) : Prop :=
  vNew h (.cells #[v0_0, v0_1] t_laws_Lab) fun p2 h_2 =>
  ldV h_2 p2 fun v6 =>
  CallsH P id_laws_szRecipeS #[v6, .int .i64 x1] h_2 fun r8 h_3 => ∃ (x8 : Int), r8 = .int .i64 x8 ∧
  bif decide ((x8 : Int) < 0) then
    R (.int .i64 (-1)) h_3
  else
    ldV h_3 (p2.add 1) fun v12 =>
    CallsH P id_laws_szObjectS #[v12, .int .i64 x8] h_3 fun r14 h_4 => ∃ (x14 : Int), r14 = .int .i64 x14 ∧
    bif decide ((x14 : Int) < 0) then
      R (.int .i64 (-1)) h_4
    else
      R (.int .i64 x14) h_4
theorem w_laws_szLab {R : Value → Heap → Prop} {v0_0 : Value} {v0_1 : Value} {x1 : Int} {h : Heap} (hv : F_laws_szLab R v0_0 v0_1 x1 h) : CallsH P id_laws_szLab #[.agg #[v0_0, v0_1], .int .i64 x1] h R :=
  callsH_of_vc ctxOk ⟨[], []⟩ Try.func45 [.agg #[v0_0, v0_1], .int .i64 x1] h R (by kernel_rfl) (Eq.mpr (by kernel_rfl) hv)
/-- laws.szItem -/
def F_laws_szItem (R : Value → Heap → Prop) (s0_0 : ByteArray) (x0_1 : Int) (x0_2 : Int) (v0_3 : Value) (s0_4 : ByteArray) (x1 : Int) (h : Heap) : Prop :=
  vNew h (.cells #[.string s0_0, .int .i64 x0_1, .int .i64 x0_2, v0_3, .string s0_4] t_laws_Item) fun p2 h_2 =>
  ldS h_2 p2 fun s7 =>
  bif decide ((IntKind.i64.wrap (x1 - (s7.size : Int)) : Int) < 0) then
    R (.int .i64 (-1)) h_2
  else
    ldI .i64 h_2 (p2.add 1) fun x13_0 =>
    ldI .i64 h_2 ((p2.add 1).add 1) fun x13_1 =>
    ldV h_2 ((p2.add 1).add 2) fun v13_2 =>
    CallsH P id_laws_szObject #[.agg #[.int .i64 x13_0, .int .i64 x13_1, v13_2], .int .i64 (IntKind.i64.wrap (x1 - (s7.size : Int)))] h_2 fun r15 h_3 => ∃ (x15 : Int), r15 = .int .i64 x15 ∧
    bif decide ((x15 : Int) < 0) then
      R (.int .i64 (-1)) h_3
    else
      ldS h_3 (p2.add 4) fun s20 =>
      bif decide ((IntKind.i64.wrap (x15 - (s20.size : Int)) : Int) < 0) then
        R (.int .i64 (-1)) h_3
      else
        R (.int .i64 (IntKind.i64.wrap (x15 - (s20.size : Int)))) h_3
theorem w_laws_szItem {R : Value → Heap → Prop} {s0_0 : ByteArray} {x0_1 : Int} {x0_2 : Int} {v0_3 : Value} {s0_4 : ByteArray} {x1 : Int} {h : Heap} (hv : F_laws_szItem R s0_0 x0_1 x0_2 v0_3 s0_4 x1 h) : CallsH P id_laws_szItem #[.agg #[.string s0_0, .int .i64 x0_1, .int .i64 x0_2, v0_3, .string s0_4], .int .i64 x1] h R :=
  callsH_of_vc ctxOk ⟨[], []⟩ Try.func144 [.agg #[.string s0_0, .int .i64 x0_1, .int .i64 x0_2, v0_3, .string s0_4], .int .i64 x1] h R (by kernel_rfl) (Eq.mpr (by kernel_rfl) hv)
/-- laws.szItemS -/
def F_laws_szItemS (R : Value → Heap → Prop) (v0 : Value) (x1 : Int) (h : Heap) : Prop :=
  vLen v0 fun n8 =>
  bif decide ((IntKind.i64.wrap (x1 - (n8 : Int)) : Int) < 0) then
    R (.int .i64 (-1)) h
  else
    ∃ J : Nat → Int → Int → Heap → Prop, (∃ n_2, J n_2 (IntKind.i64.wrap (x1 - (n8 : Int))) 0 h) ∧ ∀ (n : Nat) (_ : Env) (x1_2 : Int) (x5 : Int) (h_2 : Heap), J n x1_2 x5 h_2 →
    vLen v0 fun n14 =>
    bif decide ((x5 : Int) < (n14 : Int)) then
      vIdx v0 x5 5 fun p20 =>
      ldS h_2 p20 fun s21_0 =>
      ldI .i64 h_2 (p20.add 1) fun x21_1 =>
      ldI .i64 h_2 (p20.add 2) fun x21_2 =>
      ldV h_2 (p20.add 3) fun v21_3 =>
      ldS h_2 (p20.add 4) fun s21_4 =>
      CallsH P id_laws_szItem #[.agg #[.string s21_0, .int .i64 x21_1, .int .i64 x21_2, v21_3, .string s21_4], .int .i64 x1_2] h_2 fun r23 h_3 => ∃ (x23 : Int), r23 = .int .i64 x23 ∧
      bif decide ((x23 : Int) < 0) then
        R (.int .i64 (-1)) h_3
      else
        ∃ m, m < n ∧ J m x23 (IntKind.i64.wrap (x5 + 1)) h_3
    else
      R (.int .i64 x1_2) h_2
theorem w_laws_szItemS {R : Value → Heap → Prop} {v0 : Value} {x1 : Int} {h : Heap} (hv : F_laws_szItemS R v0 x1 h) : CallsH P id_laws_szItemS #[v0, .int .i64 x1] h R :=
  callsH_of_vc ctxOk ⟨[(5, [(1, .i .i64), (5, .i .i64)])], []⟩ Try.func91 [v0, .int .i64 x1] h R (by kernel_rfl) (Eq.mpr (by kernel_rfl) hv)
/-- laws.szCatalog -/
def F_laws_szCatalog (R : Value → Heap → Prop) (v0_0 : Value) (x1 : Int) (h : Heap) : Prop :=
  vNew h (.cells #[v0_0] t_laws_Catalog) fun p2 h_2 =>
  ldV h_2 p2 fun v6 =>
  CallsH P id_laws_szItemS #[v6, .int .i64 x1] h_2 fun r8 h_3 => ∃ (x8 : Int), r8 = .int .i64 x8 ∧
  bif decide ((x8 : Int) < 0) then
    R (.int .i64 (-1)) h_3
  else
    R (.int .i64 x8) h_3
theorem w_laws_szCatalog {R : Value → Heap → Prop} {v0_0 : Value} {x1 : Int} {h : Heap} (hv : F_laws_szCatalog R v0_0 x1 h) : CallsH P id_laws_szCatalog #[.agg #[v0_0], .int .i64 x1] h R :=
  callsH_of_vc ctxOk ⟨[], []⟩ Try.func46 [.agg #[v0_0], .int .i64 x1] h R (by kernel_rfl) (Eq.mpr (by kernel_rfl) hv)
/-- laws.szDesk -/
def F_laws_szDesk (R : Value → Heap → Prop) (v0_0 : Value) (v0_1 : Value) (v0_2 : Value) (x1 : Int) (h : Heap) : Prop :=
  vNew h (.cells #[v0_0, v0_1, v0_2] t_laws_Desk) fun p2 h_2 =>
  ldV h_2 p2 fun v6_0 =>
  ldV h_2 (p2.add 1) fun v6_1 =>
  CallsH P id_laws_szLab #[.agg #[v6_0, v6_1], .int .i64 x1] h_2 fun r8 h_3 => ∃ (x8 : Int), r8 = .int .i64 x8 ∧
  bif decide ((x8 : Int) < 0) then
    R (.int .i64 (-1)) h_3
  else
    ldV h_3 (p2.add 2) fun v12_0 =>
    CallsH P id_laws_szCatalog #[.agg #[v12_0], .int .i64 x8] h_3 fun r14 h_4 => ∃ (x14 : Int), r14 = .int .i64 x14 ∧
    bif decide ((x14 : Int) < 0) then
      R (.int .i64 (-1)) h_4
    else
      R (.int .i64 x14) h_4
theorem w_laws_szDesk {R : Value → Heap → Prop} {v0_0 : Value} {v0_1 : Value} {v0_2 : Value} {x1 : Int} {h : Heap} (hv : F_laws_szDesk R v0_0 v0_1 v0_2 x1 h) : CallsH P id_laws_szDesk #[.agg #[v0_0, v0_1, v0_2], .int .i64 x1] h R :=
  callsH_of_vc ctxOk ⟨[], []⟩ Try.func14 [.agg #[v0_0, v0_1, v0_2], .int .i64 x1] h R (by kernel_rfl) (Eq.mpr (by kernel_rfl) hv)
/-- spec.l00Same -/
def F_spec_l00Same (R : Value → Heap → Prop) (v0 : Value) (v1 : Value) (h : Heap) : Prop :=
  vLen v0 fun n7 =>
  vLen v1 fun n9 =>
  bif ((n7 : Int) : Int) != (n9 : Int) then
    R (.bool false) h
  else
    ∃ J : Nat → Int → Heap → Prop, (∃ n_2, J n_2 0 h) ∧ ∀ (n : Nat) (_ : Env) (x5 : Int) (h_2 : Heap), J n x5 h_2 →
    vLen v0 fun n13 =>
    bif decide ((x5 : Int) < (n13 : Int)) then
      vIdx v0 x5 1 fun p19 =>
      ldI .i64 h_2 p19 fun x20 =>
      vIdx v1 x5 1 fun p23 =>
      ldI .i64 h_2 p23 fun x24 =>
      bif (x20 : Int) != x24 then
        R (.bool false) h_2
      else
        ∃ m, m < n ∧ J m (IntKind.i64.wrap (x5 + 1)) h_2
    else
      R (.bool true) h_2
theorem w_spec_l00Same {R : Value → Heap → Prop} {v0 : Value} {v1 : Value} {h : Heap} (hv : F_spec_l00Same R v0 v1 h) : CallsH P id_spec_l00Same #[v0, v1] h R :=
  callsH_of_vc ctxOk ⟨[(4, [(5, .i .i64)])], []⟩ Try.func92 [v0, v1] h R (by kernel_rfl) (Eq.mpr (by kernel_rfl) hv)
/-- spec.l32Words -/
def F_spec_l32Words (R : Value → Heap → Prop) (v0 : Value) (v1 : Value) (h : Heap) : Prop :=
  vLen v0 fun n7 =>
  vLen v1 fun n9 =>
  bif ((n7 : Int) : Int) != (n9 : Int) then
    R (.bool false) h
  else
    ∃ J : Nat → Int → Heap → Prop, (∃ n_2, J n_2 0 h) ∧ ∀ (n : Nat) (_ : Env) (x5 : Int) (h_2 : Heap), J n x5 h_2 →
    vLen v0 fun n13 =>
    bif decide ((x5 : Int) < (n13 : Int)) then
      vIdx v0 x5 1 fun p19 =>
      ldS h_2 p19 fun s20 =>
      vIdx v1 x5 1 fun p23 =>
      ldS h_2 p23 fun s24 =>
      bif !(s20.toList == s24.toList) then
        R (.bool false) h_2
      else
        ∃ m, m < n ∧ J m (IntKind.i64.wrap (x5 + 1)) h_2
    else
      R (.bool true) h_2
theorem w_spec_l32Words {R : Value → Heap → Prop} {v0 : Value} {v1 : Value} {h : Heap} (hv : F_spec_l32Words R v0 v1 h) : CallsH P id_spec_l32Words #[v0, v1] h R :=
  callsH_of_vc ctxOk ⟨[(4, [(5, .i .i64)])], []⟩ Try.func93 [v0, v1] h R (by kernel_rfl) (Eq.mpr (by kernel_rfl) hv)
/-- spec.l10Same -/
def F_spec_l10Same (R : Value → Heap → Prop) (v0 : Value) (v1 : Value) (h : Heap) : Prop :=
  vLen v0 fun n7 =>
  vLen v1 fun n9 =>
  bif ((n7 : Int) : Int) != (n9 : Int) then
    R (.bool false) h
  else
    ∃ J : Nat → Int → Heap → Prop, (∃ n_2, J n_2 0 h) ∧ ∀ (n : Nat) (_ : Env) (x5 : Int) (h_2 : Heap), J n x5 h_2 →
    vLen v0 fun n13 =>
    bif decide ((x5 : Int) < (n13 : Int)) then
      vIdx v0 x5 1 fun p19 =>
      ldV h_2 p19 fun v20 =>
      vIdx v1 x5 1 fun p23 =>
      ldV h_2 p23 fun v24 =>
      CallsH P id_spec_l00Same #[v20, v24] h_2 fun r25 h_3 => ∃ (b25 : Bool), r25 = .bool b25 ∧
      bif !b25 then
        R (.bool false) h_3
      else
        ∃ m, m < n ∧ J m (IntKind.i64.wrap (x5 + 1)) h_3
    else
      R (.bool true) h_2
theorem w_spec_l10Same {R : Value → Heap → Prop} {v0 : Value} {v1 : Value} {h : Heap} (hv : F_spec_l10Same R v0 v1 h) : CallsH P id_spec_l10Same #[v0, v1] h R :=
  callsH_of_vc ctxOk ⟨[(4, [(5, .i .i64)])], []⟩ Try.func145 [v0, v1] h R (by kernel_rfl) (Eq.mpr (by kernel_rfl) hv)
/-- spec.SameObject -/
def F_spec_SameObject (R : Value → Heap → Prop) (x0_0 : Int) (x0_1 : Int) (v0_2 : Value) (x1_0 : Int) (x1_1 : Int) (v1_2 : Value) (h : Heap) : Prop :=
  vNew h (.cells #[.int .i64 x0_0, .int .i64 x0_1, v0_2] t_impl_Object) fun p2 h_2 =>
  vNew h_2 (.cells #[.int .i64 x1_0, .int .i64 x1_1, v1_2] t_impl_Object) fun p3 h_3 =>
  ldI .i64 h_3 p2 fun x6 =>
  ldI .i64 h_3 p3 fun x8 =>
  bif (x6 : Int) == x8 then
    ldI .i64 h_3 (p2.add 1) fun x12 =>
    ldI .i64 h_3 (p3.add 1) fun x14 =>
    bif (x12 : Int) == x14 then
      ldV h_3 (p2.add 2) fun v19 =>
      ldV h_3 (p3.add 2) fun v21 =>
      CallsH P id_spec_l10Same #[v19, v21] h_3 fun r22 h_4 => ∃ (b22 : Bool), r22 = .bool b22 ∧
      R (.bool b22) h_4
    else
      R (.bool false) h_3
  else
    R (.bool false) h_3
theorem w_spec_SameObject {R : Value → Heap → Prop} {x0_0 : Int} {x0_1 : Int} {v0_2 : Value} {x1_0 : Int} {x1_1 : Int} {v1_2 : Value} {h : Heap} (hv : F_spec_SameObject R x0_0 x0_1 v0_2 x1_0 x1_1 v1_2 h) : CallsH P id_spec_SameObject #[.agg #[.int .i64 x0_0, .int .i64 x0_1, v0_2], .agg #[.int .i64 x1_0, .int .i64 x1_1, v1_2]] h R :=
  callsH_of_vc ctxOk ⟨[], []⟩ Try.func94 [.agg #[.int .i64 x0_0, .int .i64 x0_1, v0_2], .agg #[.int .i64 x1_0, .int .i64 x1_1, v1_2]] h R (by kernel_rfl) (Eq.mpr (by kernel_rfl) hv)
/-- spec.SameLab -/
def F_spec_SameLab (R : Value → Heap → Prop) (v0_0 : Value) (v0_1 : Value) (v1_0 : Value) (v1_1 : Value) (h : Heap) : Prop :=
  vNew h (.cells #[v0_0, v0_1] t_impl_Lab) fun p2 h_2 =>
  vNew h_2 (.cells #[v1_0, v1_1] t_impl_Lab) fun p3 h_3 =>
  ∃ J : Heap → Prop, (
    ldV h_3 p2 fun v10 =>
    vLen v10 fun n11 =>
    ldV h_3 p3 fun v13 =>
    vLen v13 fun n14 =>
    bif ((n11 : Int) : Int) != (n14 : Int) then
      R (.bool false) h_3
    else
      ldV h_3 (p2.add 1) fun v18 =>
      vLen v18 fun n19 =>
      ldV h_3 (p3.add 1) fun v21 =>
      vLen v21 fun n22 =>
      bif ((n19 : Int) : Int) != (n22 : Int) then
        R (.bool false) h_3
      else
        J h_3
  ) ∧ ∀ (_ : Env) (h_4 : Heap), J h_4 →
  ∃ J_2 : Nat → Int → Heap → Prop, (∃ n_2, J_2 n_2 0 h_4) ∧ ∀ (n : Nat) (_ : Env) (x5 : Int) (h_5 : Heap), J_2 n x5 h_5 →
  ldV h_5 p2 fun v27 =>
  vLen v27 fun n28 =>
  bif decide ((x5 : Int) < (n28 : Int)) then
    ldV h_5 p2 fun v33 =>
    vIdx v33 x5 4 fun p35 =>
    ldS h_5 p35 fun s36_0 =>
    ldS h_5 (p35.add 1) fun s36_1 =>
    ldV h_5 (p35.add 2) fun v36_2 =>
    ldV h_5 (p35.add 3) fun v36_3 =>
    vNew h_5 (.cells #[.string ⟨#[]⟩, .string ⟨#[]⟩, .slice none 0 0, .slice none 0 0] t_impl_Recipe) fun p6 h_6 =>
    vStore1 h_6 p6 (.string s36_0) fun h_7 =>
    vStore1 h_7 (p6.add 1) (.string s36_1) fun h_8 =>
    vStore1 h_8 (p6.add 2) v36_2 fun h_9 =>
    vStore1 h_9 (p6.add 3) v36_3 fun h_10 =>
    ldV h_10 p3 fun v38 =>
    vIdx v38 x5 4 fun p40 =>
    ldS h_10 p40 fun s41_0 =>
    ldS h_10 (p40.add 1) fun s41_1 =>
    ldV h_10 (p40.add 2) fun v41_2 =>
    ldV h_10 (p40.add 3) fun v41_3 =>
    vNew h_10 (.cells #[.string ⟨#[]⟩, .string ⟨#[]⟩, .slice none 0 0, .slice none 0 0] t_impl_Recipe) fun p7 h_11 =>
    vStore1 h_11 p7 (.string s41_0) fun h_12 =>
    vStore1 h_12 (p7.add 1) (.string s41_1) fun h_13 =>
    vStore1 h_13 (p7.add 2) v41_2 fun h_14 =>
    vStore1 h_14 (p7.add 3) v41_3 fun h_15 =>
    ldS h_15 p6 fun s43 =>
    ldS h_15 p7 fun s45 =>
    bif !(s43.toList == s45.toList) then
      R (.bool false) h_15
    else
      ldS h_15 (p6.add 1) fun s49 =>
      ldS h_15 (p7.add 1) fun s51 =>
      bif !(s49.toList == s51.toList) then
        R (.bool false) h_15
      else
        ldV h_15 (p6.add 2) fun v56 =>
        ldV h_15 (p7.add 2) fun v58 =>
        CallsH P id_spec_l00Same #[v56, v58] h_15 fun r59 h_16 => ∃ (b59 : Bool), r59 = .bool b59 ∧
        bif !b59 then
          R (.bool false) h_16
        else
          ldV h_16 (p6.add 3) fun v64 =>
          ldV h_16 (p7.add 3) fun v66 =>
          CallsH P id_spec_l32Words #[v64, v66] h_16 fun r67 h_17 => ∃ (b67 : Bool), r67 = .bool b67 ∧
          bif !b67 then
            R (.bool false) h_17
          else
            ∃ m, m < n ∧ J_2 m (IntKind.i64.wrap (x5 + 1)) h_17
  else
    ∃ J_3 : Nat → Int → Heap → Prop, (∃ n_4, J_3 n_4 0 h_5) ∧ ∀ (n_3 : Nat) (_ : Env) (x8 : Int) (h_18 : Heap), J_3 n_3 x8 h_18 →
    ldV h_18 (p2.add 1) fun v72 =>
    vLen v72 fun n73 =>
    bif decide ((x8 : Int) < (n73 : Int)) then
      ldV h_18 (p2.add 1) fun v78 =>
      vIdx v78 x8 3 fun p80 =>
      ldI .i64 h_18 p80 fun x81_0 =>
      ldI .i64 h_18 (p80.add 1) fun x81_1 =>
      ldV h_18 (p80.add 2) fun v81_2 =>
      ldV h_18 (p3.add 1) fun v83 =>
      vIdx v83 x8 3 fun p85 =>
      ldI .i64 h_18 p85 fun x86_0 =>
      ldI .i64 h_18 (p85.add 1) fun x86_1 =>
      ldV h_18 (p85.add 2) fun v86_2 =>
      CallsH P id_spec_SameObject #[.agg #[.int .i64 x81_0, .int .i64 x81_1, v81_2], .agg #[.int .i64 x86_0, .int .i64 x86_1, v86_2]] h_18 fun r87 h_19 => ∃ (b87 : Bool), r87 = .bool b87 ∧
      bif !b87 then
        R (.bool false) h_19
      else
        ∃ m_2, m_2 < n_3 ∧ J_3 m_2 (IntKind.i64.wrap (x8 + 1)) h_19
    else
      R (.bool true) h_18
theorem w_spec_SameLab {R : Value → Heap → Prop} {v0_0 : Value} {v0_1 : Value} {v1_0 : Value} {v1_1 : Value} {h : Heap} (hv : F_spec_SameLab R v0_0 v0_1 v1_0 v1_1 h) : CallsH P id_spec_SameLab #[.agg #[v0_0, v0_1], .agg #[v1_0, v1_1]] h R :=
  callsH_of_vc ctxOk ⟨[(4, [(5, .i .i64)]), (11, [(8, .i .i64)])], [(3, [])]⟩ Try.func47 [.agg #[v0_0, v0_1], .agg #[v1_0, v1_1]] h R (by kernel_rfl) (Eq.mpr (by kernel_rfl) hv)
/-- spec.l31Same -/
def F_spec_l31Same (R : Value → Heap → Prop) (p0 : Addr) (p1 : Addr) (h : Heap) : Prop :=
  ldS h p0 fun s8 =>
  ldS h p1 fun s12 =>
  bif s8.toList == s12.toList then
    ldS h (p0.add 4) fun s18 =>
    ldS h (p1.add 4) fun s22 =>
    bif s18.toList == s22.toList then
      ldI .i64 h (p0.add 1) fun x29_0 =>
      ldI .i64 h ((p0.add 1).add 1) fun x29_1 =>
      ldV h ((p0.add 1).add 2) fun v29_2 =>
      ldI .i64 h (p1.add 1) fun x33_0 =>
      ldI .i64 h ((p1.add 1).add 1) fun x33_1 =>
      ldV h ((p1.add 1).add 2) fun v33_2 =>
      CallsH P id_spec_SameObject #[.agg #[.int .i64 x29_0, .int .i64 x29_1, v29_2], .agg #[.int .i64 x33_0, .int .i64 x33_1, v33_2]] h fun r34 h_2 => ∃ (b34 : Bool), r34 = .bool b34 ∧
      R (.bool b34) h_2
    else
      R (.bool false) h
  else
    R (.bool false) h
theorem w_spec_l31Same {R : Value → Heap → Prop} {p0 : Addr} {p1 : Addr} {h : Heap} (hv : F_spec_l31Same R p0 p1 h) : CallsH P id_spec_l31Same #[.pointer (some p0), .pointer (some p1)] h R :=
  callsH_of_vc ctxOk ⟨[], []⟩ Try.func95 [.pointer (some p0), .pointer (some p1)] h R (by kernel_rfl) (Eq.mpr (by kernel_rfl) hv)
/-- spec.SameCatalog -/
def F_spec_SameCatalog (R : Value → Heap → Prop) (v0_0 : Value) (v1_0 : Value) (h : Heap) : Prop :=
  vNew h (.cells #[v0_0] t_impl_Catalog) fun p2 h_2 =>
  vNew h_2 (.cells #[v1_0] t_impl_Catalog) fun p3 h_3 =>
  ldV h_3 p2 fun v7 =>
  vLen v7 fun n8 =>
  ldV h_3 p3 fun v10 =>
  vLen v10 fun n11 =>
  bif ((n8 : Int) : Int) != (n11 : Int) then
    R (.bool false) h_3
  else
    ∃ J : Nat → Int → Heap → Prop, (∃ n_2, J n_2 0 h_3) ∧ ∀ (n : Nat) (_ : Env) (x5 : Int) (h_4 : Heap), J n x5 h_4 →
    ldV h_4 p2 fun v15 =>
    vLen v15 fun n16 =>
    bif decide ((x5 : Int) < (n16 : Int)) then
      ldV h_4 p2 fun v21 =>
      vIdx v21 x5 5 fun p23 =>
      ldV h_4 p3 fun v25 =>
      vIdx v25 x5 5 fun p27 =>
      CallsH P id_spec_l31Same #[.pointer (some p23), .pointer (some p27)] h_4 fun r28 h_5 => ∃ (b28 : Bool), r28 = .bool b28 ∧
      bif !b28 then
        R (.bool false) h_5
      else
        ∃ m, m < n ∧ J m (IntKind.i64.wrap (x5 + 1)) h_5
    else
      R (.bool true) h_4
theorem w_spec_SameCatalog {R : Value → Heap → Prop} {v0_0 : Value} {v1_0 : Value} {h : Heap} (hv : F_spec_SameCatalog R v0_0 v1_0 h) : CallsH P id_spec_SameCatalog #[.agg #[v0_0], .agg #[v1_0]] h R :=
  callsH_of_vc ctxOk ⟨[(4, [(5, .i .i64)])], []⟩ Try.func48 [.agg #[v0_0], .agg #[v1_0]] h R (by kernel_rfl) (Eq.mpr (by kernel_rfl) hv)
/-- spec.SameDesk -/
def F_spec_SameDesk (R : Value → Heap → Prop) (v0_0 : Value) (v0_1 : Value) (v0_2 : Value) (v1_0 : Value) (v1_1 : Value) (v1_2 : Value) (h : Heap) : Prop :=
  vNew h (.cells #[v0_0, v0_1, v0_2] t_impl_Desk) fun p2 h_2 =>
  vNew h_2 (.cells #[v1_0, v1_1, v1_2] t_impl_Desk) fun p3 h_3 =>
  ldV h_3 p2 fun v6_0 =>
  ldV h_3 (p2.add 1) fun v6_1 =>
  ldV h_3 p3 fun v8_0 =>
  ldV h_3 (p3.add 1) fun v8_1 =>
  CallsH P id_spec_SameLab #[.agg #[v6_0, v6_1], .agg #[v8_0, v8_1]] h_3 fun r9 h_4 => ∃ (b9 : Bool), r9 = .bool b9 ∧
  bif b9 then
    ldV h_4 (p2.add 2) fun v12_0 =>
    ldV h_4 (p3.add 2) fun v14_0 =>
    CallsH P id_spec_SameCatalog #[.agg #[v12_0], .agg #[v14_0]] h_4 fun r15 h_5 => ∃ (b15 : Bool), r15 = .bool b15 ∧
    R (.bool b15) h_5
  else
    R (.bool false) h_4
theorem w_spec_SameDesk {R : Value → Heap → Prop} {v0_0 : Value} {v0_1 : Value} {v0_2 : Value} {v1_0 : Value} {v1_1 : Value} {v1_2 : Value} {h : Heap} (hv : F_spec_SameDesk R v0_0 v0_1 v0_2 v1_0 v1_1 v1_2 h) : CallsH P id_spec_SameDesk #[.agg #[v0_0, v0_1, v0_2], .agg #[v1_0, v1_1, v1_2]] h R :=
  callsH_of_vc ctxOk ⟨[], []⟩ Try.func15 [.agg #[v0_0, v0_1, v0_2], .agg #[v1_0, v1_1, v1_2]] h R (by kernel_rfl) (Eq.mpr (by kernel_rfl) hv)
/-- laws.toInt64S -/
def F_laws_toInt64S (R : Value → Heap → Prop) (v0 : Value) (h : Heap) : Prop :=
  vLen v0 fun n6 =>
  vMake 8 [.int .i64 0] t_int64 (n6 : Int) (n6 : Int) h fun v7 h_2 =>
  ∃ J : Nat → Int → Heap → Prop, (∃ n_2, J n_2 0 h_2) ∧ ∀ (n : Nat) (_ : Env) (x4 : Int) (h_3 : Heap), J n x4 h_3 →
  vLen v0 fun n10 =>
  bif decide ((x4 : Int) < (n10 : Int)) then
    vIdx v0 x4 1 fun p18 =>
    ldI .i64 h_3 p18 fun x19 =>
    vIdx v7 x4 1 fun p20 =>
    vStore1 h_3 p20 (.int .i64 x19) fun h_4 =>
    ∃ m, m < n ∧ J m (IntKind.i64.wrap (x4 + 1)) h_4
  else
    R v7 h_3
theorem w_laws_toInt64S {R : Value → Heap → Prop} {v0 : Value} {h : Heap} (hv : F_laws_toInt64S R v0 h) : CallsH P id_laws_toInt64S #[v0] h R :=
  callsH_of_vc ctxOk ⟨[(3, [(4, .i .i64)])], []⟩ Try.func113 [v0] h R (by kernel_rfl) (Eq.mpr (by kernel_rfl) hv)
/-- laws.toStringS -/
def F_laws_toStringS (R : Value → Heap → Prop) (v0 : Value) (h : Heap) : Prop :=
  vLen v0 fun n6 =>
  vMake 16 [.string ⟨#[]⟩] t_string (n6 : Int) (n6 : Int) h fun v7 h_2 =>
  ∃ J : Nat → Int → Heap → Prop, (∃ n_2, J n_2 0 h_2) ∧ ∀ (n : Nat) (_ : Env) (x4 : Int) (h_3 : Heap), J n x4 h_3 →
  vLen v0 fun n10 =>
  bif decide ((x4 : Int) < (n10 : Int)) then
    vIdx v0 x4 1 fun p18 =>
    ldS h_3 p18 fun s19 =>
    vIdx v7 x4 1 fun p20 =>
    vStore1 h_3 p20 (.string s19) fun h_4 =>
    ∃ m, m < n ∧ J m (IntKind.i64.wrap (x4 + 1)) h_4
  else
    R v7 h_3
theorem w_laws_toStringS {R : Value → Heap → Prop} {v0 : Value} {h : Heap} (hv : F_laws_toStringS R v0 h) : CallsH P id_laws_toStringS #[v0] h R :=
  callsH_of_vc ctxOk ⟨[(3, [(4, .i .i64)])], []⟩ Try.func178 [v0] h R (by kernel_rfl) (Eq.mpr (by kernel_rfl) hv)
/-- laws.toRecipe -/
def F_laws_toRecipe (R : Value → Heap → Prop) (s0_0 : ByteArray) (s0_1 : ByteArray) (v0_2 : Value) (v0_3 : Value) (h : Heap) : Prop :=
  vNew h (.cells #[.string s0_0, .string s0_1, v0_2, v0_3] t_laws_Recipe) fun p1 h_2 =>
  vNew h_2 (.cells #[.string ⟨#[]⟩, .string ⟨#[]⟩, .slice none 0 0, .slice none 0 0] t_impl_Recipe) fun p2 h_3 =>
  vNew h_3 (.cells #[.string ⟨#[]⟩, .string ⟨#[]⟩, .slice none 0 0, .slice none 0 0] t_impl_Recipe) fun p3 h_4 =>
  ldS h_4 p1 fun s5 =>
  vStore1 h_4 p3 (.string s5) fun h_5 =>
  ldS h_5 (p1.add 1) fun s8 =>
  vStore1 h_5 (p3.add 1) (.string s8) fun h_6 =>
  ldV h_6 (p1.add 2) fun v11 =>
  CallsH P id_laws_toInt64S #[v11] h_6 fun r12 h_7 => ∃ (v12 : Value), r12 = v12 ∧
  vStore1 h_7 (p3.add 2) v12 fun h_8 =>
  ldV h_8 (p1.add 3) fun v15 =>
  CallsH P id_laws_toStringS #[v15] h_8 fun r16 h_9 => ∃ (v16 : Value), r16 = v16 ∧
  vStore1 h_9 (p3.add 3) v16 fun h_10 =>
  ldS h_10 p3 fun s18_0 =>
  ldS h_10 (p3.add 1) fun s18_1 =>
  ldV h_10 (p3.add 2) fun v18_2 =>
  ldV h_10 (p3.add 3) fun v18_3 =>
  vStore1 h_10 p2 (.string s18_0) fun h_11 =>
  vStore1 h_11 (p2.add 1) (.string s18_1) fun h_12 =>
  vStore1 h_12 (p2.add 2) v18_2 fun h_13 =>
  vStore1 h_13 (p2.add 3) v18_3 fun h_14 =>
  ldS h_14 p2 fun sres0_0 =>
  ldS h_14 (p2.add 1) fun sres0_1 =>
  ldV h_14 (p2.add 2) fun vres0_2 =>
  ldV h_14 (p2.add 3) fun vres0_3 =>
  R (.agg #[.string sres0_0, .string sres0_1, vres0_2, vres0_3]) h_14
theorem w_laws_toRecipe {R : Value → Heap → Prop} {s0_0 : ByteArray} {s0_1 : ByteArray} {v0_2 : Value} {v0_3 : Value} {h : Heap} (hv : F_laws_toRecipe R s0_0 s0_1 v0_2 v0_3 h) : CallsH P id_laws_toRecipe #[.agg #[.string s0_0, .string s0_1, v0_2, v0_3]] h R :=
  callsH_of_vc ctxOk ⟨[], []⟩ Try.func146 [.agg #[.string s0_0, .string s0_1, v0_2, v0_3]] h R (by kernel_rfl) (Eq.mpr (by kernel_rfl) hv)
/-- laws.toRecipeS -/
def F_laws_toRecipeS (R : Value → Heap → Prop) (v0 : Value) (h : Heap) : Prop :=
  vLen v0 fun n6 =>
  vMake 80 [.string ⟨#[]⟩, .string ⟨#[]⟩, .slice none 0 0, .slice none 0 0] t_impl_Recipe (n6 : Int) (n6 : Int) h fun v7 h_2 =>
  ∃ J : Nat → Int → Heap → Prop, (∃ n_2, J n_2 0 h_2) ∧ ∀ (n : Nat) (_ : Env) (x4 : Int) (h_3 : Heap), J n x4 h_3 →
  vLen v0 fun n10 =>
  bif decide ((x4 : Int) < (n10 : Int)) then
    vIdx v0 x4 4 fun p18 =>
    ldS h_3 p18 fun s19_0 =>
    ldS h_3 (p18.add 1) fun s19_1 =>
    ldV h_3 (p18.add 2) fun v19_2 =>
    ldV h_3 (p18.add 3) fun v19_3 =>
    CallsH P id_laws_toRecipe #[.agg #[.string s19_0, .string s19_1, v19_2, v19_3]] h_3 fun r20 h_4 => ∃ (s20_0_0 : ByteArray), ∃ (s20_0_1 : ByteArray), ∃ (v20_0_2 : Value), ∃ (v20_0_3 : Value), r20 = .agg #[.string s20_0_0, .string s20_0_1, v20_0_2, v20_0_3] ∧
    vIdx v7 x4 4 fun p21 =>
    vStore1 h_4 p21 (.string s20_0_0) fun h_5 =>
    vStore1 h_5 (p21.add 1) (.string s20_0_1) fun h_6 =>
    vStore1 h_6 (p21.add 2) v20_0_2 fun h_7 =>
    vStore1 h_7 (p21.add 3) v20_0_3 fun h_8 =>
    ∃ m, m < n ∧ J m (IntKind.i64.wrap (x4 + 1)) h_8
  else
    R v7 h_3
theorem w_laws_toRecipeS {R : Value → Heap → Prop} {v0 : Value} {h : Heap} (hv : F_laws_toRecipeS R v0 h) : CallsH P id_laws_toRecipeS #[v0] h R :=
  callsH_of_vc ctxOk ⟨[(3, [(4, .i .i64)])], []⟩ Try.func96 [v0] h R (by kernel_rfl) (Eq.mpr (by kernel_rfl) hv)
/-- laws.toInt64SS -/
def F_laws_toInt64SS (R : Value → Heap → Prop) (v0 : Value) (h : Heap) : Prop :=
  vLen v0 fun n6 =>
  vMake 24 [.slice none 0 0] t_S_int64 (n6 : Int) (n6 : Int) h fun v7 h_2 =>
  ∃ J : Nat → Int → Heap → Prop, (∃ n_2, J n_2 0 h_2) ∧ ∀ (n : Nat) (_ : Env) (x4 : Int) (h_3 : Heap), J n x4 h_3 →
  vLen v0 fun n10 =>
  bif decide ((x4 : Int) < (n10 : Int)) then
    vIdx v0 x4 1 fun p18 =>
    ldV h_3 p18 fun v19 =>
    CallsH P id_laws_toInt64S #[v19] h_3 fun r20 h_4 => ∃ (v20 : Value), r20 = v20 ∧
    vIdx v7 x4 1 fun p21 =>
    vStore1 h_4 p21 v20 fun h_5 =>
    ∃ m, m < n ∧ J m (IntKind.i64.wrap (x4 + 1)) h_5
  else
    R v7 h_3
theorem w_laws_toInt64SS {R : Value → Heap → Prop} {v0 : Value} {h : Heap} (hv : F_laws_toInt64SS R v0 h) : CallsH P id_laws_toInt64SS #[v0] h R :=
  callsH_of_vc ctxOk ⟨[(3, [(4, .i .i64)])], []⟩ Try.func57 [v0] h R (by kernel_rfl) (Eq.mpr (by kernel_rfl) hv)
/-- laws.toObject -/
def F_laws_toObject (R : Value → Heap → Prop) (x0_0 : Int) (x0_1 : Int) (v0_2 : Value) (h : Heap) : Prop :=
  vNew h (.cells #[.int .i64 x0_0, .int .i64 x0_1, v0_2] t_laws_Object) fun p1 h_2 =>
  vNew h_2 (.cells #[.int .i64 0, .int .i64 0, .slice none 0 0] t_impl_Object) fun p2 h_3 =>
  vNew h_3 (.cells #[.int .i64 0, .int .i64 0, .slice none 0 0] t_impl_Object) fun p3 h_4 =>
  ldI .i64 h_4 p1 fun x5 =>
  vStore1 h_4 p3 (.int .i64 x5) fun h_5 =>
  ldI .i64 h_5 (p1.add 1) fun x8 =>
  vStore1 h_5 (p3.add 1) (.int .i64 x8) fun h_6 =>
  ldV h_6 (p1.add 2) fun v11 =>
  CallsH P id_laws_toInt64SS #[v11] h_6 fun r12 h_7 => ∃ (v12 : Value), r12 = v12 ∧
  vStore1 h_7 (p3.add 2) v12 fun h_8 =>
  ldI .i64 h_8 p3 fun x14_0 =>
  ldI .i64 h_8 (p3.add 1) fun x14_1 =>
  ldV h_8 (p3.add 2) fun v14_2 =>
  vStore1 h_8 p2 (.int .i64 x14_0) fun h_9 =>
  vStore1 h_9 (p2.add 1) (.int .i64 x14_1) fun h_10 =>
  vStore1 h_10 (p2.add 2) v14_2 fun h_11 =>
  ldI .i64 h_11 p2 fun xres0_0 =>
  ldI .i64 h_11 (p2.add 1) fun xres0_1 =>
  ldV h_11 (p2.add 2) fun vres0_2 =>
  R (.agg #[.int .i64 xres0_0, .int .i64 xres0_1, vres0_2]) h_11
theorem w_laws_toObject {R : Value → Heap → Prop} {x0_0 : Int} {x0_1 : Int} {v0_2 : Value} {h : Heap} (hv : F_laws_toObject R x0_0 x0_1 v0_2 h) : CallsH P id_laws_toObject #[.agg #[.int .i64 x0_0, .int .i64 x0_1, v0_2]] h R :=
  callsH_of_vc ctxOk ⟨[], []⟩ Try.func147 [.agg #[.int .i64 x0_0, .int .i64 x0_1, v0_2]] h R (by kernel_rfl) (Eq.mpr (by kernel_rfl) hv)
/-- laws.toObjectS -/
def F_laws_toObjectS (R : Value → Heap → Prop) (v0 : Value) (h : Heap) : Prop :=
  vLen v0 fun n6 =>
  vMake 40 [.int .i64 0, .int .i64 0, .slice none 0 0] t_impl_Object (n6 : Int) (n6 : Int) h fun v7 h_2 =>
  ∃ J : Nat → Int → Heap → Prop, (∃ n_2, J n_2 0 h_2) ∧ ∀ (n : Nat) (_ : Env) (x4 : Int) (h_3 : Heap), J n x4 h_3 →
  vLen v0 fun n10 =>
  bif decide ((x4 : Int) < (n10 : Int)) then
    vIdx v0 x4 3 fun p18 =>
    ldI .i64 h_3 p18 fun x19_0 =>
    ldI .i64 h_3 (p18.add 1) fun x19_1 =>
    ldV h_3 (p18.add 2) fun v19_2 =>
    CallsH P id_laws_toObject #[.agg #[.int .i64 x19_0, .int .i64 x19_1, v19_2]] h_3 fun r20 h_4 => ∃ (x20_0_0 : Int), ∃ (x20_0_1 : Int), ∃ (v20_0_2 : Value), r20 = .agg #[.int .i64 x20_0_0, .int .i64 x20_0_1, v20_0_2] ∧
    vIdx v7 x4 3 fun p21 =>
    vStore1 h_4 p21 (.int .i64 x20_0_0) fun h_5 =>
    vStore1 h_5 (p21.add 1) (.int .i64 x20_0_1) fun h_6 =>
    vStore1 h_6 (p21.add 2) v20_0_2 fun h_7 =>
    ∃ m, m < n ∧ J m (IntKind.i64.wrap (x4 + 1)) h_7
  else
    R v7 h_3
theorem w_laws_toObjectS {R : Value → Heap → Prop} {v0 : Value} {h : Heap} (hv : F_laws_toObjectS R v0 h) : CallsH P id_laws_toObjectS #[v0] h R :=
  callsH_of_vc ctxOk ⟨[(3, [(4, .i .i64)])], []⟩ Try.func97 [v0] h R (by kernel_rfl) (Eq.mpr (by kernel_rfl) hv)
/-- laws.toLab -/
def F_laws_toLab (R : Value → Heap → Prop) (v0_0 : Value) (v0_1 : Value) (h : Heap) : Prop :=
  vNew h (.cells #[v0_0, v0_1] t_laws_Lab) fun p1 h_2 =>
  vNew h_2 (.cells #[.slice none 0 0, .slice none 0 0] t_impl_Lab) fun p2 h_3 =>
  vNew h_3 (.cells #[.slice none 0 0, .slice none 0 0] t_impl_Lab) fun p3 h_4 =>
  ldV h_4 p1 fun v5 =>
  CallsH P id_laws_toRecipeS #[v5] h_4 fun r6 h_5 => ∃ (v6 : Value), r6 = v6 ∧
  vStore1 h_5 p3 v6 fun h_6 =>
  ldV h_6 (p1.add 1) fun v9 =>
  CallsH P id_laws_toObjectS #[v9] h_6 fun r10 h_7 => ∃ (v10 : Value), r10 = v10 ∧
  vStore1 h_7 (p3.add 1) v10 fun h_8 =>
  ldV h_8 p3 fun v12_0 =>
  ldV h_8 (p3.add 1) fun v12_1 =>
  vStore1 h_8 p2 v12_0 fun h_9 =>
  vStore1 h_9 (p2.add 1) v12_1 fun h_10 =>
  ldV h_10 p2 fun vres0_0 =>
  ldV h_10 (p2.add 1) fun vres0_1 =>
  R (.agg #[vres0_0, vres0_1]) h_10
theorem w_laws_toLab {R : Value → Heap → Prop} {v0_0 : Value} {v0_1 : Value} {h : Heap} (hv : F_laws_toLab R v0_0 v0_1 h) : CallsH P id_laws_toLab #[.agg #[v0_0, v0_1]] h R :=
  callsH_of_vc ctxOk ⟨[], []⟩ Try.func49 [.agg #[v0_0, v0_1]] h R (by kernel_rfl) (Eq.mpr (by kernel_rfl) hv)
/-- laws.toItem -/
def F_laws_toItem (R : Value → Heap → Prop) (s0_0 : ByteArray) (x0_1 : Int) (x0_2 : Int) (v0_3 : Value) (s0_4 : ByteArray) (h : Heap) : Prop :=
  vNew h (.cells #[.string s0_0, .int .i64 x0_1, .int .i64 x0_2, v0_3, .string s0_4] t_laws_Item) fun p1 h_2 =>
  vNew h_2 (.cells #[.string ⟨#[]⟩, .int .i64 0, .int .i64 0, .slice none 0 0, .string ⟨#[]⟩] t_impl_Item) fun p2 h_3 =>
  vNew h_3 (.cells #[.string ⟨#[]⟩, .int .i64 0, .int .i64 0, .slice none 0 0, .string ⟨#[]⟩] t_impl_Item) fun p3 h_4 =>
  ldS h_4 p1 fun s5 =>
  vStore1 h_4 p3 (.string s5) fun h_5 =>
  ldI .i64 h_5 (p1.add 1) fun x8_0 =>
  ldI .i64 h_5 ((p1.add 1).add 1) fun x8_1 =>
  ldV h_5 ((p1.add 1).add 2) fun v8_2 =>
  CallsH P id_laws_toObject #[.agg #[.int .i64 x8_0, .int .i64 x8_1, v8_2]] h_5 fun r9 h_6 => ∃ (x9_0_0 : Int), ∃ (x9_0_1 : Int), ∃ (v9_0_2 : Value), r9 = .agg #[.int .i64 x9_0_0, .int .i64 x9_0_1, v9_0_2] ∧
  vStore1 h_6 (p3.add 1) (.int .i64 x9_0_0) fun h_7 =>
  vStore1 h_7 ((p3.add 1).add 1) (.int .i64 x9_0_1) fun h_8 =>
  vStore1 h_8 ((p3.add 1).add 2) v9_0_2 fun h_9 =>
  ldS h_9 (p1.add 4) fun s12 =>
  vStore1 h_9 (p3.add 4) (.string s12) fun h_10 =>
  ldS h_10 p3 fun s14_0 =>
  ldI .i64 h_10 (p3.add 1) fun x14_1 =>
  ldI .i64 h_10 (p3.add 2) fun x14_2 =>
  ldV h_10 (p3.add 3) fun v14_3 =>
  ldS h_10 (p3.add 4) fun s14_4 =>
  vStore1 h_10 p2 (.string s14_0) fun h_11 =>
  vStore1 h_11 (p2.add 1) (.int .i64 x14_1) fun h_12 =>
  vStore1 h_12 (p2.add 2) (.int .i64 x14_2) fun h_13 =>
  vStore1 h_13 (p2.add 3) v14_3 fun h_14 =>
  vStore1 h_14 (p2.add 4) (.string s14_4) fun h_15 =>
  ldS h_15 p2 fun sres0_0 =>
  ldI .i64 h_15 (p2.add 1) fun xres0_1 =>
  ldI .i64 h_15 (p2.add 2) fun xres0_2 =>
  ldV h_15 (p2.add 3) fun vres0_3 =>
  ldS h_15 (p2.add 4) fun sres0_4 =>
  R (.agg #[.string sres0_0, .int .i64 xres0_1, .int .i64 xres0_2, vres0_3, .string sres0_4]) h_15
theorem w_laws_toItem {R : Value → Heap → Prop} {s0_0 : ByteArray} {x0_1 : Int} {x0_2 : Int} {v0_3 : Value} {s0_4 : ByteArray} {h : Heap} (hv : F_laws_toItem R s0_0 x0_1 x0_2 v0_3 s0_4 h) : CallsH P id_laws_toItem #[.agg #[.string s0_0, .int .i64 x0_1, .int .i64 x0_2, v0_3, .string s0_4]] h R :=
  callsH_of_vc ctxOk ⟨[], []⟩ Try.func148 [.agg #[.string s0_0, .int .i64 x0_1, .int .i64 x0_2, v0_3, .string s0_4]] h R (by kernel_rfl) (Eq.mpr (by kernel_rfl) hv)
/-- laws.toItemS -/
def F_laws_toItemS (R : Value → Heap → Prop) (v0 : Value) (h : Heap) : Prop :=
  vLen v0 fun n6 =>
  vMake 72 [.string ⟨#[]⟩, .int .i64 0, .int .i64 0, .slice none 0 0, .string ⟨#[]⟩] t_impl_Item (n6 : Int) (n6 : Int) h fun v7 h_2 =>
  ∃ J : Nat → Int → Heap → Prop, (∃ n_2, J n_2 0 h_2) ∧ ∀ (n : Nat) (_ : Env) (x4 : Int) (h_3 : Heap), J n x4 h_3 →
  vLen v0 fun n10 =>
  bif decide ((x4 : Int) < (n10 : Int)) then
    vIdx v0 x4 5 fun p18 =>
    ldS h_3 p18 fun s19_0 =>
    ldI .i64 h_3 (p18.add 1) fun x19_1 =>
    ldI .i64 h_3 (p18.add 2) fun x19_2 =>
    ldV h_3 (p18.add 3) fun v19_3 =>
    ldS h_3 (p18.add 4) fun s19_4 =>
    CallsH P id_laws_toItem #[.agg #[.string s19_0, .int .i64 x19_1, .int .i64 x19_2, v19_3, .string s19_4]] h_3 fun r20 h_4 => ∃ (s20_0_0 : ByteArray), ∃ (x20_0_1 : Int), ∃ (x20_0_2 : Int), ∃ (v20_0_3 : Value), ∃ (s20_0_4 : ByteArray), r20 = .agg #[.string s20_0_0, .int .i64 x20_0_1, .int .i64 x20_0_2, v20_0_3, .string s20_0_4] ∧
    vIdx v7 x4 5 fun p21 =>
    vStore1 h_4 p21 (.string s20_0_0) fun h_5 =>
    vStore1 h_5 (p21.add 1) (.int .i64 x20_0_1) fun h_6 =>
    vStore1 h_6 (p21.add 2) (.int .i64 x20_0_2) fun h_7 =>
    vStore1 h_7 (p21.add 3) v20_0_3 fun h_8 =>
    vStore1 h_8 (p21.add 4) (.string s20_0_4) fun h_9 =>
    ∃ m, m < n ∧ J m (IntKind.i64.wrap (x4 + 1)) h_9
  else
    R v7 h_3
theorem w_laws_toItemS {R : Value → Heap → Prop} {v0 : Value} {h : Heap} (hv : F_laws_toItemS R v0 h) : CallsH P id_laws_toItemS #[v0] h R :=
  callsH_of_vc ctxOk ⟨[(3, [(4, .i .i64)])], []⟩ Try.func98 [v0] h R (by kernel_rfl) (Eq.mpr (by kernel_rfl) hv)
/-- laws.toCatalog -/
def F_laws_toCatalog (R : Value → Heap → Prop) (v0_0 : Value) (h : Heap) : Prop :=
  vNew h (.cells #[v0_0] t_laws_Catalog) fun p1 h_2 =>
  vNew h_2 (.cells #[.slice none 0 0] t_impl_Catalog) fun p2 h_3 =>
  vNew h_3 (.cells #[.slice none 0 0] t_impl_Catalog) fun p3 h_4 =>
  ldV h_4 p1 fun v5 =>
  CallsH P id_laws_toItemS #[v5] h_4 fun r6 h_5 => ∃ (v6 : Value), r6 = v6 ∧
  vStore1 h_5 p3 v6 fun h_6 =>
  ldV h_6 p3 fun v8_0 =>
  vStore1 h_6 p2 v8_0 fun h_7 =>
  ldV h_7 p2 fun vres0_0 =>
  R (.agg #[vres0_0]) h_7
theorem w_laws_toCatalog {R : Value → Heap → Prop} {v0_0 : Value} {h : Heap} (hv : F_laws_toCatalog R v0_0 h) : CallsH P id_laws_toCatalog #[.agg #[v0_0]] h R :=
  callsH_of_vc ctxOk ⟨[], []⟩ Try.func50 [.agg #[v0_0]] h R (by kernel_rfl) (Eq.mpr (by kernel_rfl) hv)
/-- laws.toDesk -/
def F_laws_toDesk (R : Value → Heap → Prop) (v0_0 : Value) (v0_1 : Value) (v0_2 : Value) (h : Heap) : Prop :=
  vNew h (.cells #[v0_0, v0_1, v0_2] t_laws_Desk) fun p1 h_2 =>
  vNew h_2 (.cells #[.slice none 0 0, .slice none 0 0, .slice none 0 0] t_impl_Desk) fun p2 h_3 =>
  vNew h_3 (.cells #[.slice none 0 0, .slice none 0 0, .slice none 0 0] t_impl_Desk) fun p3 h_4 =>
  ldV h_4 p1 fun v5_0 =>
  ldV h_4 (p1.add 1) fun v5_1 =>
  CallsH P id_laws_toLab #[.agg #[v5_0, v5_1]] h_4 fun r6 h_5 => ∃ (v6_0_0 : Value), ∃ (v6_0_1 : Value), r6 = .agg #[v6_0_0, v6_0_1] ∧
  vStore1 h_5 p3 v6_0_0 fun h_6 =>
  vStore1 h_6 (p3.add 1) v6_0_1 fun h_7 =>
  ldV h_7 (p1.add 2) fun v9_0 =>
  CallsH P id_laws_toCatalog #[.agg #[v9_0]] h_7 fun r10 h_8 => ∃ (v10 : Value), r10 = .agg #[v10] ∧
  vStore1 h_8 (p3.add 2) v10 fun h_9 =>
  ldV h_9 p3 fun v12_0 =>
  ldV h_9 (p3.add 1) fun v12_1 =>
  ldV h_9 (p3.add 2) fun v12_2 =>
  vStore1 h_9 p2 v12_0 fun h_10 =>
  vStore1 h_10 (p2.add 1) v12_1 fun h_11 =>
  vStore1 h_11 (p2.add 2) v12_2 fun h_12 =>
  ldV h_12 p2 fun vres0_0 =>
  ldV h_12 (p2.add 1) fun vres0_1 =>
  ldV h_12 (p2.add 2) fun vres0_2 =>
  R (.agg #[vres0_0, vres0_1, vres0_2]) h_12
theorem w_laws_toDesk {R : Value → Heap → Prop} {v0_0 : Value} {v0_1 : Value} {v0_2 : Value} {h : Heap} (hv : F_laws_toDesk R v0_0 v0_1 v0_2 h) : CallsH P id_laws_toDesk #[.agg #[v0_0, v0_1, v0_2]] h R :=
  callsH_of_vc ctxOk ⟨[], []⟩ Try.func16 [.agg #[v0_0, v0_1, v0_2]] h R (by kernel_rfl) (Eq.mpr (by kernel_rfl) hv)
/-- slices.EqualFunc[[]impl.Recipe,[]impl.Recipe,impl.Recipe,impl.Recipe] -/
def F_slices_EqualFunc_impl_Recipe_impl_Recipe_impl_Recipe_impl_Recipe (R : Value → Heap → Prop) (v0 : Value) (v1 : Value) (g2 : Nat) (cap2 : List Value) (h : Heap) : Prop :=
  vLen v0 fun n11 =>
  vLen v1 fun n13 =>
  bif ((n11 : Int) : Int) != (n13 : Int) then
    R (.bool false) h
  else
    vLen v0 fun n16 =>
    ∃ J : Nat → Int → Heap → Prop, (∃ n_2, J n_2 0 h) ∧ ∀ (n : Nat) (_ : Env) (x17 : Int) (h_2 : Heap), J n x17 h_2 →
    bif decide ((x17 : Int) < (n16 : Int)) then
      vIdx v0 x17 4 fun p20 =>
      ldS h_2 p20 fun s21_0 =>
      ldS h_2 (p20.add 1) fun s21_1 =>
      ldV h_2 (p20.add 2) fun v21_2 =>
      ldV h_2 (p20.add 3) fun v21_3 =>
      vNew h_2 (.cells #[.string ⟨#[]⟩, .string ⟨#[]⟩, .slice none 0 0, .slice none 0 0] t_impl_Recipe) fun p8 h_3 =>
      vStore1 h_3 p8 (.string s21_0) fun h_4 =>
      vStore1 h_4 (p8.add 1) (.string s21_1) fun h_5 =>
      vStore1 h_5 (p8.add 2) v21_2 fun h_6 =>
      vStore1 h_6 (p8.add 3) v21_3 fun h_7 =>
      vIdx v1 x17 4 fun p24 =>
      ldS h_7 p24 fun s25_0 =>
      ldS h_7 (p24.add 1) fun s25_1 =>
      ldV h_7 (p24.add 2) fun v25_2 =>
      ldV h_7 (p24.add 3) fun v25_3 =>
      vNew h_7 (.cells #[.string ⟨#[]⟩, .string ⟨#[]⟩, .slice none 0 0, .slice none 0 0] t_impl_Recipe) fun p9 h_8 =>
      vStore1 h_8 p9 (.string s25_0) fun h_9 =>
      vStore1 h_9 (p9.add 1) (.string s25_1) fun h_10 =>
      vStore1 h_10 (p9.add 2) v25_2 fun h_11 =>
      vStore1 h_11 (p9.add 3) v25_3 fun h_12 =>
      ldS h_12 p8 fun s27_0 =>
      ldS h_12 (p8.add 1) fun s27_1 =>
      ldV h_12 (p8.add 2) fun v27_2 =>
      ldV h_12 (p8.add 3) fun v27_3 =>
      ldS h_12 p9 fun s28_0 =>
      ldS h_12 (p9.add 1) fun s28_1 =>
      ldV h_12 (p9.add 2) fun v28_2 =>
      ldV h_12 (p9.add 3) fun v28_3 =>
      vOkf ctx g2 fun _ =>
      CallsH P g2 (([.agg #[.string s27_0, .string s27_1, v27_2, v27_3], .agg #[.string s28_0, .string s28_1, v28_2, v28_3]] : List Value) ++ cap2).toArray h_12 fun r29 h_13 => ∃ (b29 : Bool), r29 = .bool b29 ∧
      bif !b29 then
        R (.bool false) h_13
      else
        ∃ m, m < n ∧ J m (IntKind.i64.wrap (x17 + 1)) h_13
    else
      R (.bool true) h_2
theorem w_slices_EqualFunc_impl_Recipe_impl_Recipe_impl_Recipe_impl_Recipe {R : Value → Heap → Prop} {v0 : Value} {v1 : Value} {g2 : Nat} {cap2 : List Value} {h : Heap} (hv : F_slices_EqualFunc_impl_Recipe_impl_Recipe_impl_Recipe_impl_Recipe R v0 v1 g2 cap2 h) : CallsH P id_slices_EqualFunc_impl_Recipe_impl_Recipe_impl_Recipe_impl_Recipe #[v0, v1, .func (.func g2) #[] cap2.toArray] h R :=
  callsH_of_vc ctxOk ⟨[(4, [(17, .i .i64)])], []⟩ Try.func99 [v0, v1, .func (.func g2) #[] cap2.toArray] h R (by kernel_rfl) (Eq.mpr (by kernel_rfl) hv)
/-- slices.Equal[[]int64,int64] -/
def F_slices_Equal_int64_int64 (R : Value → Heap → Prop) (v0 : Value) (v1 : Value) (h : Heap) : Prop :=
  vLen v0 fun n7 =>
  vLen v1 fun n9 =>
  bif ((n7 : Int) : Int) != (n9 : Int) then
    R (.bool false) h
  else
    vLen v0 fun n12 =>
    ∃ J : Nat → Int → Heap → Prop, (∃ n_2, J n_2 0 h) ∧ ∀ (n : Nat) (_ : Env) (x13 : Int) (h_2 : Heap), J n x13 h_2 →
    bif decide ((x13 : Int) < (n12 : Int)) then
      vIdx v0 x13 1 fun p18 =>
      ldI .i64 h_2 p18 fun x19 =>
      vIdx v1 x13 1 fun p22 =>
      ldI .i64 h_2 p22 fun x23 =>
      bif (x19 : Int) != x23 then
        R (.bool false) h_2
      else
        ∃ m, m < n ∧ J m (IntKind.i64.wrap (x13 + 1)) h_2
    else
      R (.bool true) h_2
theorem w_slices_Equal_int64_int64 {R : Value → Heap → Prop} {v0 : Value} {v1 : Value} {h : Heap} (hv : F_slices_Equal_int64_int64 R v0 v1 h) : CallsH P id_slices_Equal_int64_int64 #[v0, v1] h R :=
  callsH_of_vc ctxOk ⟨[(4, [(13, .i .i64)])], []⟩ Try.func149 [v0, v1] h R (by kernel_rfl) (Eq.mpr (by kernel_rfl) hv)
/-- slices.Equal[[]string,string] -/
def F_slices_Equal_string_string (R : Value → Heap → Prop) (v0 : Value) (v1 : Value) (h : Heap) : Prop :=
  vLen v0 fun n7 =>
  vLen v1 fun n9 =>
  bif ((n7 : Int) : Int) != (n9 : Int) then
    R (.bool false) h
  else
    vLen v0 fun n12 =>
    ∃ J : Nat → Int → Heap → Prop, (∃ n_2, J n_2 0 h) ∧ ∀ (n : Nat) (_ : Env) (x13 : Int) (h_2 : Heap), J n x13 h_2 →
    bif decide ((x13 : Int) < (n12 : Int)) then
      vIdx v0 x13 1 fun p18 =>
      ldS h_2 p18 fun s19 =>
      vIdx v1 x13 1 fun p22 =>
      ldS h_2 p22 fun s23 =>
      bif !(s19.toList == s23.toList) then
        R (.bool false) h_2
      else
        ∃ m, m < n ∧ J m (IntKind.i64.wrap (x13 + 1)) h_2
    else
      R (.bool true) h_2
theorem w_slices_Equal_string_string {R : Value → Heap → Prop} {v0 : Value} {v1 : Value} {h : Heap} (hv : F_slices_Equal_string_string R v0 v1 h) : CallsH P id_slices_Equal_string_string #[v0, v1] h R :=
  callsH_of_vc ctxOk ⟨[(4, [(13, .i .i64)])], []⟩ Try.func150 [v0, v1] h R (by kernel_rfl) (Eq.mpr (by kernel_rfl) hv)
/-- impl.sameRecipe -/
def F_impl_sameRecipe (R : Value → Heap → Prop) (s0_0 : ByteArray) (s0_1 : ByteArray) (v0_2 : Value) (v0_3 : Value) (s1_0 : ByteArray) (s1_1 : ByteArray) (v1_2 : Value) (v1_3 : Value) (h : Heap) : Prop :=
  vNew h (.cells #[.string s0_0, .string s0_1, v0_2, v0_3] t_impl_Recipe) fun p2 h_2 =>
  vNew h_2 (.cells #[.string s1_0, .string s1_1, v1_2, v1_3] t_impl_Recipe) fun p3 h_3 =>
  ldS h_3 p2 fun s6 =>
  ldS h_3 p3 fun s8 =>
  bif s6.toList == s8.toList then
    ldS h_3 (p2.add 1) fun s12 =>
    ldS h_3 (p3.add 1) fun s14 =>
    bif s12.toList == s14.toList then
      ldV h_3 (p2.add 2) fun v19 =>
      ldV h_3 (p3.add 2) fun v21 =>
      CallsH P id_slices_Equal_int64_int64 #[v19, v21] h_3 fun r22 h_4 => ∃ (b22 : Bool), r22 = .bool b22 ∧
      bif b22 then
        ldV h_4 (p2.add 3) fun v26 =>
        ldV h_4 (p3.add 3) fun v28 =>
        CallsH P id_slices_Equal_string_string #[v26, v28] h_4 fun r29 h_5 => ∃ (b29 : Bool), r29 = .bool b29 ∧
        R (.bool b29) h_5
      else
        R (.bool false) h_4
    else
      R (.bool false) h_3
  else
    R (.bool false) h_3
theorem w_impl_sameRecipe {R : Value → Heap → Prop} {s0_0 : ByteArray} {s0_1 : ByteArray} {v0_2 : Value} {v0_3 : Value} {s1_0 : ByteArray} {s1_1 : ByteArray} {v1_2 : Value} {v1_3 : Value} {h : Heap} (hv : F_impl_sameRecipe R s0_0 s0_1 v0_2 v0_3 s1_0 s1_1 v1_2 v1_3 h) : CallsH P id_impl_sameRecipe #[.agg #[.string s0_0, .string s0_1, v0_2, v0_3], .agg #[.string s1_0, .string s1_1, v1_2, v1_3]] h R :=
  callsH_of_vc ctxOk ⟨[], []⟩ Try.func100 [.agg #[.string s0_0, .string s0_1, v0_2, v0_3], .agg #[.string s1_0, .string s1_1, v1_2, v1_3]] h R (by kernel_rfl) (Eq.mpr (by kernel_rfl) hv)
/-- slices.EqualFunc[[]impl.Object,[]impl.Object,impl.Object,impl.Object] -/
def F_slices_EqualFunc_impl_Object_impl_Object_impl_Object_impl_Object (R : Value → Heap → Prop) (v0 : Value) (v1 : Value) (g2 : Nat) (cap2 : List Value) (h : Heap) : Prop :=
  vLen v0 fun n11 =>
  vLen v1 fun n13 =>
  bif ((n11 : Int) : Int) != (n13 : Int) then
    R (.bool false) h
  else
    vLen v0 fun n16 =>
    ∃ J : Nat → Int → Heap → Prop, (∃ n_2, J n_2 0 h) ∧ ∀ (n : Nat) (_ : Env) (x17 : Int) (h_2 : Heap), J n x17 h_2 →
    bif decide ((x17 : Int) < (n16 : Int)) then
      vIdx v0 x17 3 fun p20 =>
      ldI .i64 h_2 p20 fun x21_0 =>
      ldI .i64 h_2 (p20.add 1) fun x21_1 =>
      ldV h_2 (p20.add 2) fun v21_2 =>
      vNew h_2 (.cells #[.int .i64 0, .int .i64 0, .slice none 0 0] t_impl_Object) fun p8 h_3 =>
      vStore1 h_3 p8 (.int .i64 x21_0) fun h_4 =>
      vStore1 h_4 (p8.add 1) (.int .i64 x21_1) fun h_5 =>
      vStore1 h_5 (p8.add 2) v21_2 fun h_6 =>
      vIdx v1 x17 3 fun p24 =>
      ldI .i64 h_6 p24 fun x25_0 =>
      ldI .i64 h_6 (p24.add 1) fun x25_1 =>
      ldV h_6 (p24.add 2) fun v25_2 =>
      vNew h_6 (.cells #[.int .i64 0, .int .i64 0, .slice none 0 0] t_impl_Object) fun p9 h_7 =>
      vStore1 h_7 p9 (.int .i64 x25_0) fun h_8 =>
      vStore1 h_8 (p9.add 1) (.int .i64 x25_1) fun h_9 =>
      vStore1 h_9 (p9.add 2) v25_2 fun h_10 =>
      ldI .i64 h_10 p8 fun x27_0 =>
      ldI .i64 h_10 (p8.add 1) fun x27_1 =>
      ldV h_10 (p8.add 2) fun v27_2 =>
      ldI .i64 h_10 p9 fun x28_0 =>
      ldI .i64 h_10 (p9.add 1) fun x28_1 =>
      ldV h_10 (p9.add 2) fun v28_2 =>
      vOkf ctx g2 fun _ =>
      CallsH P g2 (([.agg #[.int .i64 x27_0, .int .i64 x27_1, v27_2], .agg #[.int .i64 x28_0, .int .i64 x28_1, v28_2]] : List Value) ++ cap2).toArray h_10 fun r29 h_11 => ∃ (b29 : Bool), r29 = .bool b29 ∧
      bif !b29 then
        R (.bool false) h_11
      else
        ∃ m, m < n ∧ J m (IntKind.i64.wrap (x17 + 1)) h_11
    else
      R (.bool true) h_2
theorem w_slices_EqualFunc_impl_Object_impl_Object_impl_Object_impl_Object {R : Value → Heap → Prop} {v0 : Value} {v1 : Value} {g2 : Nat} {cap2 : List Value} {h : Heap} (hv : F_slices_EqualFunc_impl_Object_impl_Object_impl_Object_impl_Object R v0 v1 g2 cap2 h) : CallsH P id_slices_EqualFunc_impl_Object_impl_Object_impl_Object_impl_Object #[v0, v1, .func (.func g2) #[] cap2.toArray] h R :=
  callsH_of_vc ctxOk ⟨[(4, [(17, .i .i64)])], []⟩ Try.func101 [v0, v1, .func (.func g2) #[] cap2.toArray] h R (by kernel_rfl) (Eq.mpr (by kernel_rfl) hv)
/-- slices.EqualFunc[[][]int64,[][]int64,[]int64,[]int64] -/
def F_slices_EqualFunc_int64_int64_int64_int64 (R : Value → Heap → Prop) (v0 : Value) (v1 : Value) (g2 : Nat) (cap2 : List Value) (h : Heap) : Prop :=
  vLen v0 fun n11 =>
  vLen v1 fun n13 =>
  bif ((n11 : Int) : Int) != (n13 : Int) then
    R (.bool false) h
  else
    vLen v0 fun n16 =>
    ∃ J : Nat → Int → Heap → Prop, (∃ n_2, J n_2 0 h) ∧ ∀ (n : Nat) (_ : Env) (x17 : Int) (h_2 : Heap), J n x17 h_2 →
    bif decide ((x17 : Int) < (n16 : Int)) then
      vIdx v0 x17 1 fun p20 =>
      ldV h_2 p20 fun v21 =>
      vIdx v1 x17 1 fun p24 =>
      ldV h_2 p24 fun v25 =>
      vOkf ctx g2 fun _ =>
      CallsH P g2 (([v21, v25] : List Value) ++ cap2).toArray h_2 fun r29 h_3 => ∃ (b29 : Bool), r29 = .bool b29 ∧
      bif !b29 then
        R (.bool false) h_3
      else
        ∃ m, m < n ∧ J m (IntKind.i64.wrap (x17 + 1)) h_3
    else
      R (.bool true) h_2
theorem w_slices_EqualFunc_int64_int64_int64_int64 {R : Value → Heap → Prop} {v0 : Value} {v1 : Value} {g2 : Nat} {cap2 : List Value} {h : Heap} (hv : F_slices_EqualFunc_int64_int64_int64_int64 R v0 v1 g2 cap2 h) : CallsH P id_slices_EqualFunc_int64_int64_int64_int64 #[v0, v1, .func (.func g2) #[] cap2.toArray] h R :=
  callsH_of_vc ctxOk ⟨[(4, [(17, .i .i64)])], []⟩ Try.func179 [v0, v1, .func (.func g2) #[] cap2.toArray] h R (by kernel_rfl) (Eq.mpr (by kernel_rfl) hv)
/-- impl.areSame -/
def F_impl_areSame (R : Value → Heap → Prop) (v0 : Value) (v1 : Value) (h : Heap) : Prop :=
  CallsH P id_slices_EqualFunc_int64_int64_int64_int64 #[v0, v1, .func (.func id_slices_Equal_int64_int64) #[] #[]] h fun r7 h_2 => ∃ (b7 : Bool), r7 = .bool b7 ∧
  R (.bool b7) h_2
theorem w_impl_areSame {R : Value → Heap → Prop} {v0 : Value} {v1 : Value} {h : Heap} (hv : F_impl_areSame R v0 v1 h) : CallsH P id_impl_areSame #[v0, v1] h R :=
  callsH_of_vc ctxOk ⟨[], []⟩ Try.func151 [v0, v1] h R (by kernel_rfl) (Eq.mpr (by kernel_rfl) hv)
/-- impl.SameObject -/
def F_impl_SameObject (R : Value → Heap → Prop) (x0_0 : Int) (x0_1 : Int) (v0_2 : Value) (x1_0 : Int) (x1_1 : Int) (v1_2 : Value) (h : Heap) : Prop :=
  vNew h (.cells #[.int .i64 x0_0, .int .i64 x0_1, v0_2] t_impl_Object) fun p2 h_2 =>
  vNew h_2 (.cells #[.int .i64 x1_0, .int .i64 x1_1, v1_2] t_impl_Object) fun p3 h_3 =>
  ldI .i64 h_3 p2 fun x6 =>
  ldI .i64 h_3 p3 fun x8 =>
  bif (x6 : Int) == x8 then
    ldI .i64 h_3 (p2.add 1) fun x12 =>
    ldI .i64 h_3 (p3.add 1) fun x14 =>
    bif (x12 : Int) == x14 then
      ldV h_3 (p2.add 2) fun v19 =>
      ldV h_3 (p3.add 2) fun v21 =>
      CallsH P id_impl_areSame #[v19, v21] h_3 fun r22 h_4 => ∃ (b22 : Bool), r22 = .bool b22 ∧
      R (.bool b22) h_4
    else
      R (.bool false) h_3
  else
    R (.bool false) h_3
theorem w_impl_SameObject {R : Value → Heap → Prop} {x0_0 : Int} {x0_1 : Int} {v0_2 : Value} {x1_0 : Int} {x1_1 : Int} {v1_2 : Value} {h : Heap} (hv : F_impl_SameObject R x0_0 x0_1 v0_2 x1_0 x1_1 v1_2 h) : CallsH P id_impl_SameObject #[.agg #[.int .i64 x0_0, .int .i64 x0_1, v0_2], .agg #[.int .i64 x1_0, .int .i64 x1_1, v1_2]] h R :=
  callsH_of_vc ctxOk ⟨[], []⟩ Try.func102 [.agg #[.int .i64 x0_0, .int .i64 x0_1, v0_2], .agg #[.int .i64 x1_0, .int .i64 x1_1, v1_2]] h R (by kernel_rfl) (Eq.mpr (by kernel_rfl) hv)
/-- impl.SameLab -/
def F_impl_SameLab (R : Value → Heap → Prop) (v0_0 : Value) (v0_1 : Value) (v1_0 : Value) (v1_1 : Value) (h : Heap) : Prop :=
  vNew h (.cells #[v0_0, v0_1] t_impl_Lab) fun p2 h_2 =>
  vNew h_2 (.cells #[v1_0, v1_1] t_impl_Lab) fun p3 h_3 =>
  ldV h_3 p2 fun v6 =>
  ldV h_3 p3 fun v8 =>
  CallsH P id_slices_EqualFunc_impl_Recipe_impl_Recipe_impl_Recipe_impl_Recipe #[v6, v8, .func (.func id_impl_sameRecipe) #[] #[]] h_3 fun r9 h_4 => ∃ (b9 : Bool), r9 = .bool b9 ∧
  bif b9 then
    ldV h_4 (p2.add 1) fun v12 =>
    ldV h_4 (p3.add 1) fun v14 =>
    CallsH P id_slices_EqualFunc_impl_Object_impl_Object_impl_Object_impl_Object #[v12, v14, .func (.func id_impl_SameObject) #[] #[]] h_4 fun r15 h_5 => ∃ (b15 : Bool), r15 = .bool b15 ∧
    R (.bool b15) h_5
  else
    R (.bool false) h_4
theorem w_impl_SameLab {R : Value → Heap → Prop} {v0_0 : Value} {v0_1 : Value} {v1_0 : Value} {v1_1 : Value} {h : Heap} (hv : F_impl_SameLab R v0_0 v0_1 v1_0 v1_1 h) : CallsH P id_impl_SameLab #[.agg #[v0_0, v0_1], .agg #[v1_0, v1_1]] h R :=
  callsH_of_vc ctxOk ⟨[], []⟩ Try.func51 [.agg #[v0_0, v0_1], .agg #[v1_0, v1_1]] h R (by kernel_rfl) (Eq.mpr (by kernel_rfl) hv)
/-- slices.EqualFunc[[]impl.Item,[]impl.Item,impl.Item,impl.Item] -/
def F_slices_EqualFunc_impl_Item_impl_Item_impl_Item_impl_Item (R : Value → Heap → Prop) (v0 : Value) (v1 : Value) (g2 : Nat) (cap2 : List Value) (h : Heap) : Prop :=
  vLen v0 fun n11 =>
  vLen v1 fun n13 =>
  bif ((n11 : Int) : Int) != (n13 : Int) then
    R (.bool false) h
  else
    vLen v0 fun n16 =>
    ∃ J : Nat → Int → Heap → Prop, (∃ n_2, J n_2 0 h) ∧ ∀ (n : Nat) (_ : Env) (x17 : Int) (h_2 : Heap), J n x17 h_2 →
    bif decide ((x17 : Int) < (n16 : Int)) then
      vIdx v0 x17 5 fun p20 =>
      ldS h_2 p20 fun s21_0 =>
      ldI .i64 h_2 (p20.add 1) fun x21_1 =>
      ldI .i64 h_2 (p20.add 2) fun x21_2 =>
      ldV h_2 (p20.add 3) fun v21_3 =>
      ldS h_2 (p20.add 4) fun s21_4 =>
      vNew h_2 (.cells #[.string ⟨#[]⟩, .int .i64 0, .int .i64 0, .slice none 0 0, .string ⟨#[]⟩] t_impl_Item) fun p8 h_3 =>
      vStore1 h_3 p8 (.string s21_0) fun h_4 =>
      vStore1 h_4 (p8.add 1) (.int .i64 x21_1) fun h_5 =>
      vStore1 h_5 (p8.add 2) (.int .i64 x21_2) fun h_6 =>
      vStore1 h_6 (p8.add 3) v21_3 fun h_7 =>
      vStore1 h_7 (p8.add 4) (.string s21_4) fun h_8 =>
      vIdx v1 x17 5 fun p24 =>
      ldS h_8 p24 fun s25_0 =>
      ldI .i64 h_8 (p24.add 1) fun x25_1 =>
      ldI .i64 h_8 (p24.add 2) fun x25_2 =>
      ldV h_8 (p24.add 3) fun v25_3 =>
      ldS h_8 (p24.add 4) fun s25_4 =>
      vNew h_8 (.cells #[.string ⟨#[]⟩, .int .i64 0, .int .i64 0, .slice none 0 0, .string ⟨#[]⟩] t_impl_Item) fun p9 h_9 =>
      vStore1 h_9 p9 (.string s25_0) fun h_10 =>
      vStore1 h_10 (p9.add 1) (.int .i64 x25_1) fun h_11 =>
      vStore1 h_11 (p9.add 2) (.int .i64 x25_2) fun h_12 =>
      vStore1 h_12 (p9.add 3) v25_3 fun h_13 =>
      vStore1 h_13 (p9.add 4) (.string s25_4) fun h_14 =>
      ldS h_14 p8 fun s27_0 =>
      ldI .i64 h_14 (p8.add 1) fun x27_1 =>
      ldI .i64 h_14 (p8.add 2) fun x27_2 =>
      ldV h_14 (p8.add 3) fun v27_3 =>
      ldS h_14 (p8.add 4) fun s27_4 =>
      ldS h_14 p9 fun s28_0 =>
      ldI .i64 h_14 (p9.add 1) fun x28_1 =>
      ldI .i64 h_14 (p9.add 2) fun x28_2 =>
      ldV h_14 (p9.add 3) fun v28_3 =>
      ldS h_14 (p9.add 4) fun s28_4 =>
      vOkf ctx g2 fun _ =>
      CallsH P g2 (([.agg #[.string s27_0, .int .i64 x27_1, .int .i64 x27_2, v27_3, .string s27_4], .agg #[.string s28_0, .int .i64 x28_1, .int .i64 x28_2, v28_3, .string s28_4]] : List Value) ++ cap2).toArray h_14 fun r29 h_15 => ∃ (b29 : Bool), r29 = .bool b29 ∧
      bif !b29 then
        R (.bool false) h_15
      else
        ∃ m, m < n ∧ J m (IntKind.i64.wrap (x17 + 1)) h_15
    else
      R (.bool true) h_2
theorem w_slices_EqualFunc_impl_Item_impl_Item_impl_Item_impl_Item {R : Value → Heap → Prop} {v0 : Value} {v1 : Value} {g2 : Nat} {cap2 : List Value} {h : Heap} (hv : F_slices_EqualFunc_impl_Item_impl_Item_impl_Item_impl_Item R v0 v1 g2 cap2 h) : CallsH P id_slices_EqualFunc_impl_Item_impl_Item_impl_Item_impl_Item #[v0, v1, .func (.func g2) #[] cap2.toArray] h R :=
  callsH_of_vc ctxOk ⟨[(4, [(17, .i .i64)])], []⟩ Try.func103 [v0, v1, .func (.func g2) #[] cap2.toArray] h R (by kernel_rfl) (Eq.mpr (by kernel_rfl) hv)
/-- impl.SameCatalog$1 -/
def F_impl_SameCatalog_1 (R : Value → Heap → Prop) (s0_0 : ByteArray) (x0_1 : Int) (x0_2 : Int) (v0_3 : Value) (s0_4 : ByteArray) (s1_0 : ByteArray) (x1_1 : Int) (x1_2 : Int) (v1_3 : Value) (s1_4 : ByteArray) (h : Heap) : Prop :=
  vNew h (.cells #[.string s0_0, .int .i64 x0_1, .int .i64 x0_2, v0_3, .string s0_4] t_impl_Item) fun p2 h_2 =>
  vNew h_2 (.cells #[.string s1_0, .int .i64 x1_1, .int .i64 x1_2, v1_3, .string s1_4] t_impl_Item) fun p3 h_3 =>
  ldS h_3 p2 fun s6 =>
  ldS h_3 p3 fun s8 =>
  bif s6.toList == s8.toList then
    ldS h_3 (p2.add 4) fun s12 =>
    ldS h_3 (p3.add 4) fun s14 =>
    bif s12.toList == s14.toList then
      ldI .i64 h_3 (p2.add 1) fun x19_0 =>
      ldI .i64 h_3 ((p2.add 1).add 1) fun x19_1 =>
      ldV h_3 ((p2.add 1).add 2) fun v19_2 =>
      ldI .i64 h_3 (p3.add 1) fun x21_0 =>
      ldI .i64 h_3 ((p3.add 1).add 1) fun x21_1 =>
      ldV h_3 ((p3.add 1).add 2) fun v21_2 =>
      CallsH P id_impl_SameObject #[.agg #[.int .i64 x19_0, .int .i64 x19_1, v19_2], .agg #[.int .i64 x21_0, .int .i64 x21_1, v21_2]] h_3 fun r22 h_4 => ∃ (b22 : Bool), r22 = .bool b22 ∧
      R (.bool b22) h_4
    else
      R (.bool false) h_3
  else
    R (.bool false) h_3
theorem w_impl_SameCatalog_1 {R : Value → Heap → Prop} {s0_0 : ByteArray} {x0_1 : Int} {x0_2 : Int} {v0_3 : Value} {s0_4 : ByteArray} {s1_0 : ByteArray} {x1_1 : Int} {x1_2 : Int} {v1_3 : Value} {s1_4 : ByteArray} {h : Heap} (hv : F_impl_SameCatalog_1 R s0_0 x0_1 x0_2 v0_3 s0_4 s1_0 x1_1 x1_2 v1_3 s1_4 h) : CallsH P id_impl_SameCatalog_1 #[.agg #[.string s0_0, .int .i64 x0_1, .int .i64 x0_2, v0_3, .string s0_4], .agg #[.string s1_0, .int .i64 x1_1, .int .i64 x1_2, v1_3, .string s1_4]] h R :=
  callsH_of_vc ctxOk ⟨[], []⟩ Try.func104 [.agg #[.string s0_0, .int .i64 x0_1, .int .i64 x0_2, v0_3, .string s0_4], .agg #[.string s1_0, .int .i64 x1_1, .int .i64 x1_2, v1_3, .string s1_4]] h R (by kernel_rfl) (Eq.mpr (by kernel_rfl) hv)
/-- impl.SameCatalog -/
def F_impl_SameCatalog (R : Value → Heap → Prop) (v0_0 : Value) (v1_0 : Value) (h : Heap) : Prop :=
  vNew h (.cells #[v0_0] t_impl_Catalog) fun p2 h_2 =>
  vNew h_2 (.cells #[v1_0] t_impl_Catalog) fun p3 h_3 =>
  ldV h_3 p2 fun v6 =>
  ldV h_3 p3 fun v8 =>
  CallsH P id_slices_EqualFunc_impl_Item_impl_Item_impl_Item_impl_Item #[v6, v8, .func (.func id_impl_SameCatalog_1) #[] #[]] h_3 fun r9 h_4 => ∃ (b9 : Bool), r9 = .bool b9 ∧
  R (.bool b9) h_4
theorem w_impl_SameCatalog {R : Value → Heap → Prop} {v0_0 : Value} {v1_0 : Value} {h : Heap} (hv : F_impl_SameCatalog R v0_0 v1_0 h) : CallsH P id_impl_SameCatalog #[.agg #[v0_0], .agg #[v1_0]] h R :=
  callsH_of_vc ctxOk ⟨[], []⟩ Try.func52 [.agg #[v0_0], .agg #[v1_0]] h R (by kernel_rfl) (Eq.mpr (by kernel_rfl) hv)
/-- impl.SameDesk -/
def F_impl_SameDesk (R : Value → Heap → Prop) (v0_0 : Value) (v0_1 : Value) (v0_2 : Value) (v1_0 : Value) (v1_1 : Value) (v1_2 : Value) (h : Heap) : Prop :=
  vNew h (.cells #[v0_0, v0_1, v0_2] t_impl_Desk) fun p2 h_2 =>
  vNew h_2 (.cells #[v1_0, v1_1, v1_2] t_impl_Desk) fun p3 h_3 =>
  ldV h_3 p2 fun v6_0 =>
  ldV h_3 (p2.add 1) fun v6_1 =>
  ldV h_3 p3 fun v8_0 =>
  ldV h_3 (p3.add 1) fun v8_1 =>
  CallsH P id_impl_SameLab #[.agg #[v6_0, v6_1], .agg #[v8_0, v8_1]] h_3 fun r9 h_4 => ∃ (b9 : Bool), r9 = .bool b9 ∧
  bif b9 then
    ldV h_4 (p2.add 2) fun v12_0 =>
    ldV h_4 (p3.add 2) fun v14_0 =>
    CallsH P id_impl_SameCatalog #[.agg #[v12_0], .agg #[v14_0]] h_4 fun r15 h_5 => ∃ (b15 : Bool), r15 = .bool b15 ∧
    R (.bool b15) h_5
  else
    R (.bool false) h_4
theorem w_impl_SameDesk {R : Value → Heap → Prop} {v0_0 : Value} {v0_1 : Value} {v0_2 : Value} {v1_0 : Value} {v1_1 : Value} {v1_2 : Value} {h : Heap} (hv : F_impl_SameDesk R v0_0 v0_1 v0_2 v1_0 v1_1 v1_2 h) : CallsH P id_impl_SameDesk #[.agg #[v0_0, v0_1, v0_2], .agg #[v1_0, v1_1, v1_2]] h R :=
  callsH_of_vc ctxOk ⟨[], []⟩ Try.func17 [.agg #[v0_0, v0_1, v0_2], .agg #[v1_0, v1_1, v1_2]] h R (by kernel_rfl) (Eq.mpr (by kernel_rfl) hv)
/-- laws.eqInt64S -/
def F_laws_eqInt64S (R : Value → Heap → Prop) (v0 : Value) (v1 : Value) (h : Heap) : Prop :=
  vLen v0 fun n7 =>
  vLen v1 fun n9 =>
  bif ((n7 : Int) : Int) != (n9 : Int) then
    R (.bool false) h
  else
    ∃ J : Nat → Int → Heap → Prop, (∃ n_2, J n_2 0 h) ∧ ∀ (n : Nat) (_ : Env) (x5 : Int) (h_2 : Heap), J n x5 h_2 →
    vLen v0 fun n13 =>
    bif decide ((x5 : Int) < (n13 : Int)) then
      vIdx v0 x5 1 fun p19 =>
      ldI .i64 h_2 p19 fun x20 =>
      vIdx v1 x5 1 fun p23 =>
      ldI .i64 h_2 p23 fun x24 =>
      bif (x20 : Int) != x24 then
        R (.bool false) h_2
      else
        ∃ m, m < n ∧ J m (IntKind.i64.wrap (x5 + 1)) h_2
    else
      R (.bool true) h_2
theorem w_laws_eqInt64S {R : Value → Heap → Prop} {v0 : Value} {v1 : Value} {h : Heap} (hv : F_laws_eqInt64S R v0 v1 h) : CallsH P id_laws_eqInt64S #[v0, v1] h R :=
  callsH_of_vc ctxOk ⟨[(4, [(5, .i .i64)])], []⟩ Try.func121 [v0, v1] h R (by kernel_rfl) (Eq.mpr (by kernel_rfl) hv)
/-- laws.eqStringS -/
def F_laws_eqStringS (R : Value → Heap → Prop) (v0 : Value) (v1 : Value) (h : Heap) : Prop :=
  vLen v0 fun n7 =>
  vLen v1 fun n9 =>
  bif ((n7 : Int) : Int) != (n9 : Int) then
    R (.bool false) h
  else
    ∃ J : Nat → Int → Heap → Prop, (∃ n_2, J n_2 0 h) ∧ ∀ (n : Nat) (_ : Env) (x5 : Int) (h_2 : Heap), J n x5 h_2 →
    vLen v0 fun n13 =>
    bif decide ((x5 : Int) < (n13 : Int)) then
      vIdx v0 x5 1 fun p19 =>
      ldS h_2 p19 fun s20 =>
      vIdx v1 x5 1 fun p23 =>
      ldS h_2 p23 fun s24 =>
      bif !(s20.toList == s24.toList) then
        R (.bool false) h_2
      else
        ∃ m, m < n ∧ J m (IntKind.i64.wrap (x5 + 1)) h_2
    else
      R (.bool true) h_2
theorem w_laws_eqStringS {R : Value → Heap → Prop} {v0 : Value} {v1 : Value} {h : Heap} (hv : F_laws_eqStringS R v0 v1 h) : CallsH P id_laws_eqStringS #[v0, v1] h R :=
  callsH_of_vc ctxOk ⟨[(4, [(5, .i .i64)])], []⟩ Try.func180 [v0, v1] h R (by kernel_rfl) (Eq.mpr (by kernel_rfl) hv)
/-- laws.eqRecipe -/
def F_laws_eqRecipe (R : Value → Heap → Prop) (s0_0 : ByteArray) (s0_1 : ByteArray) (v0_2 : Value) (v0_3 : Value) (s1_0 : ByteArray) (s1_1 : ByteArray) (v1_2 : Value) (v1_3 : Value) (h : Heap) : Prop :=
  vNew h (.cells #[.string s0_0, .string s0_1, v0_2, v0_3] t_impl_Recipe) fun p2 h_2 =>
  vNew h_2 (.cells #[.string s1_0, .string s1_1, v1_2, v1_3] t_impl_Recipe) fun p3 h_3 =>
  ldS h_3 p2 fun s6 =>
  ldS h_3 p3 fun s8 =>
  bif !(s6.toList == s8.toList) then
    R (.bool false) h_3
  else
    ldS h_3 (p2.add 1) fun s11 =>
    ldS h_3 (p3.add 1) fun s13 =>
    bif !(s11.toList == s13.toList) then
      R (.bool false) h_3
    else
      ldV h_3 (p2.add 2) fun v16 =>
      ldV h_3 (p3.add 2) fun v18 =>
      CallsH P id_laws_eqInt64S #[v16, v18] h_3 fun r19 h_4 => ∃ (b19 : Bool), r19 = .bool b19 ∧
      bif !b19 then
        R (.bool false) h_4
      else
        ldV h_4 (p2.add 3) fun v22 =>
        ldV h_4 (p3.add 3) fun v24 =>
        CallsH P id_laws_eqStringS #[v22, v24] h_4 fun r25 h_5 => ∃ (b25 : Bool), r25 = .bool b25 ∧
        bif !b25 then
          R (.bool false) h_5
        else
          R (.bool true) h_5
theorem w_laws_eqRecipe {R : Value → Heap → Prop} {s0_0 : ByteArray} {s0_1 : ByteArray} {v0_2 : Value} {v0_3 : Value} {s1_0 : ByteArray} {s1_1 : ByteArray} {v1_2 : Value} {v1_3 : Value} {h : Heap} (hv : F_laws_eqRecipe R s0_0 s0_1 v0_2 v0_3 s1_0 s1_1 v1_2 v1_3 h) : CallsH P id_laws_eqRecipe #[.agg #[.string s0_0, .string s0_1, v0_2, v0_3], .agg #[.string s1_0, .string s1_1, v1_2, v1_3]] h R :=
  callsH_of_vc ctxOk ⟨[], []⟩ Try.func152 [.agg #[.string s0_0, .string s0_1, v0_2, v0_3], .agg #[.string s1_0, .string s1_1, v1_2, v1_3]] h R (by kernel_rfl) (Eq.mpr (by kernel_rfl) hv)
/-- laws.eqRecipeS -/
def F_laws_eqRecipeS (R : Value → Heap → Prop) (v0 : Value) (v1 : Value) (h : Heap) : Prop :=
  vLen v0 fun n7 =>
  vLen v1 fun n9 =>
  bif ((n7 : Int) : Int) != (n9 : Int) then
    R (.bool false) h
  else
    ∃ J : Nat → Int → Heap → Prop, (∃ n_2, J n_2 0 h) ∧ ∀ (n : Nat) (_ : Env) (x5 : Int) (h_2 : Heap), J n x5 h_2 →
    vLen v0 fun n13 =>
    bif decide ((x5 : Int) < (n13 : Int)) then
      vIdx v0 x5 4 fun p19 =>
      ldS h_2 p19 fun s20_0 =>
      ldS h_2 (p19.add 1) fun s20_1 =>
      ldV h_2 (p19.add 2) fun v20_2 =>
      ldV h_2 (p19.add 3) fun v20_3 =>
      vIdx v1 x5 4 fun p23 =>
      ldS h_2 p23 fun s24_0 =>
      ldS h_2 (p23.add 1) fun s24_1 =>
      ldV h_2 (p23.add 2) fun v24_2 =>
      ldV h_2 (p23.add 3) fun v24_3 =>
      CallsH P id_laws_eqRecipe #[.agg #[.string s20_0, .string s20_1, v20_2, v20_3], .agg #[.string s24_0, .string s24_1, v24_2, v24_3]] h_2 fun r25 h_3 => ∃ (b25 : Bool), r25 = .bool b25 ∧
      bif !b25 then
        R (.bool false) h_3
      else
        ∃ m, m < n ∧ J m (IntKind.i64.wrap (x5 + 1)) h_3
    else
      R (.bool true) h_2
theorem w_laws_eqRecipeS {R : Value → Heap → Prop} {v0 : Value} {v1 : Value} {h : Heap} (hv : F_laws_eqRecipeS R v0 v1 h) : CallsH P id_laws_eqRecipeS #[v0, v1] h R :=
  callsH_of_vc ctxOk ⟨[(4, [(5, .i .i64)])], []⟩ Try.func105 [v0, v1] h R (by kernel_rfl) (Eq.mpr (by kernel_rfl) hv)
/-- laws.eqInt64SS -/
def F_laws_eqInt64SS (R : Value → Heap → Prop) (v0 : Value) (v1 : Value) (h : Heap) : Prop :=
  vLen v0 fun n7 =>
  vLen v1 fun n9 =>
  bif ((n7 : Int) : Int) != (n9 : Int) then
    R (.bool false) h
  else
    ∃ J : Nat → Int → Heap → Prop, (∃ n_2, J n_2 0 h) ∧ ∀ (n : Nat) (_ : Env) (x5 : Int) (h_2 : Heap), J n x5 h_2 →
    vLen v0 fun n13 =>
    bif decide ((x5 : Int) < (n13 : Int)) then
      vIdx v0 x5 1 fun p19 =>
      ldV h_2 p19 fun v20 =>
      vIdx v1 x5 1 fun p23 =>
      ldV h_2 p23 fun v24 =>
      CallsH P id_laws_eqInt64S #[v20, v24] h_2 fun r25 h_3 => ∃ (b25 : Bool), r25 = .bool b25 ∧
      bif !b25 then
        R (.bool false) h_3
      else
        ∃ m, m < n ∧ J m (IntKind.i64.wrap (x5 + 1)) h_3
    else
      R (.bool true) h_2
theorem w_laws_eqInt64SS {R : Value → Heap → Prop} {v0 : Value} {v1 : Value} {h : Heap} (hv : F_laws_eqInt64SS R v0 v1 h) : CallsH P id_laws_eqInt64SS #[v0, v1] h R :=
  callsH_of_vc ctxOk ⟨[(4, [(5, .i .i64)])], []⟩ Try.func60 [v0, v1] h R (by kernel_rfl) (Eq.mpr (by kernel_rfl) hv)
/-- laws.eqObject -/
def F_laws_eqObject (R : Value → Heap → Prop) (x0_0 : Int) (x0_1 : Int) (v0_2 : Value) (x1_0 : Int) (x1_1 : Int) (v1_2 : Value) (h : Heap) : Prop :=
  vNew h (.cells #[.int .i64 x0_0, .int .i64 x0_1, v0_2] t_impl_Object) fun p2 h_2 =>
  vNew h_2 (.cells #[.int .i64 x1_0, .int .i64 x1_1, v1_2] t_impl_Object) fun p3 h_3 =>
  ldI .i64 h_3 p2 fun x6 =>
  ldI .i64 h_3 p3 fun x8 =>
  bif (x6 : Int) != x8 then
    R (.bool false) h_3
  else
    ldI .i64 h_3 (p2.add 1) fun x11 =>
    ldI .i64 h_3 (p3.add 1) fun x13 =>
    bif (x11 : Int) != x13 then
      R (.bool false) h_3
    else
      ldV h_3 (p2.add 2) fun v16 =>
      ldV h_3 (p3.add 2) fun v18 =>
      CallsH P id_laws_eqInt64SS #[v16, v18] h_3 fun r19 h_4 => ∃ (b19 : Bool), r19 = .bool b19 ∧
      bif !b19 then
        R (.bool false) h_4
      else
        R (.bool true) h_4
theorem w_laws_eqObject {R : Value → Heap → Prop} {x0_0 : Int} {x0_1 : Int} {v0_2 : Value} {x1_0 : Int} {x1_1 : Int} {v1_2 : Value} {h : Heap} (hv : F_laws_eqObject R x0_0 x0_1 v0_2 x1_0 x1_1 v1_2 h) : CallsH P id_laws_eqObject #[.agg #[.int .i64 x0_0, .int .i64 x0_1, v0_2], .agg #[.int .i64 x1_0, .int .i64 x1_1, v1_2]] h R :=
  callsH_of_vc ctxOk ⟨[], []⟩ Try.func153 [.agg #[.int .i64 x0_0, .int .i64 x0_1, v0_2], .agg #[.int .i64 x1_0, .int .i64 x1_1, v1_2]] h R (by kernel_rfl) (Eq.mpr (by kernel_rfl) hv)
/-- laws.eqObjectS -/
def F_laws_eqObjectS (R : Value → Heap → Prop) (v0 : Value) (v1 : Value) (h : Heap) : Prop :=
  vLen v0 fun n7 =>
  vLen v1 fun n9 =>
  bif ((n7 : Int) : Int) != (n9 : Int) then
    R (.bool false) h
  else
    ∃ J : Nat → Int → Heap → Prop, (∃ n_2, J n_2 0 h) ∧ ∀ (n : Nat) (_ : Env) (x5 : Int) (h_2 : Heap), J n x5 h_2 →
    vLen v0 fun n13 =>
    bif decide ((x5 : Int) < (n13 : Int)) then
      vIdx v0 x5 3 fun p19 =>
      ldI .i64 h_2 p19 fun x20_0 =>
      ldI .i64 h_2 (p19.add 1) fun x20_1 =>
      ldV h_2 (p19.add 2) fun v20_2 =>
      vIdx v1 x5 3 fun p23 =>
      ldI .i64 h_2 p23 fun x24_0 =>
      ldI .i64 h_2 (p23.add 1) fun x24_1 =>
      ldV h_2 (p23.add 2) fun v24_2 =>
      CallsH P id_laws_eqObject #[.agg #[.int .i64 x20_0, .int .i64 x20_1, v20_2], .agg #[.int .i64 x24_0, .int .i64 x24_1, v24_2]] h_2 fun r25 h_3 => ∃ (b25 : Bool), r25 = .bool b25 ∧
      bif !b25 then
        R (.bool false) h_3
      else
        ∃ m, m < n ∧ J m (IntKind.i64.wrap (x5 + 1)) h_3
    else
      R (.bool true) h_2
theorem w_laws_eqObjectS {R : Value → Heap → Prop} {v0 : Value} {v1 : Value} {h : Heap} (hv : F_laws_eqObjectS R v0 v1 h) : CallsH P id_laws_eqObjectS #[v0, v1] h R :=
  callsH_of_vc ctxOk ⟨[(4, [(5, .i .i64)])], []⟩ Try.func106 [v0, v1] h R (by kernel_rfl) (Eq.mpr (by kernel_rfl) hv)
/-- laws.eqLab -/
def F_laws_eqLab (R : Value → Heap → Prop) (v0_0 : Value) (v0_1 : Value) (v1_0 : Value) (v1_1 : Value) (h : Heap) : Prop :=
  vNew h (.cells #[v0_0, v0_1] t_impl_Lab) fun p2 h_2 =>
  vNew h_2 (.cells #[v1_0, v1_1] t_impl_Lab) fun p3 h_3 =>
  ldV h_3 p2 fun v6 =>
  ldV h_3 p3 fun v8 =>
  CallsH P id_laws_eqRecipeS #[v6, v8] h_3 fun r9 h_4 => ∃ (b9 : Bool), r9 = .bool b9 ∧
  bif !b9 then
    R (.bool false) h_4
  else
    ldV h_4 (p2.add 1) fun v12 =>
    ldV h_4 (p3.add 1) fun v14 =>
    CallsH P id_laws_eqObjectS #[v12, v14] h_4 fun r15 h_5 => ∃ (b15 : Bool), r15 = .bool b15 ∧
    bif !b15 then
      R (.bool false) h_5
    else
      R (.bool true) h_5
theorem w_laws_eqLab {R : Value → Heap → Prop} {v0_0 : Value} {v0_1 : Value} {v1_0 : Value} {v1_1 : Value} {h : Heap} (hv : F_laws_eqLab R v0_0 v0_1 v1_0 v1_1 h) : CallsH P id_laws_eqLab #[.agg #[v0_0, v0_1], .agg #[v1_0, v1_1]] h R :=
  callsH_of_vc ctxOk ⟨[], []⟩ Try.func53 [.agg #[v0_0, v0_1], .agg #[v1_0, v1_1]] h R (by kernel_rfl) (Eq.mpr (by kernel_rfl) hv)
/-- laws.eqItem -/
def F_laws_eqItem (R : Value → Heap → Prop) (s0_0 : ByteArray) (x0_1 : Int) (x0_2 : Int) (v0_3 : Value) (s0_4 : ByteArray) (s1_0 : ByteArray) (x1_1 : Int) (x1_2 : Int) (v1_3 : Value) (s1_4 : ByteArray) (h : Heap) : Prop :=
  vNew h (.cells #[.string s0_0, .int .i64 x0_1, .int .i64 x0_2, v0_3, .string s0_4] t_impl_Item) fun p2 h_2 =>
  vNew h_2 (.cells #[.string s1_0, .int .i64 x1_1, .int .i64 x1_2, v1_3, .string s1_4] t_impl_Item) fun p3 h_3 =>
  ldS h_3 p2 fun s6 =>
  ldS h_3 p3 fun s8 =>
  bif !(s6.toList == s8.toList) then
    R (.bool false) h_3
  else
    ldI .i64 h_3 (p2.add 1) fun x11_0 =>
    ldI .i64 h_3 ((p2.add 1).add 1) fun x11_1 =>
    ldV h_3 ((p2.add 1).add 2) fun v11_2 =>
    ldI .i64 h_3 (p3.add 1) fun x13_0 =>
    ldI .i64 h_3 ((p3.add 1).add 1) fun x13_1 =>
    ldV h_3 ((p3.add 1).add 2) fun v13_2 =>
    CallsH P id_laws_eqObject #[.agg #[.int .i64 x11_0, .int .i64 x11_1, v11_2], .agg #[.int .i64 x13_0, .int .i64 x13_1, v13_2]] h_3 fun r14 h_4 => ∃ (b14 : Bool), r14 = .bool b14 ∧
    bif !b14 then
      R (.bool false) h_4
    else
      ldS h_4 (p2.add 4) fun s17 =>
      ldS h_4 (p3.add 4) fun s19 =>
      bif !(s17.toList == s19.toList) then
        R (.bool false) h_4
      else
        R (.bool true) h_4
theorem w_laws_eqItem {R : Value → Heap → Prop} {s0_0 : ByteArray} {x0_1 : Int} {x0_2 : Int} {v0_3 : Value} {s0_4 : ByteArray} {s1_0 : ByteArray} {x1_1 : Int} {x1_2 : Int} {v1_3 : Value} {s1_4 : ByteArray} {h : Heap} (hv : F_laws_eqItem R s0_0 x0_1 x0_2 v0_3 s0_4 s1_0 x1_1 x1_2 v1_3 s1_4 h) : CallsH P id_laws_eqItem #[.agg #[.string s0_0, .int .i64 x0_1, .int .i64 x0_2, v0_3, .string s0_4], .agg #[.string s1_0, .int .i64 x1_1, .int .i64 x1_2, v1_3, .string s1_4]] h R :=
  callsH_of_vc ctxOk ⟨[], []⟩ Try.func154 [.agg #[.string s0_0, .int .i64 x0_1, .int .i64 x0_2, v0_3, .string s0_4], .agg #[.string s1_0, .int .i64 x1_1, .int .i64 x1_2, v1_3, .string s1_4]] h R (by kernel_rfl) (Eq.mpr (by kernel_rfl) hv)
/-- laws.eqItemS -/
def F_laws_eqItemS (R : Value → Heap → Prop) (v0 : Value) (v1 : Value) (h : Heap) : Prop :=
  vLen v0 fun n7 =>
  vLen v1 fun n9 =>
  bif ((n7 : Int) : Int) != (n9 : Int) then
    R (.bool false) h
  else
    ∃ J : Nat → Int → Heap → Prop, (∃ n_2, J n_2 0 h) ∧ ∀ (n : Nat) (_ : Env) (x5 : Int) (h_2 : Heap), J n x5 h_2 →
    vLen v0 fun n13 =>
    bif decide ((x5 : Int) < (n13 : Int)) then
      vIdx v0 x5 5 fun p19 =>
      ldS h_2 p19 fun s20_0 =>
      ldI .i64 h_2 (p19.add 1) fun x20_1 =>
      ldI .i64 h_2 (p19.add 2) fun x20_2 =>
      ldV h_2 (p19.add 3) fun v20_3 =>
      ldS h_2 (p19.add 4) fun s20_4 =>
      vIdx v1 x5 5 fun p23 =>
      ldS h_2 p23 fun s24_0 =>
      ldI .i64 h_2 (p23.add 1) fun x24_1 =>
      ldI .i64 h_2 (p23.add 2) fun x24_2 =>
      ldV h_2 (p23.add 3) fun v24_3 =>
      ldS h_2 (p23.add 4) fun s24_4 =>
      CallsH P id_laws_eqItem #[.agg #[.string s20_0, .int .i64 x20_1, .int .i64 x20_2, v20_3, .string s20_4], .agg #[.string s24_0, .int .i64 x24_1, .int .i64 x24_2, v24_3, .string s24_4]] h_2 fun r25 h_3 => ∃ (b25 : Bool), r25 = .bool b25 ∧
      bif !b25 then
        R (.bool false) h_3
      else
        ∃ m, m < n ∧ J m (IntKind.i64.wrap (x5 + 1)) h_3
    else
      R (.bool true) h_2
theorem w_laws_eqItemS {R : Value → Heap → Prop} {v0 : Value} {v1 : Value} {h : Heap} (hv : F_laws_eqItemS R v0 v1 h) : CallsH P id_laws_eqItemS #[v0, v1] h R :=
  callsH_of_vc ctxOk ⟨[(4, [(5, .i .i64)])], []⟩ Try.func107 [v0, v1] h R (by kernel_rfl) (Eq.mpr (by kernel_rfl) hv)
/-- laws.eqCatalog -/
def F_laws_eqCatalog (R : Value → Heap → Prop) (v0_0 : Value) (v1_0 : Value) (h : Heap) : Prop :=
  vNew h (.cells #[v0_0] t_impl_Catalog) fun p2 h_2 =>
  vNew h_2 (.cells #[v1_0] t_impl_Catalog) fun p3 h_3 =>
  ldV h_3 p2 fun v6 =>
  ldV h_3 p3 fun v8 =>
  CallsH P id_laws_eqItemS #[v6, v8] h_3 fun r9 h_4 => ∃ (b9 : Bool), r9 = .bool b9 ∧
  bif !b9 then
    R (.bool false) h_4
  else
    R (.bool true) h_4
theorem w_laws_eqCatalog {R : Value → Heap → Prop} {v0_0 : Value} {v1_0 : Value} {h : Heap} (hv : F_laws_eqCatalog R v0_0 v1_0 h) : CallsH P id_laws_eqCatalog #[.agg #[v0_0], .agg #[v1_0]] h R :=
  callsH_of_vc ctxOk ⟨[], []⟩ Try.func54 [.agg #[v0_0], .agg #[v1_0]] h R (by kernel_rfl) (Eq.mpr (by kernel_rfl) hv)
/-- laws.eqDesk -/
def F_laws_eqDesk (R : Value → Heap → Prop) (v0_0 : Value) (v0_1 : Value) (v0_2 : Value) (v1_0 : Value) (v1_1 : Value) (v1_2 : Value) (h : Heap) : Prop :=
  vNew h (.cells #[v0_0, v0_1, v0_2] t_impl_Desk) fun p2 h_2 =>
  vNew h_2 (.cells #[v1_0, v1_1, v1_2] t_impl_Desk) fun p3 h_3 =>
  ldV h_3 p2 fun v6_0 =>
  ldV h_3 (p2.add 1) fun v6_1 =>
  ldV h_3 p3 fun v8_0 =>
  ldV h_3 (p3.add 1) fun v8_1 =>
  CallsH P id_laws_eqLab #[.agg #[v6_0, v6_1], .agg #[v8_0, v8_1]] h_3 fun r9 h_4 => ∃ (b9 : Bool), r9 = .bool b9 ∧
  bif !b9 then
    R (.bool false) h_4
  else
    ldV h_4 (p2.add 2) fun v12_0 =>
    ldV h_4 (p3.add 2) fun v14_0 =>
    CallsH P id_laws_eqCatalog #[.agg #[v12_0], .agg #[v14_0]] h_4 fun r15 h_5 => ∃ (b15 : Bool), r15 = .bool b15 ∧
    bif !b15 then
      R (.bool false) h_5
    else
      R (.bool true) h_5
theorem w_laws_eqDesk {R : Value → Heap → Prop} {v0_0 : Value} {v0_1 : Value} {v0_2 : Value} {v1_0 : Value} {v1_1 : Value} {v1_2 : Value} {h : Heap} (hv : F_laws_eqDesk R v0_0 v0_1 v0_2 v1_0 v1_1 v1_2 h) : CallsH P id_laws_eqDesk #[.agg #[v0_0, v0_1, v0_2], .agg #[v1_0, v1_1, v1_2]] h R :=
  callsH_of_vc ctxOk ⟨[], []⟩ Try.func18 [.agg #[v0_0, v0_1, v0_2], .agg #[v1_0, v1_1, v1_2]] h R (by kernel_rfl) (Eq.mpr (by kernel_rfl) hv)
/-- laws.FnExactSameDesk -/
def F_laws_FnExactSameDesk (R : Value → Heap → Prop) (v0_0 : Value) (v0_1 : Value) (v0_2 : Value) (v1_0 : Value) (v1_1 : Value) (v1_2 : Value) (h : Heap) : Prop :=
  vNew h (.cells #[v0_0, v0_1, v0_2] t_laws_Desk) fun p2 h_2 =>
  vNew h_2 (.cells #[v1_0, v1_1, v1_2] t_laws_Desk) fun p3 h_3 =>
  ldV h_3 p2 fun v10_0 =>
  ldV h_3 (p2.add 1) fun v10_1 =>
  ldV h_3 (p2.add 2) fun v10_2 =>
  CallsH P id_laws_szDesk #[.agg #[v10_0, v10_1, v10_2], .int .i64 1048576] h_3 fun r12 h_4 => ∃ (x12 : Int), r12 = .int .i64 x12 ∧
  bif decide ((x12 : Int) < 0) then
    R (.bool true) h_4
  else
    ldV h_4 p3 fun v15_0 =>
    ldV h_4 (p3.add 1) fun v15_1 =>
    ldV h_4 (p3.add 2) fun v15_2 =>
    CallsH P id_laws_szDesk #[.agg #[v15_0, v15_1, v15_2], .int .i64 x12] h_4 fun r17 h_5 => ∃ (x17 : Int), r17 = .int .i64 x17 ∧
    bif decide ((x17 : Int) < 0) then
      R (.bool true) h_5
    else
      ldV h_5 p2 fun v20_0 =>
      ldV h_5 (p2.add 1) fun v20_1 =>
      ldV h_5 (p2.add 2) fun v20_2 =>
      CallsH P id_laws_toDesk #[.agg #[v20_0, v20_1, v20_2]] h_5 fun r21 h_6 => ∃ (v21_0_0 : Value), ∃ (v21_0_1 : Value), ∃ (v21_0_2 : Value), r21 = .agg #[v21_0_0, v21_0_1, v21_0_2] ∧
      ExtH h_5 h_6 ∧
      ldV h_5 p3 fun v22_0 =>
      ldV h_5 (p3.add 1) fun v22_1 =>
      ldV h_5 (p3.add 2) fun v22_2 =>
      CallsH P id_laws_toDesk #[.agg #[v22_0, v22_1, v22_2]] h_6 fun r23 h_7 => ∃ (v23_0_0 : Value), ∃ (v23_0_1 : Value), ∃ (v23_0_2 : Value), r23 = .agg #[v23_0_0, v23_0_1, v23_0_2] ∧
      CallsH P id_spec_SameDesk #[.agg #[v21_0_0, v21_0_1, v21_0_2], .agg #[v23_0_0, v23_0_1, v23_0_2]] h_7 fun r24 h_8 => ∃ (b24 : Bool), r24 = .bool b24 ∧
      ldV h_8 p2 fun v25_0 =>
      ldV h_8 (p2.add 1) fun v25_1 =>
      ldV h_8 (p2.add 2) fun v25_2 =>
      CallsH P id_laws_toDesk #[.agg #[v25_0, v25_1, v25_2]] h_8 fun r26 h_9 => ∃ (v26_0_0 : Value), ∃ (v26_0_1 : Value), ∃ (v26_0_2 : Value), r26 = .agg #[v26_0_0, v26_0_1, v26_0_2] ∧
      vNew h_9 (.cells #[.slice none 0 0, .slice none 0 0, .slice none 0 0] t_impl_Desk) fun p7 h_10 =>
      vStore1 h_10 p7 v26_0_0 fun h_11 =>
      vStore1 h_11 (p7.add 1) v26_0_1 fun h_12 =>
      vStore1 h_12 (p7.add 2) v26_0_2 fun h_13 =>
      ldV h_13 p3 fun v27_0 =>
      ldV h_13 (p3.add 1) fun v27_1 =>
      ldV h_13 (p3.add 2) fun v27_2 =>
      CallsH P id_laws_toDesk #[.agg #[v27_0, v27_1, v27_2]] h_13 fun r28 h_14 => ∃ (v28_0_0 : Value), ∃ (v28_0_1 : Value), ∃ (v28_0_2 : Value), r28 = .agg #[v28_0_0, v28_0_1, v28_0_2] ∧
      vNew h_14 (.cells #[.slice none 0 0, .slice none 0 0, .slice none 0 0] t_impl_Desk) fun p8 h_15 =>
      vStore1 h_15 p8 v28_0_0 fun h_16 =>
      vStore1 h_16 (p8.add 1) v28_0_1 fun h_17 =>
      vStore1 h_17 (p8.add 2) v28_0_2 fun h_18 =>
      ldV h_18 p7 fun v29_0 =>
      ldV h_18 (p7.add 1) fun v29_1 =>
      ldV h_18 (p7.add 2) fun v29_2 =>
      ldV h_18 p8 fun v30_0 =>
      ldV h_18 (p8.add 1) fun v30_1 =>
      ldV h_18 (p8.add 2) fun v30_2 =>
      CallsH P id_impl_SameDesk #[.agg #[v29_0, v29_1, v29_2], .agg #[v30_0, v30_1, v30_2]] h_18 fun r31 h_19 => ∃ (b31 : Bool), r31 = .bool b31 ∧
      bif !(b31 == b24) then
        R (.bool false) h_19
      else
        ldV h_19 p2 fun v36_0 =>
        ldV h_19 (p2.add 1) fun v36_1 =>
        ldV h_19 (p2.add 2) fun v36_2 =>
        CallsH P id_laws_toDesk #[.agg #[v36_0, v36_1, v36_2]] h_19 fun r37 h_20 => ∃ (v37_0_0 : Value), ∃ (v37_0_1 : Value), ∃ (v37_0_2 : Value), r37 = .agg #[v37_0_0, v37_0_1, v37_0_2] ∧
        ExtH h_19 h_20 ∧
        ldV h_19 p7 fun v35_0 =>
        ldV h_19 (p7.add 1) fun v35_1 =>
        ldV h_19 (p7.add 2) fun v35_2 =>
        CallsH P id_laws_eqDesk #[.agg #[v35_0, v35_1, v35_2], .agg #[v37_0_0, v37_0_1, v37_0_2]] h_20 fun r38 h_21 => ∃ (b38 : Bool), r38 = .bool b38 ∧
        bif !b38 then
          R (.bool false) h_21
        else
          ldV h_21 p3 fun v41_0 =>
          ldV h_21 (p3.add 1) fun v41_1 =>
          ldV h_21 (p3.add 2) fun v41_2 =>
          CallsH P id_laws_toDesk #[.agg #[v41_0, v41_1, v41_2]] h_21 fun r42 h_22 => ∃ (v42_0_0 : Value), ∃ (v42_0_1 : Value), ∃ (v42_0_2 : Value), r42 = .agg #[v42_0_0, v42_0_1, v42_0_2] ∧
          ExtH h_21 h_22 ∧
          ldV h_21 p8 fun v40_0 =>
          ldV h_21 (p8.add 1) fun v40_1 =>
          ldV h_21 (p8.add 2) fun v40_2 =>
          CallsH P id_laws_eqDesk #[.agg #[v40_0, v40_1, v40_2], .agg #[v42_0_0, v42_0_1, v42_0_2]] h_22 fun r43 h_23 => ∃ (b43 : Bool), r43 = .bool b43 ∧
          bif !b43 then
            R (.bool false) h_23
          else
            R (.bool true) h_23
theorem w_laws_FnExactSameDesk {R : Value → Heap → Prop} {v0_0 : Value} {v0_1 : Value} {v0_2 : Value} {v1_0 : Value} {v1_1 : Value} {v1_2 : Value} {h : Heap} (hv : F_laws_FnExactSameDesk R v0_0 v0_1 v0_2 v1_0 v1_1 v1_2 h) : CallsH P id_laws_FnExactSameDesk #[.agg #[v0_0, v0_1, v0_2], .agg #[v1_0, v1_1, v1_2]] h R :=
  callsH_of_vc ctxOk ⟨[], []⟩ Try.func4 [.agg #[v0_0, v0_1, v0_2], .agg #[v1_0, v1_1, v1_2]] h R (by kernel_rfl) (Eq.mpr (by kernel_rfl) hv)
end Go.Proofs.Ytclgicpmbcbjlaa
