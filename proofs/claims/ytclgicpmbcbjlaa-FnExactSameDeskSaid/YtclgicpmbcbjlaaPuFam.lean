/- Sizes, copies and equality of the data of the statements: printed by pfam.py. -/
import Derived.Test.YtclgicpmbcbjlaaPuFns
import Derived.Test.YtclgicpmbcbjlaaPuLib
namespace Go.Proofs.Ytclgicpmbcbjlaa
open Go Go.Vc
set_option linter.unusedSimpArgs false
set_option linter.unusedVariables false
theorem sz_Int64S : Sz p_laws_szInt64S (OkL I64) (SmL (fun _ => True)) := by
  intro xs left hok h0 h1
  have hM := hok.1
  unfold M63 at hM
  unfold p_laws_szInt64S
  rw [sz_sub h0 h1 (by omega) (by omega)]
  by_cases hlt : left - (xs.length : Int) < 0
  · have : decide (left - (xs.length : Int) < 0) = true := by simpa using hlt
    rw [this]; exact ⟨-1, rfl, .inl rfl⟩
  · have : decide (left - (xs.length : Int) < 0) = false := by simpa using hlt
    rw [this]; exact ⟨_, rfl, .inr ⟨by omega, by omega, by omega, fun _ _ => trivial⟩⟩
theorem sz_StringS : Sz p_laws_szStringS (OkL OkS) (SmL (fun _ => True)) := by
  refine sz_slice (f := fun x l => bif decide ((IntKind.i64.wrap (l - (x.size : Int)) : Int) < 0) then some (-1) else some (IntKind.i64.wrap (l - (x.size : Int)))) (B := p_laws_szStringS_b1) ?_ (fun xs left => rfl) ?_ ?_
  · intro x left hok h0 h1
    have hM : x.size ≤ M63 := hok
    unfold M63 at hM
    simp only []
    rw [sz_sub h0 h1 (by omega) (by omega)]
    by_cases hlt : left - (x.size : Int) < 0
    · have : decide (left - (x.size : Int) < 0) = true := by simpa using hlt
      rw [this]; exact ⟨-1, rfl, .inl rfl⟩
    · have : decide (left - (x.size : Int) < 0) = false := by simpa using hlt
      rw [this]; exact ⟨_, rfl, .inr ⟨by omega, by omega, trivial⟩⟩
  · intro xs k x l r hx hr
    rw [p_laws_szStringS_b1, lt_t (get_lt' hx), gIdx_of hx]
    show (bif decide (IntKind.i64.wrap (l - (x.size : Int)) < 0) then _ else _) = _
    cases hd : decide ((IntKind.i64.wrap (l - (x.size : Int)) : Int) < 0) with
    | true => rw [hd] at hr; cases hr; rfl
    | false => rw [hd] at hr; cases hr; rw [hd]; rfl
  · intro xs l
    rw [p_laws_szStringS_b1, lt_f]; rfl
def Ok_T_laws_Recipe (x : T_laws_Recipe) : Prop := OkS x.Name ∧ OkS x.Verb ∧ (OkL I64) x.Args ∧ (OkL OkS) x.Uses
def Sm_T_laws_Recipe (x : T_laws_Recipe) : Prop := (SmL (fun _ => True)) x.Args ∧ (SmL (fun _ => True)) x.Uses
theorem sz_Recipe : Sz p_laws_szRecipe Ok_T_laws_Recipe Sm_T_laws_Recipe := by
  intro x left hok h0 h1
  unfold p_laws_szRecipe
  obtain ⟨k0, k1, k2, k3⟩ := hok
  have m0 : x.Name.size ≤ 9223372036854775807 := k0
  rw [sz_sub (left := left) (n := (x.Name.size : Int)) (by omega) (by omega) (by omega) (by omega)]
  by_cases q0 : left - (x.Name.size : Int) < 0
  · have : decide (left - (x.Name.size : Int) < 0) = true := by simpa using q0
    rw [this]; exact ⟨-1, rfl, .inl rfl⟩
  have e0 : decide (left - (x.Name.size : Int) < 0) = false := by simpa using q0
  rw [e0]
  simp only [cond_false]
  have m1 : x.Verb.size ≤ 9223372036854775807 := k1
  rw [sz_sub (left := (left - (x.Name.size : Int))) (n := (x.Verb.size : Int)) (by omega) (by omega) (by omega) (by omega)]
  by_cases q1 : (left - (x.Name.size : Int)) - (x.Verb.size : Int) < 0
  · have : decide ((left - (x.Name.size : Int)) - (x.Verb.size : Int) < 0) = true := by simpa using q1
    rw [this]; exact ⟨-1, rfl, .inl rfl⟩
  have e1 : decide ((left - (x.Name.size : Int)) - (x.Verb.size : Int) < 0) = false := by simpa using q1
  rw [e1]
  simp only [cond_false]
  obtain ⟨r2, e2, c2⟩ := sz_Int64S x.Args ((left - (x.Name.size : Int)) - (x.Verb.size : Int)) k2 (by omega) (by omega)
  first | rw [e2] | rw [show p_laws_szInt64S _ _ = some r2 from e2]
  simp only [Option.bind_some]
  rcases c2 with rfl | ⟨l2, g2, s2⟩
  · exact ⟨-1, rfl, .inl rfl⟩
  have d2 : decide (r2 < 0) = false := by simpa using l2
  rw [d2]
  simp only [cond_false]
  obtain ⟨r3, e3, c3⟩ := sz_StringS x.Uses r2 k3 (by omega) (by omega)
  first | rw [e3] | rw [show p_laws_szStringS _ _ = some r3 from e3]
  simp only [Option.bind_some]
  rcases c3 with rfl | ⟨l3, g3, s3⟩
  · exact ⟨-1, rfl, .inl rfl⟩
  have d3 : decide (r3 < 0) = false := by simpa using l3
  rw [d3]
  simp only [cond_false]
  exact ⟨_, rfl, .inr ⟨by omega, by omega, ⟨s2, s3⟩⟩⟩
theorem sz_RecipeS : Sz p_laws_szRecipeS (OkL Ok_T_laws_Recipe) (SmL Sm_T_laws_Recipe) := by
  refine sz_slice (f := p_laws_szRecipe) (B := p_laws_szRecipeS_b1) sz_Recipe (fun xs left => rfl) ?_ ?_
  · intro xs k x l r hx hr
    rw [p_laws_szRecipeS_b1, lt_t (get_lt' hx), gIdx_of hx]
    simp only [cond_true, Option.bind_some]
    rw [show p_laws_szRecipe _ l = some r from hr]
    simp only [Option.bind_some]
    cases decide (r < 0) <;> rfl
  · intro xs l
    rw [p_laws_szRecipeS_b1, lt_f]; rfl
theorem sz_Int64SS : Sz p_laws_szInt64SS (OkL (OkL I64)) (SmL (SmL (fun _ => True))) := by
  refine sz_slice (f := p_laws_szInt64S) (B := p_laws_szInt64SS_b1) sz_Int64S (fun xs left => rfl) ?_ ?_
  · intro xs k x l r hx hr
    rw [p_laws_szInt64SS_b1, lt_t (get_lt' hx), gIdx_of hx]
    simp only [cond_true, Option.bind_some]
    rw [show p_laws_szInt64S _ l = some r from hr]
    simp only [Option.bind_some]
    cases decide (r < 0) <;> rfl
  · intro xs l
    rw [p_laws_szInt64SS_b1, lt_f]; rfl
def Ok_T_laws_Object (x : T_laws_Object) : Prop := I64 x.Kind ∧ I64 x.Size ∧ (OkL (OkL I64)) x.Rows
def Sm_T_laws_Object (x : T_laws_Object) : Prop := (SmL (SmL (fun _ => True))) x.Rows
theorem sz_Object : Sz p_laws_szObject Ok_T_laws_Object Sm_T_laws_Object := by
  intro x left hok h0 h1
  unfold p_laws_szObject
  obtain ⟨k0, k1, k2⟩ := hok
  obtain ⟨r2, e2, c2⟩ := sz_Int64SS x.Rows left k2 (by omega) (by omega)
  first | rw [e2] | rw [show p_laws_szInt64SS _ _ = some r2 from e2]
  simp only [Option.bind_some]
  rcases c2 with rfl | ⟨l2, g2, s2⟩
  · exact ⟨-1, rfl, .inl rfl⟩
  have d2 : decide (r2 < 0) = false := by simpa using l2
  rw [d2]
  simp only [cond_false]
  exact ⟨_, rfl, .inr ⟨by omega, by omega, s2⟩⟩
theorem sz_ObjectS : Sz p_laws_szObjectS (OkL Ok_T_laws_Object) (SmL Sm_T_laws_Object) := by
  refine sz_slice (f := p_laws_szObject) (B := p_laws_szObjectS_b1) sz_Object (fun xs left => rfl) ?_ ?_
  · intro xs k x l r hx hr
    rw [p_laws_szObjectS_b1, lt_t (get_lt' hx), gIdx_of hx]
    simp only [cond_true, Option.bind_some]
    rw [show p_laws_szObject _ l = some r from hr]
    simp only [Option.bind_some]
    cases decide (r < 0) <;> rfl
  · intro xs l
    rw [p_laws_szObjectS_b1, lt_f]; rfl
def Ok_T_laws_Lab (x : T_laws_Lab) : Prop := (OkL Ok_T_laws_Recipe) x.Recipes ∧ (OkL Ok_T_laws_Object) x.Objects
def Sm_T_laws_Lab (x : T_laws_Lab) : Prop := (SmL Sm_T_laws_Recipe) x.Recipes ∧ (SmL Sm_T_laws_Object) x.Objects
theorem sz_Lab : Sz p_laws_szLab Ok_T_laws_Lab Sm_T_laws_Lab := by
  intro x left hok h0 h1
  unfold p_laws_szLab
  obtain ⟨k0, k1⟩ := hok
  obtain ⟨r0, e0, c0⟩ := sz_RecipeS x.Recipes left k0 (by omega) (by omega)
  first | rw [e0] | rw [show p_laws_szRecipeS _ _ = some r0 from e0]
  simp only [Option.bind_some]
  rcases c0 with rfl | ⟨l0, g0, s0⟩
  · exact ⟨-1, rfl, .inl rfl⟩
  have d0 : decide (r0 < 0) = false := by simpa using l0
  rw [d0]
  simp only [cond_false]
  obtain ⟨r1, e1, c1⟩ := sz_ObjectS x.Objects r0 k1 (by omega) (by omega)
  first | rw [e1] | rw [show p_laws_szObjectS _ _ = some r1 from e1]
  simp only [Option.bind_some]
  rcases c1 with rfl | ⟨l1, g1, s1⟩
  · exact ⟨-1, rfl, .inl rfl⟩
  have d1 : decide (r1 < 0) = false := by simpa using l1
  rw [d1]
  simp only [cond_false]
  exact ⟨_, rfl, .inr ⟨by omega, by omega, ⟨s0, s1⟩⟩⟩
def Ok_T_laws_Item (x : T_laws_Item) : Prop := OkS x.Name ∧ Ok_T_laws_Object x.Object ∧ OkS x.Key
def Sm_T_laws_Item (x : T_laws_Item) : Prop := Sm_T_laws_Object x.Object
theorem sz_Item : Sz p_laws_szItem Ok_T_laws_Item Sm_T_laws_Item := by
  intro x left hok h0 h1
  unfold p_laws_szItem
  obtain ⟨k0, k1, k2⟩ := hok
  have m0 : x.Name.size ≤ 9223372036854775807 := k0
  rw [sz_sub (left := left) (n := (x.Name.size : Int)) (by omega) (by omega) (by omega) (by omega)]
  by_cases q0 : left - (x.Name.size : Int) < 0
  · have : decide (left - (x.Name.size : Int) < 0) = true := by simpa using q0
    rw [this]; exact ⟨-1, rfl, .inl rfl⟩
  have e0 : decide (left - (x.Name.size : Int) < 0) = false := by simpa using q0
  rw [e0]
  simp only [cond_false]
  obtain ⟨r1, e1, c1⟩ := sz_Object x.Object (left - (x.Name.size : Int)) k1 (by omega) (by omega)
  first | rw [e1] | rw [show p_laws_szObject _ _ = some r1 from e1]
  simp only [Option.bind_some]
  rcases c1 with rfl | ⟨l1, g1, s1⟩
  · exact ⟨-1, rfl, .inl rfl⟩
  have d1 : decide (r1 < 0) = false := by simpa using l1
  rw [d1]
  simp only [cond_false]
  have m2 : x.Key.size ≤ 9223372036854775807 := k2
  rw [sz_sub (left := r1) (n := (x.Key.size : Int)) (by omega) (by omega) (by omega) (by omega)]
  by_cases q2 : r1 - (x.Key.size : Int) < 0
  · have : decide (r1 - (x.Key.size : Int) < 0) = true := by simpa using q2
    rw [this]; exact ⟨-1, rfl, .inl rfl⟩
  have e2 : decide (r1 - (x.Key.size : Int) < 0) = false := by simpa using q2
  rw [e2]
  simp only [cond_false]
  exact ⟨_, rfl, .inr ⟨by omega, by omega, s1⟩⟩
theorem sz_ItemS : Sz p_laws_szItemS (OkL Ok_T_laws_Item) (SmL Sm_T_laws_Item) := by
  refine sz_slice (f := p_laws_szItem) (B := p_laws_szItemS_b1) sz_Item (fun xs left => rfl) ?_ ?_
  · intro xs k x l r hx hr
    rw [p_laws_szItemS_b1, lt_t (get_lt' hx), gIdx_of hx]
    simp only [cond_true, Option.bind_some]
    rw [show p_laws_szItem _ l = some r from hr]
    simp only [Option.bind_some]
    cases decide (r < 0) <;> rfl
  · intro xs l
    rw [p_laws_szItemS_b1, lt_f]; rfl
def Ok_T_laws_Catalog (x : T_laws_Catalog) : Prop := (OkL Ok_T_laws_Item) x.Items
def Sm_T_laws_Catalog (x : T_laws_Catalog) : Prop := (SmL Sm_T_laws_Item) x.Items
theorem sz_Catalog : Sz p_laws_szCatalog Ok_T_laws_Catalog Sm_T_laws_Catalog := by
  intro x left hok h0 h1
  unfold p_laws_szCatalog
  have k0 := hok
  obtain ⟨r0, e0, c0⟩ := sz_ItemS x.Items left k0 (by omega) (by omega)
  first | rw [e0] | rw [show p_laws_szItemS _ _ = some r0 from e0]
  simp only [Option.bind_some]
  rcases c0 with rfl | ⟨l0, g0, s0⟩
  · exact ⟨-1, rfl, .inl rfl⟩
  have d0 : decide (r0 < 0) = false := by simpa using l0
  rw [d0]
  simp only [cond_false]
  exact ⟨_, rfl, .inr ⟨by omega, by omega, s0⟩⟩
def Ok_T_laws_Desk (x : T_laws_Desk) : Prop := Ok_T_laws_Lab x.Lab ∧ Ok_T_laws_Catalog x.Catalog
def Sm_T_laws_Desk (x : T_laws_Desk) : Prop := Sm_T_laws_Lab x.Lab ∧ Sm_T_laws_Catalog x.Catalog
theorem sz_Desk : Sz p_laws_szDesk Ok_T_laws_Desk Sm_T_laws_Desk := by
  intro x left hok h0 h1
  unfold p_laws_szDesk
  obtain ⟨k0, k1⟩ := hok
  obtain ⟨r0, e0, c0⟩ := sz_Lab x.Lab left k0 (by omega) (by omega)
  first | rw [e0] | rw [show p_laws_szLab _ _ = some r0 from e0]
  simp only [Option.bind_some]
  rcases c0 with rfl | ⟨l0, g0, s0⟩
  · exact ⟨-1, rfl, .inl rfl⟩
  have d0 : decide (r0 < 0) = false := by simpa using l0
  rw [d0]
  simp only [cond_false]
  obtain ⟨r1, e1, c1⟩ := sz_Catalog x.Catalog r0 k1 (by omega) (by omega)
  first | rw [e1] | rw [show p_laws_szCatalog _ _ = some r1 from e1]
  simp only [Option.bind_some]
  rcases c1 with rfl | ⟨l1, g1, s1⟩
  · exact ⟨-1, rfl, .inl rfl⟩
  have d1 : decide (r1 < 0) = false := by simpa using l1
  rw [d1]
  simp only [cond_false]
  exact ⟨_, rfl, .inr ⟨by omega, by omega, ⟨s0, s1⟩⟩⟩
theorem to_Int64S {x : List Int} (h : (SmL (fun _ => True)) x) : p_laws_toInt64S x = some ((List.map (fun x => x)) x) := by
  unfold p_laws_toInt64S
  have hl := h.1
  rw [gMake_of (by omega) (by omega)]
  refine (loop_fill (c := (fun x => x)) (g := fun xs => xs) (by unfold M63; omega) ?_ ?_)
  · intro k a xs x0 ha hx
    rw [p_laws_toInt64S_b1, lt_t (get_lt' ha), gIdx_of ha, gIdx_of hx]
    rfl
  · intro xs
    rw [p_laws_toInt64S_b1, lt_f]; rfl
theorem to_StringS {x : List ByteArray} (h : (SmL (fun _ => True)) x) : p_laws_toStringS x = some ((List.map (fun x => x)) x) := by
  unfold p_laws_toStringS
  have hl := h.1
  rw [gMake_of (by omega) (by omega)]
  refine (loop_fill (c := (fun x => x)) (g := fun xs => xs) (by unfold M63; omega) ?_ ?_)
  · intro k a xs x0 ha hx
    rw [p_laws_toStringS_b1, lt_t (get_lt' ha), gIdx_of ha, gIdx_of hx]
    rfl
  · intro xs
    rw [p_laws_toStringS_b1, lt_f]; rfl
def cv_T_laws_Recipe (x : T_laws_Recipe) : T_impl_Recipe := T_impl_Recipe.mk x.Name x.Verb ((List.map (fun x => x)) x.Args) ((List.map (fun x => x)) x.Uses)
theorem to_Recipe {x : T_laws_Recipe} (h : Sm_T_laws_Recipe x) : p_laws_toRecipe x = some (cv_T_laws_Recipe x) := by
  unfold p_laws_toRecipe
  obtain ⟨h2, h3⟩ := h
  rw [show p_laws_toInt64S _ = _ from to_Int64S h2]
  simp only [Option.bind_some]
  rw [show p_laws_toStringS _ = _ from to_StringS h3]
  simp only [Option.bind_some]
  rfl
theorem to_RecipeS {x : List T_laws_Recipe} (h : (SmL Sm_T_laws_Recipe) x) : p_laws_toRecipeS x = some ((List.map cv_T_laws_Recipe) x) := by
  unfold p_laws_toRecipeS
  have hl := h.1
  rw [gMake_of (by omega) (by omega)]
  refine (loop_fill (c := cv_T_laws_Recipe) (g := fun xs => xs) (by unfold M63; omega) ?_ ?_)
  · intro k a xs x0 ha hx
    rw [p_laws_toRecipeS_b1, lt_t (get_lt' ha), gIdx_of ha, gIdx_of hx]
    simp only [cond_true, Option.bind_some]
    rw [show p_laws_toRecipe _ = _ from to_Recipe (h.2 a (List.mem_of_getElem? ha))]
    rfl
  · intro xs
    rw [p_laws_toRecipeS_b1, lt_f]; rfl
theorem to_Int64SS {x : List (List Int)} (h : (SmL (SmL (fun _ => True))) x) : p_laws_toInt64SS x = some ((List.map (List.map (fun x => x))) x) := by
  unfold p_laws_toInt64SS
  have hl := h.1
  rw [gMake_of (by omega) (by omega)]
  refine (loop_fill (c := (List.map (fun x => x))) (g := fun xs => xs) (by unfold M63; omega) ?_ ?_)
  · intro k a xs x0 ha hx
    rw [p_laws_toInt64SS_b1, lt_t (get_lt' ha), gIdx_of ha, gIdx_of hx]
    simp only [cond_true, Option.bind_some]
    rw [show p_laws_toInt64S _ = _ from to_Int64S (h.2 a (List.mem_of_getElem? ha))]
    rfl
  · intro xs
    rw [p_laws_toInt64SS_b1, lt_f]; rfl
def cv_T_laws_Object (x : T_laws_Object) : T_impl_Object := T_impl_Object.mk x.Kind x.Size ((List.map (List.map (fun x => x))) x.Rows)
theorem to_Object {x : T_laws_Object} (h : Sm_T_laws_Object x) : p_laws_toObject x = some (cv_T_laws_Object x) := by
  unfold p_laws_toObject
  have h2 := h
  rw [show p_laws_toInt64SS _ = _ from to_Int64SS h2]
  simp only [Option.bind_some]
  rfl
theorem to_ObjectS {x : List T_laws_Object} (h : (SmL Sm_T_laws_Object) x) : p_laws_toObjectS x = some ((List.map cv_T_laws_Object) x) := by
  unfold p_laws_toObjectS
  have hl := h.1
  rw [gMake_of (by omega) (by omega)]
  refine (loop_fill (c := cv_T_laws_Object) (g := fun xs => xs) (by unfold M63; omega) ?_ ?_)
  · intro k a xs x0 ha hx
    rw [p_laws_toObjectS_b1, lt_t (get_lt' ha), gIdx_of ha, gIdx_of hx]
    simp only [cond_true, Option.bind_some]
    rw [show p_laws_toObject _ = _ from to_Object (h.2 a (List.mem_of_getElem? ha))]
    rfl
  · intro xs
    rw [p_laws_toObjectS_b1, lt_f]; rfl
def cv_T_laws_Lab (x : T_laws_Lab) : T_impl_Lab := T_impl_Lab.mk ((List.map cv_T_laws_Recipe) x.Recipes) ((List.map cv_T_laws_Object) x.Objects)
theorem to_Lab {x : T_laws_Lab} (h : Sm_T_laws_Lab x) : p_laws_toLab x = some (cv_T_laws_Lab x) := by
  unfold p_laws_toLab
  obtain ⟨h0, h1⟩ := h
  rw [show p_laws_toRecipeS _ = _ from to_RecipeS h0]
  simp only [Option.bind_some]
  rw [show p_laws_toObjectS _ = _ from to_ObjectS h1]
  simp only [Option.bind_some]
  rfl
def cv_T_laws_Item (x : T_laws_Item) : T_impl_Item := T_impl_Item.mk x.Name (cv_T_laws_Object x.Object) x.Key
theorem to_Item {x : T_laws_Item} (h : Sm_T_laws_Item x) : p_laws_toItem x = some (cv_T_laws_Item x) := by
  unfold p_laws_toItem
  have h1 := h
  rw [show p_laws_toObject _ = _ from to_Object h1]
  simp only [Option.bind_some]
  rfl
theorem to_ItemS {x : List T_laws_Item} (h : (SmL Sm_T_laws_Item) x) : p_laws_toItemS x = some ((List.map cv_T_laws_Item) x) := by
  unfold p_laws_toItemS
  have hl := h.1
  rw [gMake_of (by omega) (by omega)]
  refine (loop_fill (c := cv_T_laws_Item) (g := fun xs => xs) (by unfold M63; omega) ?_ ?_)
  · intro k a xs x0 ha hx
    rw [p_laws_toItemS_b1, lt_t (get_lt' ha), gIdx_of ha, gIdx_of hx]
    simp only [cond_true, Option.bind_some]
    rw [show p_laws_toItem _ = _ from to_Item (h.2 a (List.mem_of_getElem? ha))]
    rfl
  · intro xs
    rw [p_laws_toItemS_b1, lt_f]; rfl
def cv_T_laws_Catalog (x : T_laws_Catalog) : T_impl_Catalog := T_impl_Catalog.mk ((List.map cv_T_laws_Item) x.Items)
theorem to_Catalog {x : T_laws_Catalog} (h : Sm_T_laws_Catalog x) : p_laws_toCatalog x = some (cv_T_laws_Catalog x) := by
  unfold p_laws_toCatalog
  have h0 := h
  rw [show p_laws_toItemS _ = _ from to_ItemS h0]
  simp only [Option.bind_some]
  rfl
def cv_T_laws_Desk (x : T_laws_Desk) : T_impl_Desk := T_impl_Desk.mk (cv_T_laws_Lab x.Lab) (cv_T_laws_Catalog x.Catalog)
theorem to_Desk {x : T_laws_Desk} (h : Sm_T_laws_Desk x) : p_laws_toDesk x = some (cv_T_laws_Desk x) := by
  unfold p_laws_toDesk
  obtain ⟨h0, h1⟩ := h
  rw [show p_laws_toLab _ = _ from to_Lab h0]
  simp only [Option.bind_some]
  rw [show p_laws_toCatalog _ = _ from to_Catalog h1]
  simp only [Option.bind_some]
  rfl
theorem eq_Int64S {a b : List Int} (h : (OkL (fun _ => True)) a) : IsQ (p_laws_eqInt64S a b) (a = b) := by
  unfold p_laws_eqInt64S
  refine eq_slice (B := p_laws_eqInt64S_b1 a b) h.1 (fun k x y hx hy => ?_) ?_
  · rw [p_laws_eqInt64S_b1, lt_t (get_lt' hx), gIdx_of hx, gIdx_of hy]
    simp only [cond_true, Option.bind_some]
    refine step_of (c := x == y) (by simp) ?_
    rw [bne]; cases (x == y) <;> rfl
  · rw [p_laws_eqInt64S_b1, lt_f]; rfl
theorem eq_StringS {a b : List ByteArray} (h : (OkL (fun _ => True)) a) : IsQ (p_laws_eqStringS a b) (a = b) := by
  unfold p_laws_eqStringS
  refine eq_slice (B := p_laws_eqStringS_b1 a b) h.1 (fun k x y hx hy => ?_) ?_
  · rw [p_laws_eqStringS_b1, lt_t (get_lt' hx), gIdx_of hx, gIdx_of hy]
    simp only [cond_true, Option.bind_some]
    refine step_of (c := x.toList == y.toList) (str_eq x y) ?_
    cases (x.toList == y.toList) <;> rfl
  · rw [p_laws_eqStringS_b1, lt_f]; rfl
def Lm_T_impl_Recipe (x : T_impl_Recipe) : Prop := (OkL (fun _ => True)) x.Args ∧ (OkL (fun _ => True)) x.Uses
theorem eq_Recipe {a b : T_impl_Recipe} (h : Lm_T_impl_Recipe a) : IsQ (p_laws_eqRecipe a b) (a = b) := by
  unfold p_laws_eqRecipe
  obtain ⟨h2, h3⟩ := h
  refine q_strne (fun e0 => ?_) (fun hn hq => hn (by rw [hq]))
  refine q_strne (fun e1 => ?_) (fun hn hq => hn (by rw [hq]))
  refine q_sub (eq_Int64S (a := a.Args) (b := b.Args) h2) (fun e2 => ?_) (fun hn hq => hn (by rw [hq]))
  refine q_sub (eq_StringS (a := a.Uses) (b := b.Uses) h3) (fun e3 => ?_) (fun hn hq => hn (by rw [hq]))
  refine IsQ.t ?_
  cases a; cases b; simp_all
theorem eq_RecipeS {a b : List T_impl_Recipe} (h : (OkL Lm_T_impl_Recipe) a) : IsQ (p_laws_eqRecipeS a b) (a = b) := by
  unfold p_laws_eqRecipeS
  refine eq_slice (B := p_laws_eqRecipeS_b1 a b) h.1 (fun k x y hx hy => ?_) ?_
  · rw [p_laws_eqRecipeS_b1, lt_t (get_lt' hx), gIdx_of hx, gIdx_of hy]
    simp only [cond_true, Option.bind_some]
    obtain ⟨c, hc, hq⟩ := eq_Recipe (a := x) (b := y) (h.2 x (List.mem_of_getElem? hx))
    rw [show p_laws_eqRecipe _ _ = _ from hc]
    simp only [Option.bind_some]
    refine step_of hq ?_
    cases c <;> rfl
  · rw [p_laws_eqRecipeS_b1, lt_f]; rfl
theorem eq_Int64SS {a b : List (List Int)} (h : (OkL (OkL (fun _ => True))) a) : IsQ (p_laws_eqInt64SS a b) (a = b) := by
  unfold p_laws_eqInt64SS
  refine eq_slice (B := p_laws_eqInt64SS_b1 a b) h.1 (fun k x y hx hy => ?_) ?_
  · rw [p_laws_eqInt64SS_b1, lt_t (get_lt' hx), gIdx_of hx, gIdx_of hy]
    simp only [cond_true, Option.bind_some]
    obtain ⟨c, hc, hq⟩ := eq_Int64S (a := x) (b := y) (h.2 x (List.mem_of_getElem? hx))
    rw [show p_laws_eqInt64S _ _ = _ from hc]
    simp only [Option.bind_some]
    refine step_of hq ?_
    cases c <;> rfl
  · rw [p_laws_eqInt64SS_b1, lt_f]; rfl
def Lm_T_impl_Object (x : T_impl_Object) : Prop := (OkL (OkL (fun _ => True))) x.Rows
theorem eq_Object {a b : T_impl_Object} (h : Lm_T_impl_Object a) : IsQ (p_laws_eqObject a b) (a = b) := by
  unfold p_laws_eqObject
  have h2 := h
  refine q_ne (fun e0 => ?_) (fun hn hq => hn (by rw [hq]))
  refine q_ne (fun e1 => ?_) (fun hn hq => hn (by rw [hq]))
  refine q_sub (eq_Int64SS (a := a.Rows) (b := b.Rows) h2) (fun e2 => ?_) (fun hn hq => hn (by rw [hq]))
  refine IsQ.t ?_
  cases a; cases b; simp_all
theorem eq_ObjectS {a b : List T_impl_Object} (h : (OkL Lm_T_impl_Object) a) : IsQ (p_laws_eqObjectS a b) (a = b) := by
  unfold p_laws_eqObjectS
  refine eq_slice (B := p_laws_eqObjectS_b1 a b) h.1 (fun k x y hx hy => ?_) ?_
  · rw [p_laws_eqObjectS_b1, lt_t (get_lt' hx), gIdx_of hx, gIdx_of hy]
    simp only [cond_true, Option.bind_some]
    obtain ⟨c, hc, hq⟩ := eq_Object (a := x) (b := y) (h.2 x (List.mem_of_getElem? hx))
    rw [show p_laws_eqObject _ _ = _ from hc]
    simp only [Option.bind_some]
    refine step_of hq ?_
    cases c <;> rfl
  · rw [p_laws_eqObjectS_b1, lt_f]; rfl
def Lm_T_impl_Lab (x : T_impl_Lab) : Prop := (OkL Lm_T_impl_Recipe) x.Recipes ∧ (OkL Lm_T_impl_Object) x.Objects
theorem eq_Lab {a b : T_impl_Lab} (h : Lm_T_impl_Lab a) : IsQ (p_laws_eqLab a b) (a = b) := by
  unfold p_laws_eqLab
  obtain ⟨h0, h1⟩ := h
  refine q_sub (eq_RecipeS (a := a.Recipes) (b := b.Recipes) h0) (fun e0 => ?_) (fun hn hq => hn (by rw [hq]))
  refine q_sub (eq_ObjectS (a := a.Objects) (b := b.Objects) h1) (fun e1 => ?_) (fun hn hq => hn (by rw [hq]))
  refine IsQ.t ?_
  cases a; cases b; simp_all
def Lm_T_impl_Item (x : T_impl_Item) : Prop := Lm_T_impl_Object x.Object
theorem eq_Item {a b : T_impl_Item} (h : Lm_T_impl_Item a) : IsQ (p_laws_eqItem a b) (a = b) := by
  unfold p_laws_eqItem
  have h1 := h
  refine q_strne (fun e0 => ?_) (fun hn hq => hn (by rw [hq]))
  refine q_sub (eq_Object (a := a.Object) (b := b.Object) h1) (fun e1 => ?_) (fun hn hq => hn (by rw [hq]))
  refine q_strne (fun e2 => ?_) (fun hn hq => hn (by rw [hq]))
  refine IsQ.t ?_
  cases a; cases b; simp_all
theorem eq_ItemS {a b : List T_impl_Item} (h : (OkL Lm_T_impl_Item) a) : IsQ (p_laws_eqItemS a b) (a = b) := by
  unfold p_laws_eqItemS
  refine eq_slice (B := p_laws_eqItemS_b1 a b) h.1 (fun k x y hx hy => ?_) ?_
  · rw [p_laws_eqItemS_b1, lt_t (get_lt' hx), gIdx_of hx, gIdx_of hy]
    simp only [cond_true, Option.bind_some]
    obtain ⟨c, hc, hq⟩ := eq_Item (a := x) (b := y) (h.2 x (List.mem_of_getElem? hx))
    rw [show p_laws_eqItem _ _ = _ from hc]
    simp only [Option.bind_some]
    refine step_of hq ?_
    cases c <;> rfl
  · rw [p_laws_eqItemS_b1, lt_f]; rfl
def Lm_T_impl_Catalog (x : T_impl_Catalog) : Prop := (OkL Lm_T_impl_Item) x.Items
theorem eq_Catalog {a b : T_impl_Catalog} (h : Lm_T_impl_Catalog a) : IsQ (p_laws_eqCatalog a b) (a = b) := by
  unfold p_laws_eqCatalog
  have h0 := h
  refine q_sub (eq_ItemS (a := a.Items) (b := b.Items) h0) (fun e0 => ?_) (fun hn hq => hn (by rw [hq]))
  refine IsQ.t ?_
  cases a; cases b; simp_all
def Lm_T_impl_Desk (x : T_impl_Desk) : Prop := Lm_T_impl_Lab x.Lab ∧ Lm_T_impl_Catalog x.Catalog
theorem eq_Desk {a b : T_impl_Desk} (h : Lm_T_impl_Desk a) : IsQ (p_laws_eqDesk a b) (a = b) := by
  unfold p_laws_eqDesk
  obtain ⟨h0, h1⟩ := h
  refine q_sub (eq_Lab (a := a.Lab) (b := b.Lab) h0) (fun e0 => ?_) (fun hn hq => hn (by rw [hq]))
  refine q_sub (eq_Catalog (a := a.Catalog) (b := b.Catalog) h1) (fun e1 => ?_) (fun hn hq => hn (by rw [hq]))
  refine IsQ.t ?_
  cases a; cases b; simp_all
end Go.Proofs.Ytclgicpmbcbjlaa
